/- Native programs of the functions, written by gen.py. -/
import Derived.Test.YtpmahbmokfaflaaT0
namespace Go.VE
noncomputable section
set_option linter.unusedVariables false
set_option linter.unusedSimpArgs false
set_option maxRecDepth 100000
abbrev q0T : Type := ((List (List dTxn)) × Int × (List (List dTxn)) × Int × Int)
abbrev q1T : Type := ((List (List dTxn)) × Int × Int × (List dTxn))
abbrev q2T : Type := ((List van) × (List van) × Bool × Int)
abbrev q3T : Type := ((List van) × Int × Int × Int)
abbrev q4T : Type := ((List dTxn) × (List dTxn) × Bool × Int)
abbrev q5T : Type := ((List dTxn) × Int × Bool × (List dTxn) × Int × Int)
abbrev q6T : Type := ((List dTxn) × Int × Int × Int × Int × Int × Int × Int × (List van) × (List vam) × Bool × ByteArray)
abbrev q7T : Type := ((List dTxn) × Int × Int × Int)
abbrev q8T : Type := ((List vac) × (List vac) × Bool × Int)
abbrev q9T : Type := ((List vac) × Bool × (List vac) × Int × Int)
abbrev q10T : Type := ((List vac) × Bool × Int × ByteArray × ByteArray × Bool × Int)
abbrev q11T : Type := ((List vac) × Int × Int × Int)
abbrev q12T : Type := ((List vam) × (List vam) × Bool × Int)
abbrev q13T : Type := ((List vam) × Bool × (List vam) × Int × Int)
abbrev q14T : Type := ((List vam) × Int × Int × Int)
abbrev q15T : Type := (Bool × (List van) × Int × Int × Int × Int × Int × Int × (List van) × (List vam) × Bool × ByteArray)
abbrev q16T : Type := (Bool × (List dTxn) × Int × Int × (List vac) × (List dTxn) × (List dTxn) × Int × Int)
abbrev q17T : Type := (Bool × (List vac) × (List dTxn) × (List dTxn) × Int × Int)
abbrev q18T : Type := (Bool × (List vac) × Int × Int × (List vac) × (List dTxn) × (List dTxn) × Int × Int)
abbrev q19T : Type := (Bool × ByteArray × Int × Bool)
abbrev q20T : Type := (Bool × Int × (List vac) × (List dTxn) × (List dTxn) × Int × Int × (List Int))
abbrev q21T : Type := (Bool × Int × (List vac) × (List dTxn) × (List dTxn) × Int × Int)
abbrev q22T : Type := (Bool × Int × Int × (List vac) × (List dTxn) × (List dTxn) × Int × Int × (List Int))
abbrev q23T : Type := (Bool × Int × Int × (List vac) × (List dTxn) × (List dTxn))
abbrev q24T : Type := (Bool × Int × Int × Int × (List vac) × (List dTxn) × (List dTxn))
abbrev q25T : Type := (Bool × Int × Int × Int × Int × (List van) × (List vam) × Bool × ByteArray)
abbrev q26T : Type := (Bool × Int × Int × Int × Int × Int × (List van) × (List vam) × Bool × ByteArray)
abbrev q27T : Type := (ByteArray × ByteArray × Int × Bool)
abbrev q28T : Type := (ByteArray × Int × Bool × (List dTxn))
abbrev q29T : Type := (ByteArray × Int × Bool × Int × Bool × Int × Int × Int × Int × (List vac) × (List dTxn) × (List dTxn) × (List vac) × (List dTxn) × (List dTxn))
abbrev q30T : Type := (ByteArray × Int × Bool × Int × Int × (List vac) × (List dTxn) × (List dTxn))
abbrev q31T : Type := (ByteArray × Int × Bool × Int × Int × (List vac) × (List dTxn))
abbrev q32T : Type := (ByteArray × Int × Bool × Int × Int × (List vac))
abbrev q33T : Type := (ByteArray × Int × Bool × Int × Int × Int × Int × Bool × ByteArray × (List van) × (List vam))
abbrev q34T : Type := (ByteArray × Int × Bool × Int × Int × Int × Int × Bool × ByteArray × (List van))
abbrev q35T : Type := (ByteArray × Int × Int × Int × Bool × Int × Int × Int)
abbrev q36T : Type := (ByteArray × Int × Int × Int × Bool × Int × Int)
abbrev q37T : Type := (Int × (List vac) × (List dTxn) × (List dTxn))
abbrev q38T : Type := (Int × Bool × Int × Int × ByteArray × Int × Bool × Int × Int × (List vac) × (List dTxn) × (List dTxn))
abbrev q39T : Type := (Int × Bool × Int × Int × Int × Int × Bool × ByteArray × ByteArray × Int × Bool × Int × Int × Int × Int × Bool × ByteArray × (List van) × (List vam))
abbrev q40T : Type := (Int × Int × (List vac) × (List dTxn) × ByteArray × Int × Bool × (List dTxn))
abbrev q41T : Type := (Int × Int × (List vac) × ByteArray × Int × Bool × (List dTxn))
abbrev q42T : Type := (Int × Int × ByteArray × Int × Bool × (List vac) × (List dTxn) × (List dTxn))
abbrev q43T : Type := (Int × Int × ByteArray × Int × Bool × (List vac))
abbrev q44T : Type := (Int × Int × ByteArray × Int × Bool × Int × Int × (List vac) × (List dTxn) × (List dTxn) × (List vac) × (List dTxn) × (List dTxn))
abbrev q45T : Type := (Int × Int × ByteArray × Int × Bool × Int × Int × (List vac) × (List dTxn) × (List dTxn))
abbrev q46T : Type := (Int × Int × ByteArray × Int × Bool × Int × Int × (List vac) × (List dTxn))
abbrev q47T : Type := (Int × Int × ByteArray × Int × Bool × Int × Int × (List vac))
abbrev q48T : Type := (Int × Int × ByteArray × Int × Bool × Int × Int × Int × Int × Bool × ByteArray × (List van) × (List vam))
abbrev q49T : Type := (Int × Int × ByteArray × Int × Bool × Int × Int × Int × Int × Bool × ByteArray × (List van))
abbrev q50T : Type := (Int × Int × Int × Bool × (List vac) × (List dTxn) × (List dTxn))
abbrev q51T : Type := (Int × Int × Int × ByteArray × Int × Bool × (List dTxn) × (List dTxn))
abbrev q52T : Type := (Int × Int × Int × ByteArray × Int × Bool × (List dTxn))
abbrev q53T : Type := (Int × Int × Int × Int × Bool × ByteArray × ByteArray × Int × Bool × (List van) × (List vam))
abbrev q54T : Type := (Int × Int × Int × Int × Bool × ByteArray × ByteArray × Int × Bool × (List van))
abbrev q55T : Type := (Int × Int × Int × Int × Bool × ByteArray × ByteArray × Int × Bool × Int × Int × Int × Int × Bool × ByteArray × (List van) × (List vam) × (List van) × (List vam))
abbrev q56T : Type := (Int × Int × Int × Int × Bool × ByteArray × Int × Bool × (List van) × (List vam))
abbrev q57T : Type := (Int × Int × Int × Int × ByteArray × Int × Bool × Int × Int × (List vac))
abbrev q58T : Type := (Int × Int × Int × Int × Int × (List van) × (List vam) × Bool × ByteArray)
abbrev q59T : Type := (Int × Int × Int × Int × Int × Int × Bool × ByteArray × ByteArray × Int × Bool × Int × Int × Int × Int × Bool × ByteArray × (List van) × (List vam))
abbrev q60T : Type := (Int × Int × Int × Int × Int × Int × Bool × ByteArray × ByteArray × Int × Bool × Int × Int × Int × Int × Bool × ByteArray × (List van))
def wet (a0 : Int) (a1 : Int) (a2 : Int) (k : Bool → Option Res) : Option Res :=
 bif (decide (a0 ≥ a1)) then
 k (decide (a0 ≤ a2))
 else
 k false
def vdx := shut wet
theorem wni : vdx = wet := vap _
theorem vm2 (a0 : Int) (a1 : Int) (a2 : Int) : Par (vdx a0 a1 a2) := by
  rw [wni]
  unfold wet
  exact (vab (vaa _) (vaa _))
def vkh (x : (Int × (List Int))) (k : (Int × (List Int)) ⊕ (Int × (List Int)) → Option Res) : Option Res :=
 bif (decide (x.1 > (127 : Int))) then
 if x.2.length + [(IntKind.wrap .u8 (IntKind.wrap .i64 ((x.1.tmod (128 : Int)) + (128 : Int))))].length ≤ VE.maxLen then
 k (.inl ((IntKind.wrap .i64 (x.1.tdiv (128 : Int))), (x.2 ++ [(IntKind.wrap .u8 (IntKind.wrap .i64 ((x.1.tmod (128 : Int)) + (128 : Int))))])))
 else none
 else
 k (.inr (x.1, x.2))
theorem wb6 (x : (Int × (List Int))) : Par (vkh x) := by
  unfold vkh
  exact (vab (vak (vaa _) vaf) (vaa _))
def wfi (a0 : Int) (k : ByteArray → Option Res) : Option Res :=
 vai vkh Fuel (a0, ([] : List Int)) (fun z1 =>
 if z1.2.length + [(IntKind.wrap .u8 z1.1)].length ≤ VE.maxLen then
 k (vd4 (z1.2 ++ [(IntKind.wrap .u8 z1.1)]))
 else none)
def v0u := shut wfi
theorem wla : v0u = wfi := vap _
theorem wtx (a0 : Int) : Par (v0u a0) := by
  rw [wla]
  unfold wfi
  exact ((vav wb6 _ _).bind fun z1 => (vak (vaa _) vaf))
def veg (x : q35T) (k : (q35T ⊕ q35T) → Option Res) : Option Res :=
 if 0 ≤ x.2.2.2.2.2.2.2 ∧ x.2.2.2.2.2.2.2 < (x.1.size : Int) then
 if 0 ≤ x.2.2.2.2.2.2.2 ∧ x.2.2.2.2.2.2.2 < (x.1.size : Int) then
 bif (decide ((bt x.1 x.2.2.2.2.2.2.2) < (128 : Int))) then
 bif (decide ((IntKind.wrap .i64 (x.2.2.2.2.2.1 + (IntKind.wrap .i64 (((IntKind.wrap .i64 (bt x.1 x.2.2.2.2.2.2.2)).tmod (128 : Int)) * x.2.2.2.2.2.2.1)))) > (1000000000 : Int))) then
 k (.inl (x.1, x.2.1, (0 : Int), (0 : Int), false, (IntKind.wrap .i64 (x.2.2.2.2.2.1 + (IntKind.wrap .i64 (((IntKind.wrap .i64 (bt x.1 x.2.2.2.2.2.2.2)).tmod (128 : Int)) * x.2.2.2.2.2.2.1)))), (IntKind.wrap .i64 (x.2.2.2.2.2.2.1 * (128 : Int))), x.2.2.2.2.2.2.2))
 else
 if 0 ≤ x.2.1 ∧ x.2.1 ≤ (IntKind.wrap .i64 (x.2.2.2.2.2.2.2 + (1 : Int))) ∧ (IntKind.wrap .i64 (x.2.2.2.2.2.2.2 + (1 : Int))) ≤ (x.1.size : Int) then
 v0u (IntKind.wrap .i64 (x.2.2.2.2.2.1 + (IntKind.wrap .i64 (((IntKind.wrap .i64 (bt x.1 x.2.2.2.2.2.2.2)).tmod (128 : Int)) * x.2.2.2.2.2.2.1)))) (fun y6 =>
 bif (!(va9 y6 (x.1.extract x.2.1.toNat (IntKind.wrap .i64 (x.2.2.2.2.2.2.2 + (1 : Int))).toNat))) then
 k (.inl (x.1, x.2.1, (0 : Int), (0 : Int), false, (IntKind.wrap .i64 (x.2.2.2.2.2.1 + (IntKind.wrap .i64 (((IntKind.wrap .i64 (bt x.1 x.2.2.2.2.2.2.2)).tmod (128 : Int)) * x.2.2.2.2.2.2.1)))), (IntKind.wrap .i64 (x.2.2.2.2.2.2.1 * (128 : Int))), x.2.2.2.2.2.2.2))
 else
 k (.inl (x.1, x.2.1, (IntKind.wrap .i64 (x.2.2.2.2.2.1 + (IntKind.wrap .i64 (((IntKind.wrap .i64 (bt x.1 x.2.2.2.2.2.2.2)).tmod (128 : Int)) * x.2.2.2.2.2.2.1)))), (IntKind.wrap .i64 (x.2.2.2.2.2.2.2 + (1 : Int))), true, (IntKind.wrap .i64 (x.2.2.2.2.2.1 + (IntKind.wrap .i64 (((IntKind.wrap .i64 (bt x.1 x.2.2.2.2.2.2.2)).tmod (128 : Int)) * x.2.2.2.2.2.2.1)))), (IntKind.wrap .i64 (x.2.2.2.2.2.2.1 * (128 : Int))), x.2.2.2.2.2.2.2)))
 else none
 else
 k (.inr (x.1, x.2.1, x.2.2.1, x.2.2.2.1, x.2.2.2.2.1, (IntKind.wrap .i64 (x.2.2.2.2.2.1 + (IntKind.wrap .i64 (((IntKind.wrap .i64 (bt x.1 x.2.2.2.2.2.2.2)).tmod (128 : Int)) * x.2.2.2.2.2.2.1)))), (IntKind.wrap .i64 (x.2.2.2.2.2.2.1 * (128 : Int))), (IntKind.wrap .i64 (x.2.2.2.2.2.2.2 + (1 : Int)))))
 else none
 else none
theorem vp4 (x : q35T) : Par (veg x) := by
  unfold veg
  exact (vak (vak (vab (vab (vaa _) (vak ((wtx _).bind fun y6 => (vab (vaa _) (vaa _))) vaf)) (vaa _)) vaf) vaf)
def vlw (x : q35T) (k : q35T ⊕ (q35T ⊕ q35T) → Option Res) : Option Res :=
 bif (decide (x.2.2.2.2.2.2.2 < (x.1.size : Int))) then
 bif (decide (x.2.2.2.2.2.2.2 < (IntKind.wrap .i64 (x.2.1 + (5 : Int))))) then
 veg (x.1, x.2.1, x.2.2.1, x.2.2.2.1, x.2.2.2.2.1, x.2.2.2.2.2.1, x.2.2.2.2.2.2.1, x.2.2.2.2.2.2.2) (Sum.elim (fun z4 =>
 k (.inr (.inr (z4.1, z4.2.1, z4.2.2.1, z4.2.2.2.1, z4.2.2.2.2.1, z4.2.2.2.2.2.1, z4.2.2.2.2.2.2.1, z4.2.2.2.2.2.2.2)))) (fun z5 =>
 k (.inl (z5.1, z5.2.1, z5.2.2.1, z5.2.2.2.1, z5.2.2.2.2.1, z5.2.2.2.2.2.1, z5.2.2.2.2.2.2.1, z5.2.2.2.2.2.2.2))))
 else
 k (.inr (.inl (x.1, x.2.1, x.2.2.1, x.2.2.2.1, x.2.2.2.2.1, x.2.2.2.2.2.1, x.2.2.2.2.2.2.1, x.2.2.2.2.2.2.2)))
 else
 k (.inr (.inl (x.1, x.2.1, x.2.2.1, x.2.2.2.1, x.2.2.2.2.1, x.2.2.2.2.2.1, x.2.2.2.2.2.2.1, x.2.2.2.2.2.2.2)))
theorem wde (x : q35T) : Par (vlw x) := by
  unfold vlw
  exact (vab (vab ((vp4 _).bind2 (fun z4 => (vaa _)) (fun z5 => (vaa _))) (vaa _)) (vaa _))
def wf0 (a0 : ByteArray) (a1 : Int) (k : (Int × Int × Bool) → Option Res) : Option Res :=
 vdx a1 (0 : Int) (a0.size : Int) (fun y1 =>
 bif (!y1) then
 k ((0 : Int), (0 : Int), false)
 else
 vai vlw Fuel (a0, a1, (0 : Int), (0 : Int), false, (0 : Int), (1 : Int), a1) (Sum.elim (fun _ =>
 k ((0 : Int), (0 : Int), false)) (fun z3 =>
 k (z3.2.2.1, z3.2.2.2.1, z3.2.2.2.2.1))))
def vxn := shut wf0
theorem wmm : vxn = wf0 := vap _
theorem wjp (a0 : ByteArray) (a1 : Int) : Par (vxn a0 a1) := by
  rw [wmm]
  unfold wf0
  exact ((vm2 _ _ _).bind fun y1 => (vab (vaa _) ((vav wde _ _).bind2 (fun z2 => (vaa _)) (fun z3 => (vaa _)))))
def wf6 (a0 : ByteArray) (a1 : Int) (a2 : Bool) (k : (Int × ByteArray × Int × Bool) → Option Res) : Option Res :=
 vxn a0 a1 (fun y1 =>
 bif a2 then
 k ((0 : Int), a0, a1, true)
 else
 bif (!y1.2.2) then
 k ((0 : Int), a0, a1, true)
 else
 k (y1.1, a0, y1.2.1, a2))
def vh0 := shut wf6
theorem wmf : vh0 = wf6 := vap _
theorem vl8 (a0 : ByteArray) (a1 : Int) (a2 : Bool) : Par (vh0 a0 a1 a2) := by
  rw [wmf]
  unfold wf6
  exact ((wjp _ _).bind fun y1 => (vab (vaa _) (vab (vaa _) (vaa _))))
def wf2 (a0 : ByteArray) (a1 : Int) (k : (ByteArray × Int × Bool) → Option Res) : Option Res :=
 vxn a0 a1 (fun y1 =>
 bif (!y1.2.2) then
 k ((⟨#[]⟩ : ByteArray), (0 : Int), false)
 else
 bif (decide (y1.1 > (20000 : Int))) then
 k ((⟨#[]⟩ : ByteArray), (0 : Int), false)
 else
 bif (decide (y1.1 > (IntKind.wrap .i64 ((a0.size : Int) - y1.2.1)))) then
 k ((⟨#[]⟩ : ByteArray), (0 : Int), false)
 else
 if 0 ≤ y1.2.1 ∧ y1.2.1 ≤ (IntKind.wrap .i64 (y1.2.1 + y1.1)) ∧ (IntKind.wrap .i64 (y1.2.1 + y1.1)) ≤ (a0.size : Int) then
 k ((a0.extract y1.2.1.toNat (IntKind.wrap .i64 (y1.2.1 + y1.1)).toNat), (IntKind.wrap .i64 (y1.2.1 + y1.1)), true)
 else none)
def v18 := shut wf2
theorem wnd : v18 = wf2 := vap _
theorem wsy (a0 : ByteArray) (a1 : Int) : Par (v18 a0 a1) := by
  rw [wnd]
  unfold wf2
  exact ((wjp _ _).bind fun y1 => (vab (vaa _) (vab (vaa _) (vab (vaa _) (vak (vaa _) vaf)))))
def weg (a0 : ByteArray) (a1 : Int) (a2 : Bool) (k : q27T → Option Res) : Option Res :=
 v18 a0 a1 (fun y1 =>
 bif a2 then
 k ((⟨#[]⟩ : ByteArray), a0, a1, true)
 else
 bif (!y1.2.2) then
 k ((⟨#[]⟩ : ByteArray), a0, a1, true)
 else
 k (y1.1, a0, y1.2.1, a2))
def vl7 := shut weg
theorem wkl : vl7 = weg := vap _
theorem vvi (a0 : ByteArray) (a1 : Int) (a2 : Bool) : Par (vl7 a0 a1 a2) := by
  rw [wkl]
  unfold weg
  exact ((wsy _ _).bind fun y1 => (vab (vaa _) (vab (vaa _) (vaa _))))
def vek (x : q19T) (k : q19T → Option Res) : Option Res :=
 if 0 ≤ (IntKind.wrap .i64 ((IntKind.wrap .i64 (x.2.2.1 + (1 : Int))) - (1 : Int))) ∧ (IntKind.wrap .i64 ((IntKind.wrap .i64 (x.2.2.1 + (1 : Int))) - (1 : Int))) < (x.2.1.size : Int) then
 k (((bt x.2.1 (IntKind.wrap .i64 ((IntKind.wrap .i64 (x.2.2.1 + (1 : Int))) - (1 : Int)))) == (1 : Int)), x.2.1, (IntKind.wrap .i64 (x.2.2.1 + (1 : Int))), x.2.2.2)
 else none
theorem vpk (x : q19T) : Par (vek x) := by
  unfold vek
  exact (vak (vaa _) vaf)
def wc9 (a0 : ByteArray) (a1 : Int) (a2 : Bool) (k : q19T → Option Res) : Option Res :=
 bif a2 then
 k (false, a0, a1, true)
 else
 bif (decide (a1 ≥ (a0.size : Int))) then
 k (false, a0, a1, true)
 else
 if 0 ≤ a1 ∧ a1 < (a0.size : Int) then
 bif (decide ((bt a0 a1) > (1 : Int))) then
 k (false, a0, a1, true)
 else
 vek (false, a0, a1, a2) (fun z1 =>
 k (z1.1, z1.2.1, z1.2.2.1, z1.2.2.2))
 else none
def vu5 := shut wc9
theorem wno : vu5 = wc9 := vap _
theorem wer (a0 : ByteArray) (a1 : Int) (a2 : Bool) : Par (vu5 a0 a1 a2) := by
  rw [wno]
  unfold wc9
  exact (vab (vaa _) (vab (vaa _) (vak (vab (vaa _) ((vpk _).bind fun z1 => (vaa _))) vaf)))
def vls (x : (ByteArray × Bool × Int)) (k : (ByteArray × Bool × Int) ⊕ ((ByteArray × Bool × Int) ⊕ (ByteArray × Bool × Int)) → Option Res) : Option Res :=
 bif (decide (x.2.2 < (x.1.size : Int))) then
 if 0 ≤ x.2.2 ∧ x.2.2 < (x.1.size : Int) then
 bif (decide ((bt x.1 x.2.2) < (97 : Int))) then
 k (.inr (.inl (x.1, false, x.2.2)))
 else
 if 0 ≤ x.2.2 ∧ x.2.2 < (x.1.size : Int) then
 bif (decide ((bt x.1 x.2.2) > (122 : Int))) then
 k (.inr (.inl (x.1, false, x.2.2)))
 else
 k (.inl (x.1, x.2.1, (IntKind.wrap .i64 (x.2.2 + (1 : Int)))))
 else none
 else none
 else
 k (.inr (.inr (x.1, x.2.1, x.2.2)))
theorem wcp (x : (ByteArray × Bool × Int)) : Par (vls x) := by
  unfold vls
  exact (vab (vak (vab (vaa _) (vak (vab (vaa _) (vaa _)) vaf)) vaf) (vaa _))
def wem (a0 : ByteArray) (k : Bool → Option Res) : Option Res :=
 vai vls Fuel (a0, false, (0 : Int)) (Sum.elim (fun z1 =>
 k z1.2.1) (fun z2 =>
 vdx (z2.1.size : Int) (1 : Int) (3 : Int) (fun y3 =>
 k y3)))
def vjz := shut wem
theorem wi9 : vjz = wem := vap _
theorem v00 (a0 : ByteArray) : Par (vjz a0) := by
  rw [wi9]
  unfold wem
  exact ((vav wcp _ _).bind2 (fun z1 => (vaa _)) (fun z2 => ((vm2 _ _ _).bind fun y3 => (vaa _))))
def wb4 (a0 : vam) (k : Bool → Option Res) : Option Res :=
 vjz a0.1 (fun y1 =>
 bif y1 then
 bif (decide ((a0.2.1.size : Int) ≤ (12 : Int))) then
 bif (!a0.2.2) then
 k true
 else
 k (va9 a0.2.1 (⟨#[]⟩ : ByteArray))
 else
 k false
 else
 k false)
def vxy := shut wb4
theorem wh4 : vxy = wb4 := vap _
theorem wtr (a0 : vam) : Par (vxy a0) := by
  rw [wh4]
  unfold wb4
  exact ((v00 _).bind fun y1 => (vab (vab (vab (vaa _) (vaa _)) (vaa _)) (vaa _)))
def vlh (x : ((List vam) × Bool × Int)) (k : ((List vam) × Bool × Int) ⊕ (((List vam) × Bool × Int) ⊕ ((List vam) × Bool × Int)) → Option Res) : Option Res :=
 bif (decide (x.2.2 < (x.1.length : Int))) then
 if 0 ≤ x.2.2 ∧ x.2.2 < (x.1.length : Int) then
 vxy (rd (Ty.zero tWrite) x.1 x.2.2) (fun y3 =>
 bif (!y3) then
 k (.inr (.inl (x.1, false, x.2.2)))
 else
 bif (decide (x.2.2 > (0 : Int))) then
 if 0 ≤ (IntKind.wrap .i64 (x.2.2 - (1 : Int))) ∧ (IntKind.wrap .i64 (x.2.2 - (1 : Int))) < (x.1.length : Int) then
 if 0 ≤ x.2.2 ∧ x.2.2 < (x.1.length : Int) then
 bif (!(va2 ((rd (Ty.zero tWrite) x.1 (IntKind.wrap .i64 (x.2.2 - (1 : Int)))).1) ((rd (Ty.zero tWrite) x.1 x.2.2).1))) then
 k (.inr (.inl (x.1, false, x.2.2)))
 else
 k (.inl (x.1, x.2.1, (IntKind.wrap .i64 (x.2.2 + (1 : Int)))))
 else none
 else none
 else
 k (.inl (x.1, x.2.1, (IntKind.wrap .i64 (x.2.2 + (1 : Int))))))
 else none
 else
 k (.inr (.inr (x.1, x.2.1, x.2.2)))
theorem wdn (x : ((List vam) × Bool × Int)) : Par (vlh x) := by
  unfold vlh
  exact (vab (vak ((wtr _).bind fun y3 => (vab (vaa _) (vab (vak (vak (vab (vaa _) (vaa _)) vaf) vaf) (vaa _)))) vaf) (vaa _))
def wfe (a0 : (List vam)) (k : Bool → Option Res) : Option Res :=
 vai vlh Fuel (a0, false, (0 : Int)) (Sum.elim (fun z1 =>
 k z1.2.1) (fun z2 =>
 k (decide ((z2.1.length : Int) ≤ (8 : Int)))))
def vve := shut wfe
theorem wio : vve = wfe := vap _
theorem wte (a0 : (List vam)) : Par (vve a0) := by
  rw [wio]
  unfold wfe
  exact ((vav wdn _ _).bind2 (fun z1 => (vaa _)) (fun z2 => (vaa _)))
def wdj (a0 : van) (k : Bool → Option Res) : Option Res :=
 vjz a0.1 (fun y1 =>
 bif y1 then
 vjz a0.2 (fun y2 =>
 bif y2 then
 k ((va2 a0.1 a0.2) || (va9 a0.1 a0.2))
 else
 k false)
 else
 k false)
def vxq := shut wdj
theorem wmy : vxq = wdj := vap _
theorem wtc (a0 : van) : Par (vxq a0) := by
  rw [wmy]
  unfold wdj
  exact ((v00 _).bind fun y1 => (vab ((v00 _).bind fun y2 => (vab (vaa _) (vaa _))) (vaa _)))
def vb8 (x : q25T) (k : q25T → Option Res) : Option Res :=
 bif (x.2.2.1 != (1 : Int)) then
 k (true, x.2.1, x.2.2.1, x.2.2.2.1, x.2.2.2.2.1, x.2.2.2.2.2.1, x.2.2.2.2.2.2.1, x.2.2.2.2.2.2.2.1, x.2.2.2.2.2.2.2.2)
 else
 k ((!x.2.2.2.2.2.2.2.1), x.2.1, x.2.2.1, x.2.2.2.1, x.2.2.2.2.1, x.2.2.2.2.2.1, x.2.2.2.2.2.2.1, x.2.2.2.2.2.2.2.1, x.2.2.2.2.2.2.2.2)
theorem vex (x : q25T) : Par (vb8 x) := by
  unfold vb8
  exact (vab (vaa _) (vaa _))
def vb5 (x : q25T) (k : q25T → Option Res) : Option Res :=
 bif (x.2.2.1 == (2 : Int)) then
 vjz x.2.2.2.2.2.2.2.2 (fun y14 =>
 bif (!y14) then
 k (false, x.2.1, x.2.2.1, x.2.2.2.1, x.2.2.2.2.1, x.2.2.2.2.2.1, x.2.2.2.2.2.2.1, x.2.2.2.2.2.2.2.1, x.2.2.2.2.2.2.2.2)
 else
 bif (x.2.2.1 != (2 : Int)) then
 bif (!(va9 x.2.2.2.2.2.2.2.2 (⟨#[]⟩ : ByteArray))) then
 k (false, x.2.1, x.2.2.1, x.2.2.2.1, x.2.2.2.2.1, x.2.2.2.2.2.1, x.2.2.2.2.2.2.1, x.2.2.2.2.2.2.2.1, x.2.2.2.2.2.2.2.2)
 else
 vb8 (x.1, x.2.1, x.2.2.1, x.2.2.2.1, x.2.2.2.2.1, x.2.2.2.2.2.1, x.2.2.2.2.2.2.1, x.2.2.2.2.2.2.2.1, x.2.2.2.2.2.2.2.2) (fun z15 =>
 k (z15.1, z15.2.1, z15.2.2.1, z15.2.2.2.1, z15.2.2.2.2.1, z15.2.2.2.2.2.1, z15.2.2.2.2.2.2.1, z15.2.2.2.2.2.2.2.1, z15.2.2.2.2.2.2.2.2))
 else
 vb8 (x.1, x.2.1, x.2.2.1, x.2.2.2.1, x.2.2.2.2.1, x.2.2.2.2.2.1, x.2.2.2.2.2.2.1, x.2.2.2.2.2.2.2.1, x.2.2.2.2.2.2.2.2) (fun z16 =>
 k (z16.1, z16.2.1, z16.2.2.1, z16.2.2.2.1, z16.2.2.2.2.1, z16.2.2.2.2.2.1, z16.2.2.2.2.2.2.1, z16.2.2.2.2.2.2.2.1, z16.2.2.2.2.2.2.2.2)))
 else
 bif (x.2.2.1 != (2 : Int)) then
 bif (!(va9 x.2.2.2.2.2.2.2.2 (⟨#[]⟩ : ByteArray))) then
 k (false, x.2.1, x.2.2.1, x.2.2.2.1, x.2.2.2.2.1, x.2.2.2.2.2.1, x.2.2.2.2.2.2.1, x.2.2.2.2.2.2.2.1, x.2.2.2.2.2.2.2.2)
 else
 vb8 (x.1, x.2.1, x.2.2.1, x.2.2.2.1, x.2.2.2.2.1, x.2.2.2.2.2.1, x.2.2.2.2.2.2.1, x.2.2.2.2.2.2.2.1, x.2.2.2.2.2.2.2.2) (fun z17 =>
 k (z17.1, z17.2.1, z17.2.2.1, z17.2.2.2.1, z17.2.2.2.2.1, z17.2.2.2.2.2.1, z17.2.2.2.2.2.2.1, z17.2.2.2.2.2.2.2.1, z17.2.2.2.2.2.2.2.2))
 else
 vb8 (x.1, x.2.1, x.2.2.1, x.2.2.2.1, x.2.2.2.2.1, x.2.2.2.2.2.1, x.2.2.2.2.2.2.1, x.2.2.2.2.2.2.2.1, x.2.2.2.2.2.2.2.2) (fun z18 =>
 k (z18.1, z18.2.1, z18.2.2.1, z18.2.2.2.1, z18.2.2.2.2.1, z18.2.2.2.2.2.1, z18.2.2.2.2.2.2.1, z18.2.2.2.2.2.2.2.1, z18.2.2.2.2.2.2.2.2))
theorem ve1 (x : q25T) : Par (vb5 x) := by
  unfold vb5
  exact (vab ((v00 _).bind fun y14 => (vab (vaa _) (vab (vab (vaa _) ((vex _).bind fun z15 => (vaa _))) ((vex _).bind fun z16 => (vaa _))))) (vab (vab (vaa _) ((vex _).bind fun z17 => (vaa _))) ((vex _).bind fun z18 => (vaa _))))
def vld (x : q26T) (k : q26T ⊕ (q26T ⊕ q26T) → Option Res) : Option Res :=
 bif (decide (x.2.1 < (x.2.2.2.2.2.2.1.length : Int))) then
 if 0 ≤ x.2.1 ∧ x.2.1 < (x.2.2.2.2.2.2.1.length : Int) then
 vxq (rd (Ty.zero tRange) x.2.2.2.2.2.2.1 x.2.1) (fun y6 =>
 bif (!y6) then
 k (.inr (.inl (false, x.2.1, x.2.2.1, x.2.2.2.1, x.2.2.2.2.1, x.2.2.2.2.2.1, x.2.2.2.2.2.2.1, x.2.2.2.2.2.2.2.1, x.2.2.2.2.2.2.2.2.1, x.2.2.2.2.2.2.2.2.2)))
 else
 k (.inl (x.1, (IntKind.wrap .i64 (x.2.1 + (1 : Int))), x.2.2.1, x.2.2.2.1, x.2.2.2.2.1, x.2.2.2.2.2.1, x.2.2.2.2.2.2.1, x.2.2.2.2.2.2.2.1, x.2.2.2.2.2.2.2.2.1, x.2.2.2.2.2.2.2.2.2)))
 else none
 else
 k (.inr (.inr (x.1, x.2.1, x.2.2.1, x.2.2.2.1, x.2.2.2.2.1, x.2.2.2.2.2.1, x.2.2.2.2.2.2.1, x.2.2.2.2.2.2.2.1, x.2.2.2.2.2.2.2.2.1, x.2.2.2.2.2.2.2.2.2)))
theorem wex (x : q26T) : Par (vld x) := by
  unfold vld
  exact (vab (vak ((wtc _).bind fun y6 => (vab (vaa _) (vaa _))) vaf) (vaa _))
def vdf (x : q25T) (k : q25T → Option Res) : Option Res :=
 vai vld Fuel (x.1, (0 : Int), x.2.1, x.2.2.1, x.2.2.2.1, x.2.2.2.2.1, x.2.2.2.2.2.1, x.2.2.2.2.2.2.1, x.2.2.2.2.2.2.2.1, x.2.2.2.2.2.2.2.2) (Sum.elim (fun z7 =>
 k (z7.1, z7.2.2.1, z7.2.2.2.1, z7.2.2.2.2.1, z7.2.2.2.2.2.1, z7.2.2.2.2.2.2.1, z7.2.2.2.2.2.2.2.1, z7.2.2.2.2.2.2.2.2.1, z7.2.2.2.2.2.2.2.2.2)) (fun z8 =>
 bif (z8.2.2.2.1 == (3 : Int)) then
 vdx z8.2.2.2.2.2.1 (IntKind.wrap .i64 (z8.2.2.2.2.1 + (1 : Int))) (9999 : Int) (fun y9 =>
 bif (!y9) then
 k (false, z8.2.2.1, z8.2.2.2.1, z8.2.2.2.2.1, z8.2.2.2.2.2.1, z8.2.2.2.2.2.2.1, z8.2.2.2.2.2.2.2.1, z8.2.2.2.2.2.2.2.2.1, z8.2.2.2.2.2.2.2.2.2)
 else
 bif (z8.2.2.2.1 != (3 : Int)) then
 bif (z8.2.2.2.2.2.1 != (0 : Int)) then
 k (false, z8.2.2.1, z8.2.2.2.1, z8.2.2.2.2.1, z8.2.2.2.2.2.1, z8.2.2.2.2.2.2.1, z8.2.2.2.2.2.2.2.1, z8.2.2.2.2.2.2.2.2.1, z8.2.2.2.2.2.2.2.2.2)
 else
 vb5 (z8.1, z8.2.2.1, z8.2.2.2.1, z8.2.2.2.2.1, z8.2.2.2.2.2.1, z8.2.2.2.2.2.2.1, z8.2.2.2.2.2.2.2.1, z8.2.2.2.2.2.2.2.2.1, z8.2.2.2.2.2.2.2.2.2) (fun z10 =>
 k (z10.1, z10.2.1, z10.2.2.1, z10.2.2.2.1, z10.2.2.2.2.1, z10.2.2.2.2.2.1, z10.2.2.2.2.2.2.1, z10.2.2.2.2.2.2.2.1, z10.2.2.2.2.2.2.2.2))
 else
 vb5 (z8.1, z8.2.2.1, z8.2.2.2.1, z8.2.2.2.2.1, z8.2.2.2.2.2.1, z8.2.2.2.2.2.2.1, z8.2.2.2.2.2.2.2.1, z8.2.2.2.2.2.2.2.2.1, z8.2.2.2.2.2.2.2.2.2) (fun z11 =>
 k (z11.1, z11.2.1, z11.2.2.1, z11.2.2.2.1, z11.2.2.2.2.1, z11.2.2.2.2.2.1, z11.2.2.2.2.2.2.1, z11.2.2.2.2.2.2.2.1, z11.2.2.2.2.2.2.2.2)))
 else
 bif (z8.2.2.2.1 != (3 : Int)) then
 bif (z8.2.2.2.2.2.1 != (0 : Int)) then
 k (false, z8.2.2.1, z8.2.2.2.1, z8.2.2.2.2.1, z8.2.2.2.2.2.1, z8.2.2.2.2.2.2.1, z8.2.2.2.2.2.2.2.1, z8.2.2.2.2.2.2.2.2.1, z8.2.2.2.2.2.2.2.2.2)
 else
 vb5 (z8.1, z8.2.2.1, z8.2.2.2.1, z8.2.2.2.2.1, z8.2.2.2.2.2.1, z8.2.2.2.2.2.2.1, z8.2.2.2.2.2.2.2.1, z8.2.2.2.2.2.2.2.2.1, z8.2.2.2.2.2.2.2.2.2) (fun z12 =>
 k (z12.1, z12.2.1, z12.2.2.1, z12.2.2.2.1, z12.2.2.2.2.1, z12.2.2.2.2.2.1, z12.2.2.2.2.2.2.1, z12.2.2.2.2.2.2.2.1, z12.2.2.2.2.2.2.2.2))
 else
 vb5 (z8.1, z8.2.2.1, z8.2.2.2.1, z8.2.2.2.2.1, z8.2.2.2.2.2.1, z8.2.2.2.2.2.2.1, z8.2.2.2.2.2.2.2.1, z8.2.2.2.2.2.2.2.2.1, z8.2.2.2.2.2.2.2.2.2) (fun z13 =>
 k (z13.1, z13.2.1, z13.2.2.1, z13.2.2.2.1, z13.2.2.2.2.1, z13.2.2.2.2.2.1, z13.2.2.2.2.2.2.1, z13.2.2.2.2.2.2.2.1, z13.2.2.2.2.2.2.2.2))))
theorem vo0 (x : q25T) : Par (vdf x) := by
  unfold vdf
  exact ((vav wex _ _).bind2 (fun z7 => (vaa _)) (fun z8 => (vab ((vm2 _ _ _).bind fun y9 => (vab (vaa _) (vab (vab (vaa _) ((ve1 _).bind fun z10 => (vaa _))) ((ve1 _).bind fun z11 => (vaa _))))) (vab (vab (vaa _) ((ve1 _).bind fun z12 => (vaa _))) ((ve1 _).bind fun z13 => (vaa _))))))
def wc7 (a0 : dTxn) (k : Bool → Option Res) : Option Res :=
 vdx a0.1 (1 : Int) (9999 : Int) (fun y1 =>
 bif (!y1) then
 k false
 else
 vdx a0.2.1 (1 : Int) (3 : Int) (fun y2 =>
 bif (!y2) then
 k false
 else
 vdx a0.2.2.1 (0 : Int) (9999 : Int) (fun y3 =>
 bif (!y3) then
 k false
 else
 bif (decide ((a0.2.2.2.2.1.length : Int) > (8 : Int))) then
 k false
 else
 vve a0.2.2.2.2.2.1 (fun y4 =>
 bif (!y4) then
 k false
 else
 vdf (false, a0.1, a0.2.1, a0.2.2.1, a0.2.2.2.1, a0.2.2.2.2.1, a0.2.2.2.2.2.1, a0.2.2.2.2.2.2.1, a0.2.2.2.2.2.2.2) (fun z5 =>
 k z5.1)))))
def vmx := shut wc7
theorem wjl : vmx = wc7 := vap _
theorem weo (a0 : dTxn) : Par (vmx a0) := by
  rw [wjl]
  unfold wc7
  exact ((vm2 _ _ _).bind fun y1 => (vab (vaa _) ((vm2 _ _ _).bind fun y2 => (vab (vaa _) ((vm2 _ _ _).bind fun y3 => (vab (vaa _) (vab (vaa _) ((wte _).bind fun y4 => (vab (vaa _) ((vo0 _).bind fun z5 => (vaa _)))))))))))
def vfk (x : q55T) (k : q39T → Option Res) : Option Res :=
 k (x.2.2.2.2.2.2.2.1, true, x.2.2.2.2.2.2.2.2.2.1, x.2.2.2.2.2.2.2.2.2.2.1, x.2.2.2.2.2.2.2.2.2.2.2.1, x.2.2.2.2.2.2.2.2.2.2.2.2.1, x.2.2.2.2.2.2.2.2.2.2.2.2.2.1, x.2.2.2.2.2.2.2.2.2.2.2.2.2.2.1, x.2.2.2.2.2.2.1, x.2.2.2.2.2.2.2.1, x.2.2.2.2.2.2.2.2.1, x.2.2.2.2.2.2.2.2.2.1, x.2.2.2.2.2.2.2.2.2.2.1, x.2.2.2.2.2.2.2.2.2.2.2.1, x.2.2.2.2.2.2.2.2.2.2.2.2.1, x.2.2.2.2.2.2.2.2.2.2.2.2.2.1, x.2.2.2.2.2.2.2.2.2.2.2.2.2.2.1, x.2.2.2.2.2.2.2.2.2.2.2.2.2.2.2.2.2.1, x.2.2.2.2.2.2.2.2.2.2.2.2.2.2.2.2.2.2)
theorem vqg (x : q55T) : Par (vfk x) := by
  unfold vfk
  exact (vaa _)
def vec (x : q60T) (k : q60T → Option Res) : Option Res :=
 vl7 x.2.2.2.2.2.2.2.2.1 x.2.2.2.2.2.2.2.2.2.1 x.2.2.2.2.2.2.2.2.2.2.1 (fun y15 =>
 vl7 y15.2.1 y15.2.2.1 y15.2.2.2 (fun y16 =>
 if x.2.2.2.2.2.2.2.2.2.2.2.2.2.2.2.2.2.length + [(y15.1, y16.1)].length ≤ VE.maxLen then
 k (x.1, (IntKind.wrap .i64 (x.2.1 + (1 : Int))), x.2.2.1, x.2.2.2.1, x.2.2.2.2.1, x.2.2.2.2.2.1, x.2.2.2.2.2.2.1, x.2.2.2.2.2.2.2.1, y16.2.1, y16.2.2.1, y16.2.2.2, x.2.2.2.2.2.2.2.2.2.2.2.1, x.2.2.2.2.2.2.2.2.2.2.2.2.1, x.2.2.2.2.2.2.2.2.2.2.2.2.2.1, x.2.2.2.2.2.2.2.2.2.2.2.2.2.2.1, x.2.2.2.2.2.2.2.2.2.2.2.2.2.2.2.1, x.2.2.2.2.2.2.2.2.2.2.2.2.2.2.2.2.1, (x.2.2.2.2.2.2.2.2.2.2.2.2.2.2.2.2.2 ++ [(y15.1, y16.1)]))
 else none))
theorem vqn (x : q60T) : Par (vec x) := by
  unfold vec
  exact ((vvi _ _ _).bind fun y15 => ((vvi _ _ _).bind fun y16 => (vak (vaa _) vaf)))
def vkl (x : q60T) (k : q60T ⊕ q60T → Option Res) : Option Res :=
 bif (decide (x.2.1 < x.1)) then
 bif (decide (x.2.1 < (10 : Int))) then
 bif (!x.2.2.2.2.2.2.2.2.2.2.1) then
 vec (x.1, x.2.1, x.2.2.1, x.2.2.2.1, x.2.2.2.2.1, x.2.2.2.2.2.1, x.2.2.2.2.2.2.1, x.2.2.2.2.2.2.2.1, x.2.2.2.2.2.2.2.2.1, x.2.2.2.2.2.2.2.2.2.1, x.2.2.2.2.2.2.2.2.2.2.1, x.2.2.2.2.2.2.2.2.2.2.2.1, x.2.2.2.2.2.2.2.2.2.2.2.2.1, x.2.2.2.2.2.2.2.2.2.2.2.2.2.1, x.2.2.2.2.2.2.2.2.2.2.2.2.2.2.1, x.2.2.2.2.2.2.2.2.2.2.2.2.2.2.2.1, x.2.2.2.2.2.2.2.2.2.2.2.2.2.2.2.2.1, x.2.2.2.2.2.2.2.2.2.2.2.2.2.2.2.2.2) (fun z13 =>
 k (.inl (z13.1, z13.2.1, z13.2.2.1, z13.2.2.2.1, z13.2.2.2.2.1, z13.2.2.2.2.2.1, z13.2.2.2.2.2.2.1, z13.2.2.2.2.2.2.2.1, z13.2.2.2.2.2.2.2.2.1, z13.2.2.2.2.2.2.2.2.2.1, z13.2.2.2.2.2.2.2.2.2.2.1, z13.2.2.2.2.2.2.2.2.2.2.2.1, z13.2.2.2.2.2.2.2.2.2.2.2.2.1, z13.2.2.2.2.2.2.2.2.2.2.2.2.2.1, z13.2.2.2.2.2.2.2.2.2.2.2.2.2.2.1, z13.2.2.2.2.2.2.2.2.2.2.2.2.2.2.2.1, z13.2.2.2.2.2.2.2.2.2.2.2.2.2.2.2.2.1, z13.2.2.2.2.2.2.2.2.2.2.2.2.2.2.2.2.2)))
 else
 k (.inr (x.1, x.2.1, x.2.2.1, x.2.2.2.1, x.2.2.2.2.1, x.2.2.2.2.2.1, x.2.2.2.2.2.2.1, x.2.2.2.2.2.2.2.1, x.2.2.2.2.2.2.2.2.1, x.2.2.2.2.2.2.2.2.2.1, x.2.2.2.2.2.2.2.2.2.2.1, x.2.2.2.2.2.2.2.2.2.2.2.1, x.2.2.2.2.2.2.2.2.2.2.2.2.1, x.2.2.2.2.2.2.2.2.2.2.2.2.2.1, x.2.2.2.2.2.2.2.2.2.2.2.2.2.2.1, x.2.2.2.2.2.2.2.2.2.2.2.2.2.2.2.1, x.2.2.2.2.2.2.2.2.2.2.2.2.2.2.2.2.1, x.2.2.2.2.2.2.2.2.2.2.2.2.2.2.2.2.2))
 else
 k (.inr (x.1, x.2.1, x.2.2.1, x.2.2.2.1, x.2.2.2.2.1, x.2.2.2.2.2.1, x.2.2.2.2.2.2.1, x.2.2.2.2.2.2.2.1, x.2.2.2.2.2.2.2.2.1, x.2.2.2.2.2.2.2.2.2.1, x.2.2.2.2.2.2.2.2.2.2.1, x.2.2.2.2.2.2.2.2.2.2.2.1, x.2.2.2.2.2.2.2.2.2.2.2.2.1, x.2.2.2.2.2.2.2.2.2.2.2.2.2.1, x.2.2.2.2.2.2.2.2.2.2.2.2.2.2.1, x.2.2.2.2.2.2.2.2.2.2.2.2.2.2.2.1, x.2.2.2.2.2.2.2.2.2.2.2.2.2.2.2.2.1, x.2.2.2.2.2.2.2.2.2.2.2.2.2.2.2.2.2))
 else
 k (.inr (x.1, x.2.1, x.2.2.1, x.2.2.2.1, x.2.2.2.2.1, x.2.2.2.2.2.1, x.2.2.2.2.2.2.1, x.2.2.2.2.2.2.2.1, x.2.2.2.2.2.2.2.2.1, x.2.2.2.2.2.2.2.2.2.1, x.2.2.2.2.2.2.2.2.2.2.1, x.2.2.2.2.2.2.2.2.2.2.2.1, x.2.2.2.2.2.2.2.2.2.2.2.2.1, x.2.2.2.2.2.2.2.2.2.2.2.2.2.1, x.2.2.2.2.2.2.2.2.2.2.2.2.2.2.1, x.2.2.2.2.2.2.2.2.2.2.2.2.2.2.2.1, x.2.2.2.2.2.2.2.2.2.2.2.2.2.2.2.2.1, x.2.2.2.2.2.2.2.2.2.2.2.2.2.2.2.2.2))
theorem wf8 (x : q60T) : Par (vkl x) := by
  unfold vkl
  exact (vab (vab (vab ((vqn _).bind fun z13 => (vaa _)) (vaa _)) (vaa _)) (vaa _))
def veo (x : q59T) (k : q59T → Option Res) : Option Res :=
 vl7 x.2.2.2.2.2.2.2.2.1 x.2.2.2.2.2.2.2.2.2.1 x.2.2.2.2.2.2.2.2.2.2.1 (fun y17 =>
 vl7 y17.2.1 y17.2.2.1 y17.2.2.2 (fun y18 =>
 vu5 y18.2.1 y18.2.2.1 y18.2.2.2 (fun y19 =>
 if x.2.2.2.2.2.2.2.2.2.2.2.2.2.2.2.2.2.2.length + [(y17.1, (y18.1, y19.1))].length ≤ VE.maxLen then
 k (x.1, (IntKind.wrap .i64 (x.2.1 + (1 : Int))), x.2.2.1, x.2.2.2.1, x.2.2.2.2.1, x.2.2.2.2.2.1, x.2.2.2.2.2.2.1, x.2.2.2.2.2.2.2.1, y19.2.1, y19.2.2.1, y19.2.2.2, x.2.2.2.2.2.2.2.2.2.2.2.1, x.2.2.2.2.2.2.2.2.2.2.2.2.1, x.2.2.2.2.2.2.2.2.2.2.2.2.2.1, x.2.2.2.2.2.2.2.2.2.2.2.2.2.2.1, x.2.2.2.2.2.2.2.2.2.2.2.2.2.2.2.1, x.2.2.2.2.2.2.2.2.2.2.2.2.2.2.2.2.1, x.2.2.2.2.2.2.2.2.2.2.2.2.2.2.2.2.2.1, (x.2.2.2.2.2.2.2.2.2.2.2.2.2.2.2.2.2.2 ++ [(y17.1, (y18.1, y19.1))]))
 else none)))
theorem vqv (x : q59T) : Par (veo x) := by
  unfold veo
  exact ((vvi _ _ _).bind fun y17 => ((vvi _ _ _).bind fun y18 => ((wer _ _ _).bind fun y19 => (vak (vaa _) vaf))))
def vk7 (x : q59T) (k : q59T ⊕ q59T → Option Res) : Option Res :=
 bif (decide (x.2.1 < x.1)) then
 bif (decide (x.2.1 < (10 : Int))) then
 bif (!x.2.2.2.2.2.2.2.2.2.2.1) then
 veo (x.1, x.2.1, x.2.2.1, x.2.2.2.1, x.2.2.2.2.1, x.2.2.2.2.2.1, x.2.2.2.2.2.2.1, x.2.2.2.2.2.2.2.1, x.2.2.2.2.2.2.2.2.1, x.2.2.2.2.2.2.2.2.2.1, x.2.2.2.2.2.2.2.2.2.2.1, x.2.2.2.2.2.2.2.2.2.2.2.1, x.2.2.2.2.2.2.2.2.2.2.2.2.1, x.2.2.2.2.2.2.2.2.2.2.2.2.2.1, x.2.2.2.2.2.2.2.2.2.2.2.2.2.2.1, x.2.2.2.2.2.2.2.2.2.2.2.2.2.2.2.1, x.2.2.2.2.2.2.2.2.2.2.2.2.2.2.2.2.1, x.2.2.2.2.2.2.2.2.2.2.2.2.2.2.2.2.2.1, x.2.2.2.2.2.2.2.2.2.2.2.2.2.2.2.2.2.2) (fun z14 =>
 k (.inl (z14.1, z14.2.1, z14.2.2.1, z14.2.2.2.1, z14.2.2.2.2.1, z14.2.2.2.2.2.1, z14.2.2.2.2.2.2.1, z14.2.2.2.2.2.2.2.1, z14.2.2.2.2.2.2.2.2.1, z14.2.2.2.2.2.2.2.2.2.1, z14.2.2.2.2.2.2.2.2.2.2.1, z14.2.2.2.2.2.2.2.2.2.2.2.1, z14.2.2.2.2.2.2.2.2.2.2.2.2.1, z14.2.2.2.2.2.2.2.2.2.2.2.2.2.1, z14.2.2.2.2.2.2.2.2.2.2.2.2.2.2.1, z14.2.2.2.2.2.2.2.2.2.2.2.2.2.2.2.1, z14.2.2.2.2.2.2.2.2.2.2.2.2.2.2.2.2.1, z14.2.2.2.2.2.2.2.2.2.2.2.2.2.2.2.2.2.1, z14.2.2.2.2.2.2.2.2.2.2.2.2.2.2.2.2.2.2)))
 else
 k (.inr (x.1, x.2.1, x.2.2.1, x.2.2.2.1, x.2.2.2.2.1, x.2.2.2.2.2.1, x.2.2.2.2.2.2.1, x.2.2.2.2.2.2.2.1, x.2.2.2.2.2.2.2.2.1, x.2.2.2.2.2.2.2.2.2.1, x.2.2.2.2.2.2.2.2.2.2.1, x.2.2.2.2.2.2.2.2.2.2.2.1, x.2.2.2.2.2.2.2.2.2.2.2.2.1, x.2.2.2.2.2.2.2.2.2.2.2.2.2.1, x.2.2.2.2.2.2.2.2.2.2.2.2.2.2.1, x.2.2.2.2.2.2.2.2.2.2.2.2.2.2.2.1, x.2.2.2.2.2.2.2.2.2.2.2.2.2.2.2.2.1, x.2.2.2.2.2.2.2.2.2.2.2.2.2.2.2.2.2.1, x.2.2.2.2.2.2.2.2.2.2.2.2.2.2.2.2.2.2))
 else
 k (.inr (x.1, x.2.1, x.2.2.1, x.2.2.2.1, x.2.2.2.2.1, x.2.2.2.2.2.1, x.2.2.2.2.2.2.1, x.2.2.2.2.2.2.2.1, x.2.2.2.2.2.2.2.2.1, x.2.2.2.2.2.2.2.2.2.1, x.2.2.2.2.2.2.2.2.2.2.1, x.2.2.2.2.2.2.2.2.2.2.2.1, x.2.2.2.2.2.2.2.2.2.2.2.2.1, x.2.2.2.2.2.2.2.2.2.2.2.2.2.1, x.2.2.2.2.2.2.2.2.2.2.2.2.2.2.1, x.2.2.2.2.2.2.2.2.2.2.2.2.2.2.2.1, x.2.2.2.2.2.2.2.2.2.2.2.2.2.2.2.2.1, x.2.2.2.2.2.2.2.2.2.2.2.2.2.2.2.2.2.1, x.2.2.2.2.2.2.2.2.2.2.2.2.2.2.2.2.2.2))
 else
 k (.inr (x.1, x.2.1, x.2.2.1, x.2.2.2.1, x.2.2.2.2.1, x.2.2.2.2.2.1, x.2.2.2.2.2.2.1, x.2.2.2.2.2.2.2.1, x.2.2.2.2.2.2.2.2.1, x.2.2.2.2.2.2.2.2.2.1, x.2.2.2.2.2.2.2.2.2.2.1, x.2.2.2.2.2.2.2.2.2.2.2.1, x.2.2.2.2.2.2.2.2.2.2.2.2.1, x.2.2.2.2.2.2.2.2.2.2.2.2.2.1, x.2.2.2.2.2.2.2.2.2.2.2.2.2.2.1, x.2.2.2.2.2.2.2.2.2.2.2.2.2.2.2.1, x.2.2.2.2.2.2.2.2.2.2.2.2.2.2.2.2.1, x.2.2.2.2.2.2.2.2.2.2.2.2.2.2.2.2.2.1, x.2.2.2.2.2.2.2.2.2.2.2.2.2.2.2.2.2.2))
theorem wbt (x : q59T) : Par (vk7 x) := by
  unfold vk7
  exact (vab (vab (vab ((vqv _).bind fun z14 => (vaa _)) (vaa _)) (vaa _)) (vaa _))
def wcq (a0 : ByteArray) (a1 : Int) (k : q56T → Option Res) : Option Res :=
 vh0 a0 a1 false (fun y1 =>
 vh0 y1.2.1 y1.2.2.1 y1.2.2.2 (fun y2 =>
 vh0 y2.2.1 y2.2.2.1 y2.2.2.2 (fun y3 =>
 vh0 y3.2.1 y3.2.2.1 y3.2.2.2 (fun y4 =>
 vh0 y4.2.1 y4.2.2.1 y4.2.2.2 (fun y5 =>
 vai vkl Fuel (y5.1, (0 : Int), (0 : Int), (0 : Int), (0 : Int), (0 : Int), false, (⟨#[]⟩ : ByteArray), y5.2.1, y5.2.2.1, y5.2.2.2, y1.1, y2.1, y3.1, y4.1, false, (⟨#[]⟩ : ByteArray), ([] : List van)) (fun z6 =>
 vh0 z6.2.2.2.2.2.2.2.2.1 z6.2.2.2.2.2.2.2.2.2.1 z6.2.2.2.2.2.2.2.2.2.2.1 (fun y7 =>
 vai vk7 Fuel (y7.1, (0 : Int), z6.2.2.1, z6.2.2.2.1, z6.2.2.2.2.1, z6.2.2.2.2.2.1, z6.2.2.2.2.2.2.1, z6.2.2.2.2.2.2.2.1, y7.2.1, y7.2.2.1, y7.2.2.2, z6.2.2.2.2.2.2.2.2.2.2.2.1, z6.2.2.2.2.2.2.2.2.2.2.2.2.1, z6.2.2.2.2.2.2.2.2.2.2.2.2.2.1, z6.2.2.2.2.2.2.2.2.2.2.2.2.2.2.1, z6.2.2.2.2.2.2.2.2.2.2.2.2.2.2.2.1, z6.2.2.2.2.2.2.2.2.2.2.2.2.2.2.2.2.1, z6.2.2.2.2.2.2.2.2.2.2.2.2.2.2.2.2.2, ([] : List vam)) (fun z8 =>
 vu5 z8.2.2.2.2.2.2.2.2.1 z8.2.2.2.2.2.2.2.2.2.1 z8.2.2.2.2.2.2.2.2.2.2.1 (fun y9 =>
 vl7 y9.2.1 y9.2.2.1 y9.2.2.2 (fun y10 =>
 bif y10.2.2.2 then
 k ((0 : Int), (0 : Int), (0 : Int), (0 : Int), false, (⟨#[]⟩ : ByteArray), (0 : Int), false, ([] : List van), ([] : List vam))
 else
 vmx (z8.2.2.2.2.2.2.2.2.2.2.2.1, (z8.2.2.2.2.2.2.2.2.2.2.2.2.1, (z8.2.2.2.2.2.2.2.2.2.2.2.2.2.1, (z8.2.2.2.2.2.2.2.2.2.2.2.2.2.2.1, (z8.2.2.2.2.2.2.2.2.2.2.2.2.2.2.2.2.2.1, (z8.2.2.2.2.2.2.2.2.2.2.2.2.2.2.2.2.2.2, (y9.1, y10.1))))))) (fun y11 =>
 bif (!y11) then
 k ((0 : Int), (0 : Int), (0 : Int), (0 : Int), false, (⟨#[]⟩ : ByteArray), (0 : Int), false, ([] : List van), ([] : List vam))
 else
 vfk (z8.2.2.1, z8.2.2.2.1, z8.2.2.2.2.1, z8.2.2.2.2.2.1, z8.2.2.2.2.2.2.1, z8.2.2.2.2.2.2.2.1, y10.2.1, y10.2.2.1, y10.2.2.2, z8.2.2.2.2.2.2.2.2.2.2.2.1, z8.2.2.2.2.2.2.2.2.2.2.2.2.1, z8.2.2.2.2.2.2.2.2.2.2.2.2.2.1, z8.2.2.2.2.2.2.2.2.2.2.2.2.2.2.1, y9.1, y10.1, ([] : List van), ([] : List vam), z8.2.2.2.2.2.2.2.2.2.2.2.2.2.2.2.2.2.1, z8.2.2.2.2.2.2.2.2.2.2.2.2.2.2.2.2.2.2) (fun z12 =>
 k (z12.2.2.1, z12.2.2.2.1, z12.2.2.2.2.1, z12.2.2.2.2.2.1, z12.2.2.2.2.2.2.1, z12.2.2.2.2.2.2.2.1, z12.1, z12.2.1, z12.2.2.2.2.2.2.2.2.2.2.2.2.2.2.2.2.2.1, z12.2.2.2.2.2.2.2.2.2.2.2.2.2.2.2.2.2.2)))))))))))))
def v2b := shut wcq
theorem wnc : v2b = wcq := vap _
theorem wul (a0 : ByteArray) (a1 : Int) : Par (v2b a0 a1) := by
  rw [wnc]
  unfold wcq
  exact ((vl8 _ _ _).bind fun y1 => ((vl8 _ _ _).bind fun y2 => ((vl8 _ _ _).bind fun y3 => ((vl8 _ _ _).bind fun y4 => ((vl8 _ _ _).bind fun y5 => ((vav wf8 _ _).bind fun z6 => ((vl8 _ _ _).bind fun y7 => ((vav wbt _ _).bind fun z8 => ((wer _ _ _).bind fun y9 => ((vvi _ _ _).bind fun y10 => (vab (vaa _) ((weo _).bind fun y11 => (vab (vaa _) ((vqg _).bind fun z12 => (vaa _)))))))))))))))
def vdg (x : q51T) (k : (q51T ⊕ q52T) → Option Res) : Option Res :=
 v2b x.2.2.2.1 x.2.2.2.2.1 (fun y6 =>
 bif (!y6.2.2.2.2.2.2.2.1) then
 k (.inr (x.1, x.2.1, x.2.2.1, x.2.2.2.1, x.2.2.2.2.1, true, x.2.2.2.2.2.2.2))
 else
 if x.2.2.2.2.2.2.2.length + [(y6.1, (y6.2.1, (y6.2.2.1, (y6.2.2.2.1, (y6.2.2.2.2.2.2.2.2.1, (y6.2.2.2.2.2.2.2.2.2, (y6.2.2.2.2.1, y6.2.2.2.2.2.1)))))))].length ≤ VE.maxLen then
 k (.inl (x.1, x.2.1, (IntKind.wrap .i64 (x.2.2.1 + (1 : Int))), x.2.2.2.1, y6.2.2.2.2.2.2.1, x.2.2.2.2.2.1, x.2.2.2.2.2.2.1, (x.2.2.2.2.2.2.2 ++ [(y6.1, (y6.2.1, (y6.2.2.1, (y6.2.2.2.1, (y6.2.2.2.2.2.2.2.2.1, (y6.2.2.2.2.2.2.2.2.2, (y6.2.2.2.2.1, y6.2.2.2.2.2.1)))))))])))
 else none)
theorem vqi (x : q51T) : Par (vdg x) := by
  unfold vdg
  exact ((wul _ _).bind fun y6 => (vab (vaa _) (vak (vaa _) vaf)))
def viz (x : q51T) (k : q51T ⊕ (q51T ⊕ q52T) → Option Res) : Option Res :=
 bif (decide (x.2.2.1 < x.2.1)) then
 bif (decide (x.2.2.1 ≤ x.1)) then
 bif (!x.2.2.2.2.2.1) then
 vdg (x.1, x.2.1, x.2.2.1, x.2.2.2.1, x.2.2.2.2.1, x.2.2.2.2.2.1, x.2.2.2.2.2.2.1, x.2.2.2.2.2.2.2) (Sum.elim (fun z4 =>
 k (.inl (z4.1, z4.2.1, z4.2.2.1, z4.2.2.2.1, z4.2.2.2.2.1, z4.2.2.2.2.2.1, z4.2.2.2.2.2.2.1, z4.2.2.2.2.2.2.2))) (fun z5 =>
 k (.inr (.inr (z5.1, z5.2.1, z5.2.2.1, z5.2.2.2.1, z5.2.2.2.2.1, z5.2.2.2.2.2.1, z5.2.2.2.2.2.2)))))
 else
 k (.inr (.inl (x.1, x.2.1, x.2.2.1, x.2.2.2.1, x.2.2.2.2.1, x.2.2.2.2.2.1, x.2.2.2.2.2.2.1, x.2.2.2.2.2.2.2)))
 else
 k (.inr (.inl (x.1, x.2.1, x.2.2.1, x.2.2.2.1, x.2.2.2.2.1, x.2.2.2.2.2.1, x.2.2.2.2.2.2.1, x.2.2.2.2.2.2.2)))
 else
 k (.inr (.inl (x.1, x.2.1, x.2.2.1, x.2.2.2.1, x.2.2.2.2.1, x.2.2.2.2.2.1, x.2.2.2.2.2.2.1, x.2.2.2.2.2.2.2)))
theorem wb2 (x : q51T) : Par (viz x) := by
  unfold viz
  exact (vab (vab (vab ((vqi _).bind2 (fun z4 => (vaa _)) (fun z5 => (vaa _))) (vaa _)) (vaa _)) (vaa _))
def wfh (a0 : Int) (a1 : ByteArray) (a2 : Int) (a3 : Bool) (k : q28T → Option Res) : Option Res :=
 vh0 a1 a2 a3 (fun y1 =>
 vai viz Fuel (a0, y1.1, (0 : Int), y1.2.1, y1.2.2.1, y1.2.2.2, ([] : List dTxn), ([] : List dTxn)) (Sum.elim (fun z2 =>
 k (z2.2.2.2.1, z2.2.2.2.2.1, z2.2.2.2.2.2.1, z2.2.2.2.2.2.2.2)) (fun z3 =>
 k (z3.2.2.2.1, z3.2.2.2.2.1, z3.2.2.2.2.2.1, z3.2.2.2.2.2.2))))
def vuv := shut wfh
theorem wjs : vuv = wfh := vap _
theorem wko (a0 : Int) (a1 : ByteArray) (a2 : Int) (a3 : Bool) : Par (vuv a0 a1 a2 a3) := by
  rw [wjs]
  unfold wfh
  exact ((vl8 _ _ _).bind fun y1 => ((vav wb2 _ _).bind2 (fun z2 => (vaa _)) (fun z3 => (vaa _))))
def vcn (x : q10T) (k : (q10T ⊕ q10T) → Option Res) : Option Res :=
 bif (decide (x.2.2.1 > (0 : Int))) then
 if 0 ≤ (IntKind.wrap .i64 (x.2.2.1 - (1 : Int))) ∧ (IntKind.wrap .i64 (x.2.2.1 - (1 : Int))) < (x.1.length : Int) then
 bif (!((va2 ((rd (Ty.zero tVersion) x.1 (IntKind.wrap .i64 (x.2.2.1 - (1 : Int)))).1) x.2.2.2.1) || (va9 ((rd (Ty.zero tVersion) x.1 (IntKind.wrap .i64 (x.2.2.1 - (1 : Int)))).1) x.2.2.2.1))) then
 k (.inl (x.1, false, x.2.2.1, x.2.2.2.1, x.2.2.2.2.1, x.2.2.2.2.2.1, x.2.2.2.2.2.2))
 else
 if 0 ≤ (IntKind.wrap .i64 (x.2.2.1 - (1 : Int))) ∧ (IntKind.wrap .i64 (x.2.2.1 - (1 : Int))) < (x.1.length : Int) then
 bif (va9 ((rd (Ty.zero tVersion) x.1 (IntKind.wrap .i64 (x.2.2.1 - (1 : Int)))).1) x.2.2.2.1) then
 if 0 ≤ (IntKind.wrap .i64 (x.2.2.1 - (1 : Int))) ∧ (IntKind.wrap .i64 (x.2.2.1 - (1 : Int))) < (x.1.length : Int) then
 bif (decide ((rd (Ty.zero tVersion) x.1 (IntKind.wrap .i64 (x.2.2.1 - (1 : Int)))).2.2.2 ≥ x.2.2.2.2.2.2)) then
 k (.inl (x.1, false, x.2.2.1, x.2.2.2.1, x.2.2.2.2.1, x.2.2.2.2.2.1, x.2.2.2.2.2.2))
 else
 k (.inr (x.1, x.2.1, x.2.2.1, x.2.2.2.1, x.2.2.2.2.1, x.2.2.2.2.2.1, x.2.2.2.2.2.2))
 else none
 else
 k (.inr (x.1, x.2.1, x.2.2.1, x.2.2.2.1, x.2.2.2.2.1, x.2.2.2.2.2.1, x.2.2.2.2.2.2))
 else none
 else none
 else
 k (.inr (x.1, x.2.1, x.2.2.1, x.2.2.2.1, x.2.2.2.2.1, x.2.2.2.2.2.1, x.2.2.2.2.2.2))
theorem vjr (x : q10T) : Par (vcn x) := by
  unfold vcn
  exact (vab (vak (vab (vaa _) (vak (vab (vak (vab (vaa _) (vaa _)) vaf) (vaa _)) vaf)) vaf) (vaa _))
def vlj (x : ((List vac) × Bool × Int)) (k : ((List vac) × Bool × Int) ⊕ (((List vac) × Bool × Int) ⊕ ((List vac) × Bool × Int)) → Option Res) : Option Res :=
 bif (decide (x.2.2 < (x.1.length : Int))) then
 if 0 ≤ x.2.2 ∧ x.2.2 < (x.1.length : Int) then
 vjz ((rd (Ty.zero tVersion) x.1 x.2.2).1) (fun y3 =>
 bif (!y3) then
 k (.inr (.inl (x.1, false, x.2.2)))
 else
 bif (decide (((rd (Ty.zero tVersion) x.1 x.2.2).2.1.size : Int) > (12 : Int))) then
 k (.inr (.inl (x.1, false, x.2.2)))
 else
 bif (rd (Ty.zero tVersion) x.1 x.2.2).2.2.1 then
 bif (!(va9 ((rd (Ty.zero tVersion) x.1 x.2.2).2.1) (⟨#[]⟩ : ByteArray))) then
 k (.inr (.inl (x.1, false, x.2.2)))
 else
 vdx ((rd (Ty.zero tVersion) x.1 x.2.2).2.2.2) (1 : Int) (9999 : Int) (fun y4 =>
 bif (!y4) then
 k (.inr (.inl (x.1, false, x.2.2)))
 else
 vcn (x.1, x.2.1, x.2.2, (rd (Ty.zero tVersion) x.1 x.2.2).1, (rd (Ty.zero tVersion) x.1 x.2.2).2.1, (rd (Ty.zero tVersion) x.1 x.2.2).2.2.1, (rd (Ty.zero tVersion) x.1 x.2.2).2.2.2) (Sum.elim (fun z5 =>
 k (.inr (.inl (z5.1, z5.2.1, z5.2.2.1)))) (fun z6 =>
 k (.inl (z6.1, z6.2.1, (IntKind.wrap .i64 (z6.2.2.1 + (1 : Int))))))))
 else
 vdx ((rd (Ty.zero tVersion) x.1 x.2.2).2.2.2) (1 : Int) (9999 : Int) (fun y7 =>
 bif (!y7) then
 k (.inr (.inl (x.1, false, x.2.2)))
 else
 vcn (x.1, x.2.1, x.2.2, (rd (Ty.zero tVersion) x.1 x.2.2).1, (rd (Ty.zero tVersion) x.1 x.2.2).2.1, (rd (Ty.zero tVersion) x.1 x.2.2).2.2.1, (rd (Ty.zero tVersion) x.1 x.2.2).2.2.2) (Sum.elim (fun z8 =>
 k (.inr (.inl (z8.1, z8.2.1, z8.2.2.1)))) (fun z9 =>
 k (.inl (z9.1, z9.2.1, (IntKind.wrap .i64 (z9.2.2.1 + (1 : Int)))))))))
 else none
 else
 k (.inr (.inr (x.1, x.2.1, x.2.2)))
theorem wb5 (x : ((List vac) × Bool × Int)) : Par (vlj x) := by
  unfold vlj
  exact (vab (vak ((v00 _).bind fun y3 => (vab (vaa _) (vab (vaa _) (vab (vab (vaa _) ((vm2 _ _ _).bind fun y4 => (vab (vaa _) ((vjr _).bind2 (fun z5 => (vaa _)) (fun z6 => (vaa _)))))) ((vm2 _ _ _).bind fun y7 => (vab (vaa _) ((vjr _).bind2 (fun z8 => (vaa _)) (fun z9 => (vaa _))))))))) vaf) (vaa _))
def wbu (a0 : (List vac)) (k : Bool → Option Res) : Option Res :=
 vai vlj Fuel (a0, false, (0 : Int)) (Sum.elim (fun z1 =>
 k z1.2.1) (fun z2 =>
 k (decide ((z2.1.length : Int) ≤ (120 : Int)))))
def vvg := shut wbu
theorem wl1 : vvg = wbu := vap _
theorem wtw (a0 : (List vac)) : Par (vvg a0) := by
  rw [wl1]
  unfold wbu
  exact ((vav wb5 _ _).bind2 (fun z1 => (vaa _)) (fun z2 => (vaa _)))
def vkg (x : q21T) (k : q21T ⊕ (q21T ⊕ q21T) → Option Res) : Option Res :=
 bif (decide (x.2.1 < (x.2.2.1.length : Int))) then
 if 0 ≤ x.2.1 ∧ x.2.1 < (x.2.2.1.length : Int) then
 bif (decide ((rd (Ty.zero tVersion) x.2.2.1 x.2.1).2.2.2 > x.2.2.2.2.2.1)) then
 k (.inr (.inl (false, x.2.1, x.2.2.1, x.2.2.2.1, x.2.2.2.2.1, x.2.2.2.2.2.1, x.2.2.2.2.2.2)))
 else
 k (.inl (x.1, (IntKind.wrap .i64 (x.2.1 + (1 : Int))), x.2.2.1, x.2.2.2.1, x.2.2.2.2.1, x.2.2.2.2.2.1, x.2.2.2.2.2.2))
 else none
 else
 k (.inr (.inr (x.1, x.2.1, x.2.2.1, x.2.2.2.1, x.2.2.2.2.1, x.2.2.2.2.2.1, x.2.2.2.2.2.2)))
theorem wes (x : q21T) : Par (vkg x) := by
  unfold vkg
  exact (vab (vak (vab (vaa _) (vaa _)) vaf) (vaa _))
def vki (x : q20T) (k : q20T ⊕ (q20T ⊕ q20T) → Option Res) : Option Res :=
 bif (decide (x.2.1 < (x.2.2.2.1.length : Int))) then
 if 0 ≤ x.2.1 ∧ x.2.1 < (x.2.2.2.1.length : Int) then
 vmx (rd (Ty.zero tTxn) x.2.2.2.1 x.2.1) (fun y5 =>
 bif (!y5) then
 k (.inr (.inl (false, x.2.1, x.2.2.1, x.2.2.2.1, x.2.2.2.2.1, x.2.2.2.2.2.1, x.2.2.2.2.2.2.1, x.2.2.2.2.2.2.2)))
 else
 bif ((rd (Ty.zero tTxn) x.2.2.2.1 x.2.1).2.1 != (3 : Int)) then
 k (.inr (.inl (false, x.2.1, x.2.2.1, x.2.2.2.1, x.2.2.2.2.1, x.2.2.2.2.2.1, x.2.2.2.2.2.2.1, x.2.2.2.2.2.2.2)))
 else
 bif (decide ((rd (Ty.zero tTxn) x.2.2.2.1 x.2.1).2.2.2.1 > x.2.2.2.2.2.1)) then
 k (.inr (.inl (false, x.2.1, x.2.2.1, x.2.2.2.1, x.2.2.2.2.1, x.2.2.2.2.2.1, x.2.2.2.2.2.2.1, x.2.2.2.2.2.2.2)))
 else
 bif (decide (x.2.1 > (0 : Int))) then
 if 0 ≤ (IntKind.wrap .i64 (x.2.1 - (1 : Int))) ∧ (IntKind.wrap .i64 (x.2.1 - (1 : Int))) < (x.2.2.2.1.length : Int) then
 bif (decide ((rd (Ty.zero tTxn) x.2.2.2.1 (IntKind.wrap .i64 (x.2.1 - (1 : Int)))).2.2.2.1 ≥ (rd (Ty.zero tTxn) x.2.2.2.1 x.2.1).2.2.2.1)) then
 k (.inr (.inl (false, x.2.1, x.2.2.1, x.2.2.2.1, x.2.2.2.2.1, x.2.2.2.2.2.1, x.2.2.2.2.2.2.1, x.2.2.2.2.2.2.2)))
 else
 if x.2.2.2.2.2.2.2.length + [(rd (Ty.zero tTxn) x.2.2.2.1 x.2.1).1].length ≤ VE.maxLen then
 k (.inl (x.1, (IntKind.wrap .i64 (x.2.1 + (1 : Int))), x.2.2.1, x.2.2.2.1, x.2.2.2.2.1, x.2.2.2.2.2.1, x.2.2.2.2.2.2.1, (x.2.2.2.2.2.2.2 ++ [(rd (Ty.zero tTxn) x.2.2.2.1 x.2.1).1])))
 else none
 else none
 else
 if x.2.2.2.2.2.2.2.length + [(rd (Ty.zero tTxn) x.2.2.2.1 x.2.1).1].length ≤ VE.maxLen then
 k (.inl (x.1, (IntKind.wrap .i64 (x.2.1 + (1 : Int))), x.2.2.1, x.2.2.2.1, x.2.2.2.2.1, x.2.2.2.2.2.1, x.2.2.2.2.2.2.1, (x.2.2.2.2.2.2.2 ++ [(rd (Ty.zero tTxn) x.2.2.2.1 x.2.1).1])))
 else none)
 else none
 else
 k (.inr (.inr (x.1, x.2.1, x.2.2.1, x.2.2.2.1, x.2.2.2.2.1, x.2.2.2.2.2.1, x.2.2.2.2.2.2.1, x.2.2.2.2.2.2.2)))
theorem wck (x : q20T) : Par (vki x) := by
  unfold vki
  exact (vab (vak ((weo _).bind fun y5 => (vab (vaa _) (vab (vaa _) (vab (vaa _) (vab (vak (vab (vaa _) (vak (vaa _) vaf)) vaf) (vak (vaa _) vaf)))))) vaf) (vaa _))
def vk9 (x : q20T) (k : q20T ⊕ (q20T ⊕ q20T) → Option Res) : Option Res :=
 bif (decide (x.2.1 < (x.2.2.2.2.1.length : Int))) then
 if 0 ≤ x.2.1 ∧ x.2.1 < (x.2.2.2.2.1.length : Int) then
 vmx (rd (Ty.zero tTxn) x.2.2.2.2.1 x.2.1) (fun y6 =>
 bif (!y6) then
 k (.inr (.inl (false, x.2.1, x.2.2.1, x.2.2.2.1, x.2.2.2.2.1, x.2.2.2.2.2.1, x.2.2.2.2.2.2.1, x.2.2.2.2.2.2.2)))
 else
 bif ((rd (Ty.zero tTxn) x.2.2.2.2.1 x.2.1).2.1 != (2 : Int)) then
 k (.inr (.inl (false, x.2.1, x.2.2.1, x.2.2.2.1, x.2.2.2.2.1, x.2.2.2.2.2.1, x.2.2.2.2.2.2.1, x.2.2.2.2.2.2.2)))
 else
 bif (decide ((rd (Ty.zero tTxn) x.2.2.2.2.1 x.2.1).2.2.1 > x.2.2.2.2.2.1)) then
 k (.inr (.inl (false, x.2.1, x.2.2.1, x.2.2.2.1, x.2.2.2.2.1, x.2.2.2.2.2.1, x.2.2.2.2.2.2.1, x.2.2.2.2.2.2.2)))
 else
 bif (decide (x.2.1 > (0 : Int))) then
 if 0 ≤ (IntKind.wrap .i64 (x.2.1 - (1 : Int))) ∧ (IntKind.wrap .i64 (x.2.1 - (1 : Int))) < (x.2.2.2.2.1.length : Int) then
 bif (!(va2 ((rd (Ty.zero tTxn) x.2.2.2.2.1 (IntKind.wrap .i64 (x.2.1 - (1 : Int)))).2.2.2.2.2.2.2) ((rd (Ty.zero tTxn) x.2.2.2.2.1 x.2.1).2.2.2.2.2.2.2))) then
 k (.inr (.inl (false, x.2.1, x.2.2.1, x.2.2.2.1, x.2.2.2.2.1, x.2.2.2.2.2.1, x.2.2.2.2.2.2.1, x.2.2.2.2.2.2.2)))
 else
 if x.2.2.2.2.2.2.2.length + [(rd (Ty.zero tTxn) x.2.2.2.2.1 x.2.1).1].length ≤ VE.maxLen then
 k (.inl (x.1, (IntKind.wrap .i64 (x.2.1 + (1 : Int))), x.2.2.1, x.2.2.2.1, x.2.2.2.2.1, x.2.2.2.2.2.1, x.2.2.2.2.2.2.1, (x.2.2.2.2.2.2.2 ++ [(rd (Ty.zero tTxn) x.2.2.2.2.1 x.2.1).1])))
 else none
 else none
 else
 if x.2.2.2.2.2.2.2.length + [(rd (Ty.zero tTxn) x.2.2.2.2.1 x.2.1).1].length ≤ VE.maxLen then
 k (.inl (x.1, (IntKind.wrap .i64 (x.2.1 + (1 : Int))), x.2.2.1, x.2.2.2.1, x.2.2.2.2.1, x.2.2.2.2.2.1, x.2.2.2.2.2.2.1, (x.2.2.2.2.2.2.2 ++ [(rd (Ty.zero tTxn) x.2.2.2.2.1 x.2.1).1])))
 else none)
 else none
 else
 k (.inr (.inr (x.1, x.2.1, x.2.2.1, x.2.2.2.1, x.2.2.2.2.1, x.2.2.2.2.2.1, x.2.2.2.2.2.2.1, x.2.2.2.2.2.2.2)))
theorem we6 (x : q20T) : Par (vk9 x) := by
  unfold vk9
  exact (vab (vak ((weo _).bind fun y6 => (vab (vaa _) (vab (vaa _) (vab (vaa _) (vab (vak (vab (vaa _) (vak (vaa _) vaf)) vaf) (vak (vaa _) vaf)))))) vaf) (vaa _))
def vmi (x : q22T) (k : q22T ⊕ (q22T ⊕ q22T) → Option Res) : Option Res :=
 bif (decide (x.2.2.1 < x.2.1)) then
 if 0 ≤ x.2.2.1 ∧ x.2.2.1 < (x.2.2.2.2.2.2.2.2.length : Int) then
 if 0 ≤ x.2.1 ∧ x.2.1 < (x.2.2.2.2.2.2.2.2.length : Int) then
 bif ((x.2.2.2.2.2.2.2.2.getD x.2.2.1.toNat (Ty.zero (.int .i64))) == (x.2.2.2.2.2.2.2.2.getD x.2.1.toNat (Ty.zero (.int .i64)))) then
 k (.inr (.inl (false, x.2.1, x.2.2.1, x.2.2.2.1, x.2.2.2.2.1, x.2.2.2.2.2.1, x.2.2.2.2.2.2.1, x.2.2.2.2.2.2.2.1, x.2.2.2.2.2.2.2.2)))
 else
 k (.inl (x.1, x.2.1, (IntKind.wrap .i64 (x.2.2.1 + (1 : Int))), x.2.2.2.1, x.2.2.2.2.1, x.2.2.2.2.2.1, x.2.2.2.2.2.2.1, x.2.2.2.2.2.2.2.1, x.2.2.2.2.2.2.2.2))
 else none
 else none
 else
 k (.inr (.inr (x.1, x.2.1, x.2.2.1, x.2.2.2.1, x.2.2.2.2.1, x.2.2.2.2.2.1, x.2.2.2.2.2.2.1, x.2.2.2.2.2.2.2.1, x.2.2.2.2.2.2.2.2)))
theorem wcc (x : q22T) : Par (vmi x) := by
  unfold vmi
  exact (vab (vak (vak (vab (vaa _) (vaa _)) vaf) vaf) (vaa _))
def vlf (x : q20T) (k : q20T ⊕ (q20T ⊕ q20T) → Option Res) : Option Res :=
 bif (decide (x.2.1 < (x.2.2.2.2.2.2.2.length : Int))) then
 vai vmi Fuel (x.1, x.2.1, (0 : Int), x.2.2.1, x.2.2.2.1, x.2.2.2.2.1, x.2.2.2.2.2.1, x.2.2.2.2.2.2.1, x.2.2.2.2.2.2.2) (Sum.elim (fun z7 =>
 k (.inr (.inr (z7.1, z7.2.1, z7.2.2.2.1, z7.2.2.2.2.1, z7.2.2.2.2.2.1, z7.2.2.2.2.2.2.1, z7.2.2.2.2.2.2.2.1, z7.2.2.2.2.2.2.2.2)))) (fun z8 =>
 if 0 ≤ z8.2.1 ∧ z8.2.1 < (z8.2.2.2.2.2.2.2.2.length : Int) then
 bif (decide ((z8.2.2.2.2.2.2.2.2.getD z8.2.1.toNat (Ty.zero (.int .i64))) ≥ z8.2.2.2.2.2.2.2.1)) then
 k (.inr (.inr (false, z8.2.1, z8.2.2.2.1, z8.2.2.2.2.1, z8.2.2.2.2.2.1, z8.2.2.2.2.2.2.1, z8.2.2.2.2.2.2.2.1, z8.2.2.2.2.2.2.2.2)))
 else
 k (.inl (z8.1, (IntKind.wrap .i64 (z8.2.1 + (1 : Int))), z8.2.2.2.1, z8.2.2.2.2.1, z8.2.2.2.2.2.1, z8.2.2.2.2.2.2.1, z8.2.2.2.2.2.2.2.1, z8.2.2.2.2.2.2.2.2))
 else none))
 else
 k (.inr (.inl (x.1, x.2.1, x.2.2.1, x.2.2.2.1, x.2.2.2.2.1, x.2.2.2.2.2.1, x.2.2.2.2.2.2.1, x.2.2.2.2.2.2.2)))
theorem wd7 (x : q20T) : Par (vlf x) := by
  unfold vlf
  exact (vab ((vav wcc _ _).bind2 (fun z7 => (vaa _)) (fun z8 => (vak (vab (vaa _) (vaa _)) vaf))) (vaa _))
def vdo (x : q17T) (k : q17T → Option Res) : Option Res :=
 vai vkg Fuel (x.1, (0 : Int), x.2.1, x.2.2.1, x.2.2.2.1, x.2.2.2.2.1, x.2.2.2.2.2) (Sum.elim (fun z9 =>
 k (z9.1, z9.2.2.1, z9.2.2.2.1, z9.2.2.2.2.1, z9.2.2.2.2.2.1, z9.2.2.2.2.2.2)) (fun z10 =>
 vai vki Fuel (z10.1, (0 : Int), z10.2.2.1, z10.2.2.2.1, z10.2.2.2.2.1, z10.2.2.2.2.2.1, z10.2.2.2.2.2.2, ([] : List Int)) (Sum.elim (fun z11 =>
 k (z11.1, z11.2.2.1, z11.2.2.2.1, z11.2.2.2.2.1, z11.2.2.2.2.2.1, z11.2.2.2.2.2.2.1)) (fun z12 =>
 vai vk9 Fuel (z12.1, (0 : Int), z12.2.2.1, z12.2.2.2.1, z12.2.2.2.2.1, z12.2.2.2.2.2.1, z12.2.2.2.2.2.2.1, z12.2.2.2.2.2.2.2) (Sum.elim (fun z13 =>
 k (z13.1, z13.2.2.1, z13.2.2.2.1, z13.2.2.2.2.1, z13.2.2.2.2.2.1, z13.2.2.2.2.2.2.1)) (fun z14 =>
 vai vlf Fuel (z14.1, (0 : Int), z14.2.2.1, z14.2.2.2.1, z14.2.2.2.2.1, z14.2.2.2.2.2.1, z14.2.2.2.2.2.2.1, z14.2.2.2.2.2.2.2) (Sum.elim (fun z15 =>
 k (true, z15.2.2.1, z15.2.2.2.1, z15.2.2.2.2.1, z15.2.2.2.2.2.1, z15.2.2.2.2.2.2.1)) (fun z16 =>
 k (z16.1, z16.2.2.1, z16.2.2.2.1, z16.2.2.2.2.1, z16.2.2.2.2.2.1, z16.2.2.2.2.2.2.1)))))))))
theorem vor (x : q17T) : Par (vdo x) := by
  unfold vdo
  exact ((vav wes _ _).bind2 (fun z9 => (vaa _)) (fun z10 => ((vav wck _ _).bind2 (fun z11 => (vaa _)) (fun z12 => ((vav we6 _ _).bind2 (fun z13 => (vaa _)) (fun z14 => ((vav wd7 _ _).bind2 (fun z15 => (vaa _)) (fun z16 => (vaa _)))))))))
def wdb (a0 : vn7) (k : Bool → Option Res) : Option Res :=
 vvg a0.1 (fun y1 =>
 bif (!y1) then
 k false
 else
 bif (decide ((a0.2.1.length : Int) > (12 : Int))) then
 k false
 else
 bif (decide ((a0.2.2.1.length : Int) > (3 : Int))) then
 k false
 else
 vdx a0.2.2.2.1 (0 : Int) (9999 : Int) (fun y2 =>
 bif (!y2) then
 k false
 else
 vdx a0.2.2.2.2 (1 : Int) (9999 : Int) (fun y3 =>
 bif (!y3) then
 k false
 else
 vdo (false, a0.1, a0.2.1, a0.2.2.1, a0.2.2.2.1, a0.2.2.2.2) (fun z4 =>
 k z4.1))))
def vxd := shut wdb
theorem wh1 : vxd = wdb := vap _
theorem wt9 (a0 : vn7) : Par (vxd a0) := by
  rw [wh1]
  unfold wdb
  exact ((wtw _).bind fun y1 => (vab (vaa _) (vab (vaa _) (vab (vaa _) ((vm2 _ _ _).bind fun y2 => (vab (vaa _) ((vm2 _ _ _).bind fun y3 => (vab (vaa _) ((vor _).bind fun z4 => (vaa _))))))))))
def vff (x : q44T) (k : q38T → Option Res) : Option Res :=
 k (x.2.2.2.1, true, x.2.2.2.2.2.1, x.2.2.2.2.2.2.1, x.2.2.1, x.2.2.2.1, x.2.2.2.2.1, x.2.2.2.2.2.1, x.2.2.2.2.2.2.1, x.2.2.2.2.2.2.2.2.2.2.1, x.2.2.2.2.2.2.2.2.2.2.2.1, x.2.2.2.2.2.2.2.2.2.2.2.2)
theorem vol (x : q44T) : Par (vff x) := by
  unfold vff
  exact (vaa _)
def veq (x : q57T) (k : q57T → Option Res) : Option Res :=
 vl7 x.2.2.2.2.1 x.2.2.2.2.2.1 x.2.2.2.2.2.2.1 (fun y10 =>
 vl7 y10.2.1 y10.2.2.1 y10.2.2.2 (fun y11 =>
 vu5 y11.2.1 y11.2.2.1 y11.2.2.2 (fun y12 =>
 vh0 y12.2.1 y12.2.2.1 y12.2.2.2 (fun y13 =>
 if x.2.2.2.2.2.2.2.2.2.length + [(y10.1, (y11.1, (y12.1, y13.1)))].length ≤ VE.maxLen then
 k (x.1, (IntKind.wrap .i64 (x.2.1 + (1 : Int))), x.2.2.1, x.2.2.2.1, y13.2.1, y13.2.2.1, y13.2.2.2, x.2.2.2.2.2.2.2.1, x.2.2.2.2.2.2.2.2.1, (x.2.2.2.2.2.2.2.2.2 ++ [(y10.1, (y11.1, (y12.1, y13.1)))]))
 else none))))
theorem vpm (x : q57T) : Par (veq x) := by
  unfold veq
  exact ((vvi _ _ _).bind fun y10 => ((vvi _ _ _).bind fun y11 => ((wer _ _ _).bind fun y12 => ((vl8 _ _ _).bind fun y13 => (vak (vaa _) vaf)))))
def vke (x : q57T) (k : q57T ⊕ q57T → Option Res) : Option Res :=
 bif (decide (x.2.1 < x.1)) then
 bif (decide (x.2.1 < (130 : Int))) then
 bif (!x.2.2.2.2.2.2.1) then
 veq (x.1, x.2.1, x.2.2.1, x.2.2.2.1, x.2.2.2.2.1, x.2.2.2.2.2.1, x.2.2.2.2.2.2.1, x.2.2.2.2.2.2.2.1, x.2.2.2.2.2.2.2.2.1, x.2.2.2.2.2.2.2.2.2) (fun z9 =>
 k (.inl (z9.1, z9.2.1, z9.2.2.1, z9.2.2.2.1, z9.2.2.2.2.1, z9.2.2.2.2.2.1, z9.2.2.2.2.2.2.1, z9.2.2.2.2.2.2.2.1, z9.2.2.2.2.2.2.2.2.1, z9.2.2.2.2.2.2.2.2.2)))
 else
 k (.inr (x.1, x.2.1, x.2.2.1, x.2.2.2.1, x.2.2.2.2.1, x.2.2.2.2.2.1, x.2.2.2.2.2.2.1, x.2.2.2.2.2.2.2.1, x.2.2.2.2.2.2.2.2.1, x.2.2.2.2.2.2.2.2.2))
 else
 k (.inr (x.1, x.2.1, x.2.2.1, x.2.2.2.1, x.2.2.2.2.1, x.2.2.2.2.2.1, x.2.2.2.2.2.2.1, x.2.2.2.2.2.2.2.1, x.2.2.2.2.2.2.2.2.1, x.2.2.2.2.2.2.2.2.2))
 else
 k (.inr (x.1, x.2.1, x.2.2.1, x.2.2.2.1, x.2.2.2.2.1, x.2.2.2.2.2.1, x.2.2.2.2.2.2.1, x.2.2.2.2.2.2.2.1, x.2.2.2.2.2.2.2.2.1, x.2.2.2.2.2.2.2.2.2))
theorem wcl (x : q57T) : Par (vke x) := by
  unfold vke
  exact (vab (vab (vab ((vpm _).bind fun z9 => (vaa _)) (vaa _)) (vaa _)) (vaa _))
def wfq (a0 : ByteArray) (a1 : Int) (k : (q50T ⊕ q50T) → Option Res) : Option Res :=
 vh0 a0 a1 false (fun y1 =>
 vh0 y1.2.1 y1.2.2.1 y1.2.2.2 (fun y2 =>
 vh0 y2.2.1 y2.2.2.1 y2.2.2.2 (fun y3 =>
 vai vke Fuel (y3.1, (0 : Int), (0 : Int), (0 : Int), y3.2.1, y3.2.2.1, y3.2.2.2, y1.1, y2.1, ([] : List vac)) (fun z4 =>
 vuv (12 : Int) z4.2.2.2.2.1 z4.2.2.2.2.2.1 z4.2.2.2.2.2.2.1 (fun y5 =>
 vuv (3 : Int) y5.1 y5.2.1 y5.2.2.1 (fun y6 =>
 bif y6.2.2.1 then
 k (.inl ((0 : Int), (0 : Int), (0 : Int), false, ([] : List vac), ([] : List dTxn), ([] : List dTxn)))
 else
 vxd (z4.2.2.2.2.2.2.2.2.2, (y5.2.2.2, (y6.2.2.2, (z4.2.2.2.2.2.2.2.1, z4.2.2.2.2.2.2.2.2.1)))) (fun y7 =>
 bif (!y7) then
 k (.inl ((0 : Int), (0 : Int), (0 : Int), false, ([] : List vac), ([] : List dTxn), ([] : List dTxn)))
 else
 vff (z4.2.2.1, z4.2.2.2.1, y6.1, y6.2.1, y6.2.2.1, z4.2.2.2.2.2.2.2.1, z4.2.2.2.2.2.2.2.2.1, ([] : List vac), ([] : List dTxn), ([] : List dTxn), z4.2.2.2.2.2.2.2.2.2, y5.2.2.2, y6.2.2.2) (fun z8 =>
 k (.inr (z8.2.2.1, z8.2.2.2.1, z8.1, z8.2.1, z8.2.2.2.2.2.2.2.2.2.1, z8.2.2.2.2.2.2.2.2.2.2.1, z8.2.2.2.2.2.2.2.2.2.2.2))))))))))
def vx9 := shut wfq
theorem wne : vx9 = wfq := vap _
theorem wtj (a0 : ByteArray) (a1 : Int) : Par (vx9 a0 a1) := by
  rw [wne]
  unfold wfq
  exact ((vl8 _ _ _).bind fun y1 => ((vl8 _ _ _).bind fun y2 => ((vl8 _ _ _).bind fun y3 => ((vav wcl _ _).bind fun z4 => ((wko _ _ _ _).bind fun y5 => ((wko _ _ _ _).bind fun y6 => (vab (vaa _) ((wt9 _).bind fun y7 => (vab (vaa _) ((vol _).bind fun z8 => (vaa _)))))))))))
def wcy (a0 : Int) (a1 : Int) (a2 : Int) (k : Bool → Option Res) : Option Res :=
 bif (decide (a0 ≥ a1)) then
 k (decide (a0 ≤ a2))
 else
 k false
def vdb := shut wcy
theorem wnr : vdb = wcy := vap _
theorem vj8 (a0 : Int) (a1 : Int) (a2 : Int) : Par (vdb a0 a1 a2) := by
  rw [wnr]
  unfold wcy
  exact (vab (vaa _) (vaa _))
def vli (x : (Int × (List Int))) (k : (Int × (List Int)) ⊕ (Int × (List Int)) → Option Res) : Option Res :=
 bif (decide (x.1 > (127 : Int))) then
 if x.2.length + [(IntKind.wrap .u8 (IntKind.wrap .i64 ((x.1.tmod (128 : Int)) + (128 : Int))))].length ≤ VE.maxLen then
 k (.inl ((IntKind.wrap .i64 (x.1.tdiv (128 : Int))), (x.2 ++ [(IntKind.wrap .u8 (IntKind.wrap .i64 ((x.1.tmod (128 : Int)) + (128 : Int))))])))
 else none
 else
 k (.inr (x.1, x.2))
theorem wf3 (x : (Int × (List Int))) : Par (vli x) := by
  unfold vli
  exact (vab (vak (vaa _) vaf) (vaa _))
def wdh (a0 : Int) (k : (ByteArray × Bool) → Option Res) : Option Res :=
 vdb a0 (0 : Int) (1000000000 : Int) (fun y1 =>
 bif (!y1) then
 k ((⟨#[]⟩ : ByteArray), false)
 else
 vai vli Fuel (a0, ([] : List Int)) (fun z2 =>
 if z2.2.length + [(IntKind.wrap .u8 z2.1)].length ≤ VE.maxLen then
 k ((vd4 (z2.2 ++ [(IntKind.wrap .u8 z2.1)])), true)
 else none))
def v19 := shut wdh
theorem wmr : v19 = wdh := vap _
theorem ws0 (a0 : Int) : Par (v19 a0) := by
  rw [wmr]
  unfold wdh
  exact ((vj8 _ _ _).bind fun y1 => (vab (vaa _) ((vav wf3 _ _).bind fun z2 => (vak (vaa _) vaf))))
def vee (x : q36T) (k : (q36T ⊕ q36T) → Option Res) : Option Res :=
 if 0 ≤ (IntKind.wrap .i64 (x.2.1 + x.2.2.2.2.2.2)) ∧ (IntKind.wrap .i64 (x.2.1 + x.2.2.2.2.2.2)) < (x.1.size : Int) then
 if (IntKind.wrap .i64 ((7 : Int) * x.2.2.2.2.2.2)) < 0 then none else
 bif (decide ((IntKind.wrap .i64 (bt x.1 (IntKind.wrap .i64 (x.2.1 + x.2.2.2.2.2.2)))) < (128 : Int))) then
 v19 (IntKind.wrap .i64 (x.2.2.2.2.2.1 + (IntKind.wrap .i64 (((IntKind.wrap .i64 (bt x.1 (IntKind.wrap .i64 (x.2.1 + x.2.2.2.2.2.2)))).tmod (128 : Int)) * 2 ^ (min (IntKind.wrap .i64 ((7 : Int) * x.2.2.2.2.2.2)).toNat (IntKind.bits .i64)))))) (fun y6 =>
 bif (!y6.2) then
 k (.inl (x.1, x.2.1, (0 : Int), (0 : Int), false, (IntKind.wrap .i64 (x.2.2.2.2.2.1 + (IntKind.wrap .i64 (((IntKind.wrap .i64 (bt x.1 (IntKind.wrap .i64 (x.2.1 + x.2.2.2.2.2.2)))).tmod (128 : Int)) * 2 ^ (min (IntKind.wrap .i64 ((7 : Int) * x.2.2.2.2.2.2)).toNat (IntKind.bits .i64)))))), x.2.2.2.2.2.2))
 else
 bif ((y6.1.size : Int) != (IntKind.wrap .i64 (x.2.2.2.2.2.2 + (1 : Int)))) then
 k (.inl (x.1, x.2.1, (0 : Int), (0 : Int), false, (IntKind.wrap .i64 (x.2.2.2.2.2.1 + (IntKind.wrap .i64 (((IntKind.wrap .i64 (bt x.1 (IntKind.wrap .i64 (x.2.1 + x.2.2.2.2.2.2)))).tmod (128 : Int)) * 2 ^ (min (IntKind.wrap .i64 ((7 : Int) * x.2.2.2.2.2.2)).toNat (IntKind.bits .i64)))))), x.2.2.2.2.2.2))
 else
 k (.inl (x.1, x.2.1, (IntKind.wrap .i64 (x.2.2.2.2.2.1 + (IntKind.wrap .i64 (((IntKind.wrap .i64 (bt x.1 (IntKind.wrap .i64 (x.2.1 + x.2.2.2.2.2.2)))).tmod (128 : Int)) * 2 ^ (min (IntKind.wrap .i64 ((7 : Int) * x.2.2.2.2.2.2)).toNat (IntKind.bits .i64)))))), (IntKind.wrap .i64 ((IntKind.wrap .i64 (x.2.1 + x.2.2.2.2.2.2)) + (1 : Int))), true, (IntKind.wrap .i64 (x.2.2.2.2.2.1 + (IntKind.wrap .i64 (((IntKind.wrap .i64 (bt x.1 (IntKind.wrap .i64 (x.2.1 + x.2.2.2.2.2.2)))).tmod (128 : Int)) * 2 ^ (min (IntKind.wrap .i64 ((7 : Int) * x.2.2.2.2.2.2)).toNat (IntKind.bits .i64)))))), x.2.2.2.2.2.2)))
 else
 k (.inr (x.1, x.2.1, x.2.2.1, x.2.2.2.1, x.2.2.2.2.1, (IntKind.wrap .i64 (x.2.2.2.2.2.1 + (IntKind.wrap .i64 (((IntKind.wrap .i64 (bt x.1 (IntKind.wrap .i64 (x.2.1 + x.2.2.2.2.2.2)))).tmod (128 : Int)) * 2 ^ (min (IntKind.wrap .i64 ((7 : Int) * x.2.2.2.2.2.2)).toNat (IntKind.bits .i64)))))), (IntKind.wrap .i64 (x.2.2.2.2.2.2 + (1 : Int)))))
 else none
theorem vqc (x : q36T) : Par (vee x) := by
  unfold vee
  exact (vak (vak vaf (vab ((ws0 _).bind fun y6 => (vab (vaa _) (vab (vaa _) (vaa _)))) (vaa _))) vaf)
def vk3 (x : q36T) (k : q36T ⊕ (q36T ⊕ q36T) → Option Res) : Option Res :=
 bif (decide (x.2.2.2.2.2.2 < (5 : Int))) then
 bif (decide ((IntKind.wrap .i64 (x.2.1 + x.2.2.2.2.2.2)) < (x.1.size : Int))) then
 vee (x.1, x.2.1, x.2.2.1, x.2.2.2.1, x.2.2.2.2.1, x.2.2.2.2.2.1, x.2.2.2.2.2.2) (Sum.elim (fun z4 =>
 k (.inr (.inr (z4.1, z4.2.1, z4.2.2.1, z4.2.2.2.1, z4.2.2.2.2.1, z4.2.2.2.2.2.1, z4.2.2.2.2.2.2)))) (fun z5 =>
 k (.inl (z5.1, z5.2.1, z5.2.2.1, z5.2.2.2.1, z5.2.2.2.2.1, z5.2.2.2.2.2.1, z5.2.2.2.2.2.2))))
 else
 k (.inr (.inl (x.1, x.2.1, x.2.2.1, x.2.2.2.1, x.2.2.2.2.1, x.2.2.2.2.2.1, x.2.2.2.2.2.2)))
 else
 k (.inr (.inl (x.1, x.2.1, x.2.2.1, x.2.2.2.1, x.2.2.2.2.1, x.2.2.2.2.2.1, x.2.2.2.2.2.2)))
theorem we2 (x : q36T) : Par (vk3 x) := by
  unfold vk3
  exact (vab (vab ((vqc _).bind2 (fun z4 => (vaa _)) (fun z5 => (vaa _))) (vaa _)) (vaa _))
def wce (a0 : ByteArray) (a1 : Int) (k : (Int × Int × Bool) → Option Res) : Option Res :=
 vdb a1 (0 : Int) (a0.size : Int) (fun y1 =>
 bif (!y1) then
 k ((0 : Int), (0 : Int), false)
 else
 vai vk3 Fuel (a0, a1, (0 : Int), (0 : Int), false, (0 : Int), (0 : Int)) (Sum.elim (fun _ =>
 k ((0 : Int), (0 : Int), false)) (fun z3 =>
 k (z3.2.2.1, z3.2.2.2.1, z3.2.2.2.2.1))))
def vv8 := shut wce
theorem wip : vv8 = wce := vap _
theorem wg8 (a0 : ByteArray) (a1 : Int) : Par (vv8 a0 a1) := by
  rw [wip]
  unfold wce
  exact ((vj8 _ _ _).bind fun y1 => (vab (vaa _) ((vav we2 _ _).bind2 (fun z2 => (vaa _)) (fun z3 => (vaa _)))))
def wfx (a0 : ByteArray) (a1 : Int) (a2 : Bool) (k : (Int × ByteArray × Int × Bool) → Option Res) : Option Res :=
 vv8 a0 a1 (fun y1 =>
 bif a2 then
 k ((0 : Int), a0, a1, true)
 else
 bif (!y1.2.2) then
 k ((0 : Int), a0, a1, true)
 else
 k (y1.1, a0, y1.2.1, a2))
def vfs := shut wfx
theorem wnb : vfs = wfx := vap _
theorem vje (a0 : ByteArray) (a1 : Int) (a2 : Bool) : Par (vfs a0 a1 a2) := by
  rw [wnb]
  unfold wfx
  exact ((wg8 _ _).bind fun y1 => (vab (vaa _) (vab (vaa _) (vaa _))))
def weq (a0 : ByteArray) (a1 : Int) (k : (ByteArray × Int × Bool) → Option Res) : Option Res :=
 vv8 a0 a1 (fun y1 =>
 bif (!y1.2.2) then
 k ((⟨#[]⟩ : ByteArray), (0 : Int), false)
 else
 bif (decide (y1.1 > (20000 : Int))) then
 k ((⟨#[]⟩ : ByteArray), (0 : Int), false)
 else
 bif (decide (y1.1 > (IntKind.wrap .i64 ((a0.size : Int) - y1.2.1)))) then
 k ((⟨#[]⟩ : ByteArray), (0 : Int), false)
 else
 if 0 ≤ y1.2.1 ∧ y1.2.1 ≤ (IntKind.wrap .i64 (y1.2.1 + y1.1)) ∧ (IntKind.wrap .i64 (y1.2.1 + y1.1)) ≤ (a0.size : Int) then
 k ((a0.extract y1.2.1.toNat (IntKind.wrap .i64 (y1.2.1 + y1.1)).toNat), (IntKind.wrap .i64 (y1.2.1 + y1.1)), true)
 else none)
def v01 := shut weq
theorem wiw : v01 = weq := vap _
theorem wua (a0 : ByteArray) (a1 : Int) : Par (v01 a0 a1) := by
  rw [wiw]
  unfold weq
  exact ((wg8 _ _).bind fun y1 => (vab (vaa _) (vab (vaa _) (vab (vaa _) (vak (vaa _) vaf)))))
def we1 (a0 : ByteArray) (a1 : Int) (a2 : Bool) (k : q27T → Option Res) : Option Res :=
 v01 a0 a1 (fun y1 =>
 bif a2 then
 k ((⟨#[]⟩ : ByteArray), a0, a1, true)
 else
 bif (!y1.2.2) then
 k ((⟨#[]⟩ : ByteArray), a0, a1, true)
 else
 k (y1.1, a0, y1.2.1, a2))
def vfq := shut we1
theorem wlf : vfq = we1 := vap _
theorem vja (a0 : ByteArray) (a1 : Int) (a2 : Bool) : Par (vfq a0 a1 a2) := by
  rw [wlf]
  unfold we1
  exact ((wua _ _).bind fun y1 => (vab (vaa _) (vab (vaa _) (vaa _))))
def vei (x : q19T) (k : q19T → Option Res) : Option Res :=
 if 0 ≤ (IntKind.wrap .i64 ((IntKind.wrap .i64 (x.2.2.1 + (1 : Int))) - (1 : Int))) ∧ (IntKind.wrap .i64 ((IntKind.wrap .i64 (x.2.2.1 + (1 : Int))) - (1 : Int))) < (x.2.1.size : Int) then
 k (((bt x.2.1 (IntKind.wrap .i64 ((IntKind.wrap .i64 (x.2.2.1 + (1 : Int))) - (1 : Int)))) == (1 : Int)), x.2.1, (IntKind.wrap .i64 (x.2.2.1 + (1 : Int))), x.2.2.2)
 else none
theorem vql (x : q19T) : Par (vei x) := by
  unfold vei
  exact (vak (vaa _) vaf)
def wd8 (a0 : ByteArray) (a1 : Int) (a2 : Bool) (k : q19T → Option Res) : Option Res :=
 bif a2 then
 k (false, a0, a1, true)
 else
 vdb a1 (0 : Int) (IntKind.wrap .i64 ((a0.size : Int) - (1 : Int))) (fun y1 =>
 bif (!y1) then
 k (false, a0, a1, true)
 else
 if 0 ≤ a1 ∧ a1 < (a0.size : Int) then
 bif (decide ((bt a0 a1) > (1 : Int))) then
 k (false, a0, a1, true)
 else
 vei (false, a0, a1, a2) (fun z2 =>
 k (z2.1, z2.2.1, z2.2.2.1, z2.2.2.2))
 else none)
def vod := shut wd8
theorem wmv : vod = wd8 := vap _
theorem v02 (a0 : ByteArray) (a1 : Int) (a2 : Bool) : Par (vod a0 a1 a2) := by
  rw [wmv]
  unfold wd8
  exact (vab (vaa _) ((vj8 _ _ _).bind fun y1 => (vab (vaa _) (vak (vab (vaa _) ((vql _).bind fun z2 => (vaa _))) vaf))))
def wjt (a0 : Int) (a1 : Int) (a2 : ByteArray) (a3 : Int) (a4 : Bool) (k : q43T → Option Res) : Option Res :=
 vfq a2 a3 a4 (fun y1 =>
 vfq y1.2.1 y1.2.2.1 y1.2.2.2 (fun y2 =>
 vod y2.2.1 y2.2.2.1 y2.2.2.2 (fun y3 =>
 vfs y3.2.1 y3.2.2.1 y3.2.2.2 (fun y4 =>
 if [(y1.1, (y2.1, (y3.1, y4.1)))].length ≤ VE.maxLen then
 k (a0, a1, y4.2.1, y4.2.2.1, y4.2.2.2, [(y1.1, (y2.1, (y3.1, y4.1)))])
 else none))))
def wd0 := shut wjt
theorem wst : wd0 = wjt := vap _
theorem w0w (a0 : Int) (a1 : Int) (a2 : ByteArray) (a3 : Int) (a4 : Bool) : Par (wd0 a0 a1 a2 a3 a4) := by
  rw [wst]
  unfold wjt
  exact ((vja _ _ _).bind fun y1 => ((vja _ _ _).bind fun y2 => ((v02 _ _ _).bind fun y3 => ((vje _ _ _).bind fun y4 => (vak (vaa _) vaf)))))
def we3 (a0 : Int) (a1 : Int) (a2 : ByteArray) (a3 : Int) (a4 : Bool) (a5 : (List vac)) (k : q43T → Option Res) : Option Res :=
 vfq a2 a3 a4 (fun y1 =>
 vfq y1.2.1 y1.2.2.1 y1.2.2.2 (fun y2 =>
 vod y2.2.1 y2.2.2.1 y2.2.2.2 (fun y3 =>
 vfs y3.2.1 y3.2.2.1 y3.2.2.2 (fun y4 =>
 if a5.length + [(y1.1, (y2.1, (y3.1, y4.1)))].length ≤ VE.maxLen then
 k (a0, a1, y4.2.1, y4.2.2.1, y4.2.2.2, (a5 ++ [(y1.1, (y2.1, (y3.1, y4.1)))]))
 else none))))
def v7f := shut we3
theorem wl8 : v7f = we3 := vap _
theorem wtl (a0 : Int) (a1 : Int) (a2 : ByteArray) (a3 : Int) (a4 : Bool) (a5 : (List vac)) : Par (v7f a0 a1 a2 a3 a4 a5) := by
  rw [wl8]
  unfold we3
  exact ((vja _ _ _).bind fun y1 => ((vja _ _ _).bind fun y2 => ((v02 _ _ _).bind fun y3 => ((vje _ _ _).bind fun y4 => (vak (vaa _) vaf)))))
def veb (x : q47T) (k : q47T → Option Res) : Option Res :=
 v7f x.2.2.2.2.2.1 x.2.2.2.2.2.2.1 x.2.2.1 x.2.2.2.1 x.2.2.2.2.1 x.2.2.2.2.2.2.2 (fun y4 =>
 k (x.1, (IntKind.wrap .i64 (x.2.1 + (1 : Int))), y4.2.2.1, y4.2.2.2.1, y4.2.2.2.2.1, y4.1, y4.2.1, y4.2.2.2.2.2))
theorem vo2 (x : q47T) : Par (veb x) := by
  unfold veb
  exact ((wtl _ _ _ _ _ _).bind fun y4 => (vaa _))
def vmz (x : q47T) (k : q47T ⊕ q47T → Option Res) : Option Res :=
 bif (decide (x.2.1 < x.1)) then
 bif (!x.2.2.2.2.1) then
 veb (x.1, x.2.1, x.2.2.1, x.2.2.2.1, x.2.2.2.2.1, x.2.2.2.2.2.1, x.2.2.2.2.2.2.1, x.2.2.2.2.2.2.2) (fun z3 =>
 k (.inl (z3.1, z3.2.1, z3.2.2.1, z3.2.2.2.1, z3.2.2.2.2.1, z3.2.2.2.2.2.1, z3.2.2.2.2.2.2.1, z3.2.2.2.2.2.2.2)))
 else
 k (.inr (x.1, x.2.1, x.2.2.1, x.2.2.2.1, x.2.2.2.2.1, x.2.2.2.2.2.1, x.2.2.2.2.2.2.1, x.2.2.2.2.2.2.2))
 else
 k (.inr (x.1, x.2.1, x.2.2.1, x.2.2.2.1, x.2.2.2.2.1, x.2.2.2.2.2.1, x.2.2.2.2.2.2.1, x.2.2.2.2.2.2.2))
theorem wbw (x : q47T) : Par (vmz x) := by
  unfold vmz
  exact (vab (vab ((vo2 _).bind fun z3 => (vaa _)) (vaa _)) (vaa _))
def wb0 (a0 : ByteArray) (a1 : Int) (a2 : Bool) (a3 : Int) (a4 : Int) (k : q32T → Option Res) : Option Res :=
 vfs a0 a1 a2 (fun y1 =>
 vai vmz Fuel (y1.1, (0 : Int), y1.2.1, y1.2.2.1, y1.2.2.2, a3, a4, ([] : List vac)) (fun z2 =>
 k (z2.2.2.1, z2.2.2.2.1, z2.2.2.2.2.1, z2.2.2.2.2.2.1, z2.2.2.2.2.2.2.1, z2.2.2.2.2.2.2.2)))
def v10 := shut wb0
theorem wja : v10 = wb0 := vap _
theorem ws9 (a0 : ByteArray) (a1 : Int) (a2 : Bool) (a3 : Int) (a4 : Int) : Par (v10 a0 a1 a2 a3 a4) := by
  rw [wja]
  unfold wb0
  exact ((vje _ _ _).bind fun y1 => ((vav wbw _ _).bind fun z2 => (vaa _)))
def wm3 (a0 : Int) (a1 : Int) (a2 : Int) (a3 : Int) (a4 : Bool) (a5 : ByteArray) (a6 : ByteArray) (a7 : Int) (a8 : Bool) (k : q54T → Option Res) : Option Res :=
 vfq a6 a7 a8 (fun y1 =>
 vfq y1.2.1 y1.2.2.1 y1.2.2.2 (fun y2 =>
 if [(y1.1, y2.1)].length ≤ VE.maxLen then
 k (a0, a1, a2, a3, a4, a5, y2.2.1, y2.2.2.1, y2.2.2.2, [(y1.1, y2.1)])
 else none))
def wcj := shut wm3
theorem wtq : wcj = wm3 := vap _
theorem wwz (a0 : Int) (a1 : Int) (a2 : Int) (a3 : Int) (a4 : Bool) (a5 : ByteArray) (a6 : ByteArray) (a7 : Int) (a8 : Bool) : Par (wcj a0 a1 a2 a3 a4 a5 a6 a7 a8) := by
  rw [wtq]
  unfold wm3
  exact ((vja _ _ _).bind fun y1 => ((vja _ _ _).bind fun y2 => (vak (vaa _) vaf)))
def wf5 (a0 : Int) (a1 : Int) (a2 : Int) (a3 : Int) (a4 : Bool) (a5 : ByteArray) (a6 : (List van)) (a7 : ByteArray) (a8 : Int) (a9 : Bool) (k : q54T → Option Res) : Option Res :=
 vfq a7 a8 a9 (fun y1 =>
 vfq y1.2.1 y1.2.2.1 y1.2.2.2 (fun y2 =>
 if a6.length + [(y1.1, y2.1)].length ≤ VE.maxLen then
 k (a0, a1, a2, a3, a4, a5, y2.2.1, y2.2.2.1, y2.2.2.2, (a6 ++ [(y1.1, y2.1)]))
 else none))
def v6s := shut wf5
theorem wmt : v6s = wf5 := vap _
theorem ws6 (a0 : Int) (a1 : Int) (a2 : Int) (a3 : Int) (a4 : Bool) (a5 : ByteArray) (a6 : (List van)) (a7 : ByteArray) (a8 : Int) (a9 : Bool) : Par (v6s a0 a1 a2 a3 a4 a5 a6 a7 a8 a9) := by
  rw [wmt]
  unfold wf5
  exact ((vja _ _ _).bind fun y1 => ((vja _ _ _).bind fun y2 => (vak (vaa _) vaf)))
def vel (x : q49T) (k : q49T → Option Res) : Option Res :=
 v6s x.2.2.2.2.2.1 x.2.2.2.2.2.2.1 x.2.2.2.2.2.2.2.1 x.2.2.2.2.2.2.2.2.1 x.2.2.2.2.2.2.2.2.2.1 x.2.2.2.2.2.2.2.2.2.2.1 x.2.2.2.2.2.2.2.2.2.2.2 x.2.2.1 x.2.2.2.1 x.2.2.2.2.1 (fun y4 =>
 k (x.1, (IntKind.wrap .i64 (x.2.1 + (1 : Int))), y4.2.2.2.2.2.2.1, y4.2.2.2.2.2.2.2.1, y4.2.2.2.2.2.2.2.2.1, y4.1, y4.2.1, y4.2.2.1, y4.2.2.2.1, y4.2.2.2.2.1, y4.2.2.2.2.2.1, y4.2.2.2.2.2.2.2.2.2))
theorem vo4 (x : q49T) : Par (vel x) := by
  unfold vel
  exact ((ws6 _ _ _ _ _ _ _ _ _ _).bind fun y4 => (vaa _))
def vml (x : q49T) (k : q49T ⊕ q49T → Option Res) : Option Res :=
 bif (decide (x.2.1 < x.1)) then
 bif (!x.2.2.2.2.1) then
 vel (x.1, x.2.1, x.2.2.1, x.2.2.2.1, x.2.2.2.2.1, x.2.2.2.2.2.1, x.2.2.2.2.2.2.1, x.2.2.2.2.2.2.2.1, x.2.2.2.2.2.2.2.2.1, x.2.2.2.2.2.2.2.2.2.1, x.2.2.2.2.2.2.2.2.2.2.1, x.2.2.2.2.2.2.2.2.2.2.2) (fun z3 =>
 k (.inl (z3.1, z3.2.1, z3.2.2.1, z3.2.2.2.1, z3.2.2.2.2.1, z3.2.2.2.2.2.1, z3.2.2.2.2.2.2.1, z3.2.2.2.2.2.2.2.1, z3.2.2.2.2.2.2.2.2.1, z3.2.2.2.2.2.2.2.2.2.1, z3.2.2.2.2.2.2.2.2.2.2.1, z3.2.2.2.2.2.2.2.2.2.2.2)))
 else
 k (.inr (x.1, x.2.1, x.2.2.1, x.2.2.2.1, x.2.2.2.2.1, x.2.2.2.2.2.1, x.2.2.2.2.2.2.1, x.2.2.2.2.2.2.2.1, x.2.2.2.2.2.2.2.2.1, x.2.2.2.2.2.2.2.2.2.1, x.2.2.2.2.2.2.2.2.2.2.1, x.2.2.2.2.2.2.2.2.2.2.2))
 else
 k (.inr (x.1, x.2.1, x.2.2.1, x.2.2.2.1, x.2.2.2.2.1, x.2.2.2.2.2.1, x.2.2.2.2.2.2.1, x.2.2.2.2.2.2.2.1, x.2.2.2.2.2.2.2.2.1, x.2.2.2.2.2.2.2.2.2.1, x.2.2.2.2.2.2.2.2.2.2.1, x.2.2.2.2.2.2.2.2.2.2.2))
theorem wfc (x : q49T) : Par (vml x) := by
  unfold vml
  exact (vab (vab ((vo4 _).bind fun z3 => (vaa _)) (vaa _)) (vaa _))
def wfs (a0 : ByteArray) (a1 : Int) (a2 : Bool) (a3 : Int) (a4 : Int) (a5 : Int) (a6 : Int) (a7 : Bool) (a8 : ByteArray) (k : q34T → Option Res) : Option Res :=
 vfs a0 a1 a2 (fun y1 =>
 vai vml Fuel (y1.1, (0 : Int), y1.2.1, y1.2.2.1, y1.2.2.2, a3, a4, a5, a6, a7, a8, ([] : List van)) (fun z2 =>
 k (z2.2.2.1, z2.2.2.2.1, z2.2.2.2.2.1, z2.2.2.2.2.2.1, z2.2.2.2.2.2.2.1, z2.2.2.2.2.2.2.2.1, z2.2.2.2.2.2.2.2.2.1, z2.2.2.2.2.2.2.2.2.2.1, z2.2.2.2.2.2.2.2.2.2.2.1, z2.2.2.2.2.2.2.2.2.2.2.2)))
def v1t := shut wfs
theorem wht : v1t = wfs := vap _
theorem wts (a0 : ByteArray) (a1 : Int) (a2 : Bool) (a3 : Int) (a4 : Int) (a5 : Int) (a6 : Int) (a7 : Bool) (a8 : ByteArray) : Par (v1t a0 a1 a2 a3 a4 a5 a6 a7 a8) := by
  rw [wht]
  unfold wfs
  exact ((vje _ _ _).bind fun y1 => ((vav wfc _ _).bind fun z2 => (vaa _)))
def wlw (a0 : Int) (a1 : Int) (a2 : Int) (a3 : Int) (a4 : Bool) (a5 : ByteArray) (a6 : ByteArray) (a7 : Int) (a8 : Bool) (a9 : (List van)) (k : q53T → Option Res) : Option Res :=
 vfq a6 a7 a8 (fun y1 =>
 vfq y1.2.1 y1.2.2.1 y1.2.2.2 (fun y2 =>
 vod y2.2.1 y2.2.2.1 y2.2.2.2 (fun y3 =>
 if [(y1.1, (y2.1, y3.1))].length ≤ VE.maxLen then
 k (a0, a1, a2, a3, a4, a5, y3.2.1, y3.2.2.1, y3.2.2.2, a9, [(y1.1, (y2.1, y3.1))])
 else none)))
def wds := shut wlw
theorem wsx : wds = wlw := vap _
theorem wxe (a0 : Int) (a1 : Int) (a2 : Int) (a3 : Int) (a4 : Bool) (a5 : ByteArray) (a6 : ByteArray) (a7 : Int) (a8 : Bool) (a9 : (List van)) : Par (wds a0 a1 a2 a3 a4 a5 a6 a7 a8 a9) := by
  rw [wsx]
  unfold wlw
  exact ((vja _ _ _).bind fun y1 => ((vja _ _ _).bind fun y2 => ((v02 _ _ _).bind fun y3 => (vak (vaa _) vaf))))
def wdz (a0 : Int) (a1 : Int) (a2 : Int) (a3 : Int) (a4 : Bool) (a5 : ByteArray) (a6 : ByteArray) (a7 : Int) (a8 : Bool) (a9 : (List van)) (a10 : (List vam)) (k : q53T → Option Res) : Option Res :=
 vfq a6 a7 a8 (fun y1 =>
 vfq y1.2.1 y1.2.2.1 y1.2.2.2 (fun y2 =>
 vod y2.2.1 y2.2.2.1 y2.2.2.2 (fun y3 =>
 if a10.length + [(y1.1, (y2.1, y3.1))].length ≤ VE.maxLen then
 k (a0, a1, a2, a3, a4, a5, y3.2.1, y3.2.2.1, y3.2.2.2, a9, (a10 ++ [(y1.1, (y2.1, y3.1))]))
 else none)))
def v6z := shut wdz
theorem wl0 : v6z = wdz := vap _
theorem wuj (a0 : Int) (a1 : Int) (a2 : Int) (a3 : Int) (a4 : Bool) (a5 : ByteArray) (a6 : ByteArray) (a7 : Int) (a8 : Bool) (a9 : (List van)) (a10 : (List vam)) : Par (v6z a0 a1 a2 a3 a4 a5 a6 a7 a8 a9 a10) := by
  rw [wl0]
  unfold wdz
  exact ((vja _ _ _).bind fun y1 => ((vja _ _ _).bind fun y2 => ((v02 _ _ _).bind fun y3 => (vak (vaa _) vaf))))
def veh (x : q48T) (k : q48T → Option Res) : Option Res :=
 v6z x.2.2.2.2.2.1 x.2.2.2.2.2.2.1 x.2.2.2.2.2.2.2.1 x.2.2.2.2.2.2.2.2.1 x.2.2.2.2.2.2.2.2.2.1 x.2.2.2.2.2.2.2.2.2.2.1 x.2.2.1 x.2.2.2.1 x.2.2.2.2.1 x.2.2.2.2.2.2.2.2.2.2.2.1 x.2.2.2.2.2.2.2.2.2.2.2.2 (fun y4 =>
 k (x.1, (IntKind.wrap .i64 (x.2.1 + (1 : Int))), y4.2.2.2.2.2.2.1, y4.2.2.2.2.2.2.2.1, y4.2.2.2.2.2.2.2.2.1, y4.1, y4.2.1, y4.2.2.1, y4.2.2.2.1, y4.2.2.2.2.1, y4.2.2.2.2.2.1, y4.2.2.2.2.2.2.2.2.2.1, y4.2.2.2.2.2.2.2.2.2.2))
theorem vpn (x : q48T) : Par (veh x) := by
  unfold veh
  exact ((wuj _ _ _ _ _ _ _ _ _ _ _).bind fun y4 => (vaa _))
def vmq (x : q48T) (k : q48T ⊕ q48T → Option Res) : Option Res :=
 bif (decide (x.2.1 < x.1)) then
 bif (!x.2.2.2.2.1) then
 veh (x.1, x.2.1, x.2.2.1, x.2.2.2.1, x.2.2.2.2.1, x.2.2.2.2.2.1, x.2.2.2.2.2.2.1, x.2.2.2.2.2.2.2.1, x.2.2.2.2.2.2.2.2.1, x.2.2.2.2.2.2.2.2.2.1, x.2.2.2.2.2.2.2.2.2.2.1, x.2.2.2.2.2.2.2.2.2.2.2.1, x.2.2.2.2.2.2.2.2.2.2.2.2) (fun z3 =>
 k (.inl (z3.1, z3.2.1, z3.2.2.1, z3.2.2.2.1, z3.2.2.2.2.1, z3.2.2.2.2.2.1, z3.2.2.2.2.2.2.1, z3.2.2.2.2.2.2.2.1, z3.2.2.2.2.2.2.2.2.1, z3.2.2.2.2.2.2.2.2.2.1, z3.2.2.2.2.2.2.2.2.2.2.1, z3.2.2.2.2.2.2.2.2.2.2.2.1, z3.2.2.2.2.2.2.2.2.2.2.2.2)))
 else
 k (.inr (x.1, x.2.1, x.2.2.1, x.2.2.2.1, x.2.2.2.2.1, x.2.2.2.2.2.1, x.2.2.2.2.2.2.1, x.2.2.2.2.2.2.2.1, x.2.2.2.2.2.2.2.2.1, x.2.2.2.2.2.2.2.2.2.1, x.2.2.2.2.2.2.2.2.2.2.1, x.2.2.2.2.2.2.2.2.2.2.2.1, x.2.2.2.2.2.2.2.2.2.2.2.2))
 else
 k (.inr (x.1, x.2.1, x.2.2.1, x.2.2.2.1, x.2.2.2.2.1, x.2.2.2.2.2.1, x.2.2.2.2.2.2.1, x.2.2.2.2.2.2.2.1, x.2.2.2.2.2.2.2.2.1, x.2.2.2.2.2.2.2.2.2.1, x.2.2.2.2.2.2.2.2.2.2.1, x.2.2.2.2.2.2.2.2.2.2.2.1, x.2.2.2.2.2.2.2.2.2.2.2.2))
theorem wfr (x : q48T) : Par (vmq x) := by
  unfold vmq
  exact (vab (vab ((vpn _).bind fun z3 => (vaa _)) (vaa _)) (vaa _))
def wf7 (a0 : ByteArray) (a1 : Int) (a2 : Bool) (a3 : Int) (a4 : Int) (a5 : Int) (a6 : Int) (a7 : Bool) (a8 : ByteArray) (a9 : (List van)) (k : q33T → Option Res) : Option Res :=
 vfs a0 a1 a2 (fun y1 =>
 vai vmq Fuel (y1.1, (0 : Int), y1.2.1, y1.2.2.1, y1.2.2.2, a3, a4, a5, a6, a7, a8, a9, ([] : List vam)) (fun z2 =>
 k (z2.2.2.1, z2.2.2.2.1, z2.2.2.2.2.1, z2.2.2.2.2.2.1, z2.2.2.2.2.2.2.1, z2.2.2.2.2.2.2.2.1, z2.2.2.2.2.2.2.2.2.1, z2.2.2.2.2.2.2.2.2.2.1, z2.2.2.2.2.2.2.2.2.2.2.1, z2.2.2.2.2.2.2.2.2.2.2.2.1, z2.2.2.2.2.2.2.2.2.2.2.2.2)))
def v1v := shut wf7
theorem wj0 : v1v = wf7 := vap _
theorem wsw (a0 : ByteArray) (a1 : Int) (a2 : Bool) (a3 : Int) (a4 : Int) (a5 : Int) (a6 : Int) (a7 : Bool) (a8 : ByteArray) (a9 : (List van)) : Par (v1v a0 a1 a2 a3 a4 a5 a6 a7 a8 a9) := by
  rw [wj0]
  unfold wf7
  exact ((vje _ _ _).bind fun y1 => ((vav wfr _ _).bind fun z2 => (vaa _)))
def vlp (x : (ByteArray × Bool × Int)) (k : (ByteArray × Bool × Int) ⊕ ((ByteArray × Bool × Int) ⊕ (ByteArray × Bool × Int)) → Option Res) : Option Res :=
 bif (decide (x.2.2 < (x.1.size : Int))) then
 if 0 ≤ x.2.2 ∧ x.2.2 < (x.1.size : Int) then
 bif (decide ((bt x.1 x.2.2) < (97 : Int))) then
 k (.inr (.inl (x.1, false, x.2.2)))
 else
 if 0 ≤ x.2.2 ∧ x.2.2 < (x.1.size : Int) then
 bif (decide ((bt x.1 x.2.2) > (122 : Int))) then
 k (.inr (.inl (x.1, false, x.2.2)))
 else
 k (.inl (x.1, x.2.1, (IntKind.wrap .i64 (x.2.2 + (1 : Int)))))
 else none
 else none
 else
 k (.inr (.inr (x.1, x.2.1, x.2.2)))
theorem wfu (x : (ByteArray × Bool × Int)) : Par (vlp x) := by
  unfold vlp
  exact (vab (vak (vab (vaa _) (vak (vab (vaa _) (vaa _)) vaf)) vaf) (vaa _))
def wed (a0 : ByteArray) (k : Bool → Option Res) : Option Res :=
 vai vlp Fuel (a0, false, (0 : Int)) (Sum.elim (fun z1 =>
 k z1.2.1) (fun z2 =>
 vdb (z2.1.size : Int) (1 : Int) (3 : Int) (fun y3 =>
 k y3)))
def vjw := shut wed
theorem whq : vjw = wed := vap _
theorem v11 (a0 : ByteArray) : Par (vjw a0) := by
  rw [whq]
  unfold wed
  exact ((vav wfu _ _).bind2 (fun z1 => (vaa _)) (fun z2 => ((vj8 _ _ _).bind fun y3 => (vaa _))))
def wdq (a0 : van) (k : Bool → Option Res) : Option Res :=
 vjw a0.1 (fun y1 =>
 bif y1 then
 vjw a0.2 (fun y2 =>
 bif y2 then
 k ((va2 a0.1 a0.2) || (va9 a0.1 a0.2))
 else
 k false)
 else
 k false)
def vw3 := shut wdq
theorem wlx : vw3 = wdq := vap _
theorem wt7 (a0 : van) : Par (vw3 a0) := by
  rw [wlx]
  unfold wdq
  exact ((v11 _).bind fun y1 => (vab ((v11 _).bind fun y2 => (vab (vaa _) (vaa _))) (vaa _)))
def wel (a0 : vam) (k : Bool → Option Res) : Option Res :=
 vjw a0.1 (fun y1 =>
 bif y1 then
 bif (decide ((a0.2.1.size : Int) ≤ (12 : Int))) then
 bif (!a0.2.2) then
 k true
 else
 k (va9 a0.2.1 (⟨#[]⟩ : ByteArray))
 else
 k false
 else
 k false)
def vw9 := shut wel
theorem wig : vw9 = wel := vap _
theorem wt5 (a0 : vam) : Par (vw9 a0) := by
  rw [wig]
  unfold wel
  exact ((v11 _).bind fun y1 => (vab (vab (vab (vaa _) (vaa _)) (vaa _)) (vaa _)))
def vkv (x : q13T) (k : q13T ⊕ (q13T ⊕ q13T) → Option Res) : Option Res :=
 bif (decide (x.2.2.2.2 < x.2.2.2.1)) then
 if 0 ≤ x.2.2.2.2 ∧ x.2.2.2.2 < (x.2.2.1.length : Int) then
 vw9 (rd (Ty.zero tWrite) x.2.2.1 x.2.2.2.2) (fun y3 =>
 bif (!y3) then
 k (.inr (.inl (x.1, false, x.2.2.1, x.2.2.2.1, x.2.2.2.2)))
 else
 bif (decide (x.2.2.2.2 > (0 : Int))) then
 if 0 ≤ (IntKind.wrap .i64 (x.2.2.2.2 - (1 : Int))) ∧ (IntKind.wrap .i64 (x.2.2.2.2 - (1 : Int))) < (x.1.length : Int) then
 bif (!(va2 ((rd (Ty.zero tWrite) x.1 (IntKind.wrap .i64 (x.2.2.2.2 - (1 : Int)))).1) ((rd (Ty.zero tWrite) x.2.2.1 x.2.2.2.2).1))) then
 k (.inr (.inl (x.1, false, x.2.2.1, x.2.2.2.1, x.2.2.2.2)))
 else
 k (.inl (x.1, x.2.1, x.2.2.1, x.2.2.2.1, (IntKind.wrap .i64 (x.2.2.2.2 + (1 : Int)))))
 else none
 else
 k (.inl (x.1, x.2.1, x.2.2.1, x.2.2.2.1, (IntKind.wrap .i64 (x.2.2.2.2 + (1 : Int))))))
 else none
 else
 k (.inr (.inr (x.1, x.2.1, x.2.2.1, x.2.2.2.1, x.2.2.2.2)))
theorem wcv (x : q13T) : Par (vkv x) := by
  unfold vkv
  exact (vab (vak ((wt5 _).bind fun y3 => (vab (vaa _) (vab (vak (vab (vaa _) (vaa _)) vaf) (vaa _)))) vaf) (vaa _))
def wc1 (a0 : (List vam)) (k : Bool → Option Res) : Option Res :=
 vai vkv Fuel (a0, false, a0, (a0.length : Int), (0 : Int)) (Sum.elim (fun z1 =>
 k z1.2.1) (fun z2 =>
 k (decide ((z2.1.length : Int) ≤ (8 : Int)))))
def vuo := shut wc1
theorem wmp : vuo = wc1 := vap _
theorem wsv (a0 : (List vam)) : Par (vuo a0) := by
  rw [wmp]
  unfold wc1
  exact ((vav wcv _ _).bind2 (fun z1 => (vaa _)) (fun z2 => (vaa _)))
def vb7 (x : q25T) (k : q25T → Option Res) : Option Res :=
 bif (x.2.2.1 == (2 : Int)) then
 vjw x.2.2.2.2.2.2.2.2 (fun y15 =>
 bif y15 then
 k (true, x.2.1, x.2.2.1, x.2.2.2.1, x.2.2.2.2.1, x.2.2.2.2.2.1, x.2.2.2.2.2.2.1, x.2.2.2.2.2.2.2.1, x.2.2.2.2.2.2.2.2)
 else
 bif (x.2.2.1 != (2 : Int)) then
 k ((va9 x.2.2.2.2.2.2.2.2 (⟨#[]⟩ : ByteArray)), x.2.1, x.2.2.1, x.2.2.2.1, x.2.2.2.2.1, x.2.2.2.2.2.1, x.2.2.2.2.2.2.1, x.2.2.2.2.2.2.2.1, x.2.2.2.2.2.2.2.2)
 else
 k (false, x.2.1, x.2.2.1, x.2.2.2.1, x.2.2.2.2.1, x.2.2.2.2.2.1, x.2.2.2.2.2.2.1, x.2.2.2.2.2.2.2.1, x.2.2.2.2.2.2.2.2))
 else
 bif (x.2.2.1 != (2 : Int)) then
 k ((va9 x.2.2.2.2.2.2.2.2 (⟨#[]⟩ : ByteArray)), x.2.1, x.2.2.1, x.2.2.2.1, x.2.2.2.2.1, x.2.2.2.2.2.1, x.2.2.2.2.2.2.1, x.2.2.2.2.2.2.2.1, x.2.2.2.2.2.2.2.2)
 else
 k (false, x.2.1, x.2.2.1, x.2.2.2.1, x.2.2.2.2.1, x.2.2.2.2.2.1, x.2.2.2.2.2.2.1, x.2.2.2.2.2.2.2.1, x.2.2.2.2.2.2.2.2)
theorem vew (x : q25T) : Par (vb7 x) := by
  unfold vb7
  exact (vab ((v11 _).bind fun y15 => (vab (vaa _) (vab (vaa _) (vaa _)))) (vab (vaa _) (vaa _)))
def vcq (x : q25T) (k : q25T → Option Res) : Option Res :=
 bif (x.2.2.1 == (3 : Int)) then
 vdb x.2.2.2.2.1 (IntKind.wrap .i64 (x.2.2.2.1 + (1 : Int))) (9999 : Int) (fun y10 =>
 bif (!y10) then
 k (false, x.2.1, x.2.2.1, x.2.2.2.1, x.2.2.2.2.1, x.2.2.2.2.2.1, x.2.2.2.2.2.2.1, x.2.2.2.2.2.2.2.1, x.2.2.2.2.2.2.2.2)
 else
 bif (x.2.2.1 != (3 : Int)) then
 bif (x.2.2.2.2.1 != (0 : Int)) then
 k (false, x.2.1, x.2.2.1, x.2.2.2.1, x.2.2.2.2.1, x.2.2.2.2.2.1, x.2.2.2.2.2.2.1, x.2.2.2.2.2.2.2.1, x.2.2.2.2.2.2.2.2)
 else
 vb7 (x.1, x.2.1, x.2.2.1, x.2.2.2.1, x.2.2.2.2.1, x.2.2.2.2.2.1, x.2.2.2.2.2.2.1, x.2.2.2.2.2.2.2.1, x.2.2.2.2.2.2.2.2) (fun z11 =>
 k (z11.1, z11.2.1, z11.2.2.1, z11.2.2.2.1, z11.2.2.2.2.1, z11.2.2.2.2.2.1, z11.2.2.2.2.2.2.1, z11.2.2.2.2.2.2.2.1, z11.2.2.2.2.2.2.2.2))
 else
 vb7 (x.1, x.2.1, x.2.2.1, x.2.2.2.1, x.2.2.2.2.1, x.2.2.2.2.2.1, x.2.2.2.2.2.2.1, x.2.2.2.2.2.2.2.1, x.2.2.2.2.2.2.2.2) (fun z12 =>
 k (z12.1, z12.2.1, z12.2.2.1, z12.2.2.2.1, z12.2.2.2.2.1, z12.2.2.2.2.2.1, z12.2.2.2.2.2.2.1, z12.2.2.2.2.2.2.2.1, z12.2.2.2.2.2.2.2.2)))
 else
 bif (x.2.2.1 != (3 : Int)) then
 bif (x.2.2.2.2.1 != (0 : Int)) then
 k (false, x.2.1, x.2.2.1, x.2.2.2.1, x.2.2.2.2.1, x.2.2.2.2.2.1, x.2.2.2.2.2.2.1, x.2.2.2.2.2.2.2.1, x.2.2.2.2.2.2.2.2)
 else
 vb7 (x.1, x.2.1, x.2.2.1, x.2.2.2.1, x.2.2.2.2.1, x.2.2.2.2.2.1, x.2.2.2.2.2.2.1, x.2.2.2.2.2.2.2.1, x.2.2.2.2.2.2.2.2) (fun z13 =>
 k (z13.1, z13.2.1, z13.2.2.1, z13.2.2.2.1, z13.2.2.2.2.1, z13.2.2.2.2.2.1, z13.2.2.2.2.2.2.1, z13.2.2.2.2.2.2.2.1, z13.2.2.2.2.2.2.2.2))
 else
 vb7 (x.1, x.2.1, x.2.2.1, x.2.2.2.1, x.2.2.2.2.1, x.2.2.2.2.2.1, x.2.2.2.2.2.2.1, x.2.2.2.2.2.2.2.1, x.2.2.2.2.2.2.2.2) (fun z14 =>
 k (z14.1, z14.2.1, z14.2.2.1, z14.2.2.2.1, z14.2.2.2.2.1, z14.2.2.2.2.2.1, z14.2.2.2.2.2.2.1, z14.2.2.2.2.2.2.2.1, z14.2.2.2.2.2.2.2.2))
theorem vjk (x : q25T) : Par (vcq x) := by
  unfold vcq
  exact (vab ((vj8 _ _ _).bind fun y10 => (vab (vaa _) (vab (vab (vaa _) ((vew _).bind fun z11 => (vaa _))) ((vew _).bind fun z12 => (vaa _))))) (vab (vab (vaa _) ((vew _).bind fun z13 => (vaa _))) ((vew _).bind fun z14 => (vaa _))))
def vk1 (x : q15T) (k : q15T ⊕ (q15T ⊕ q15T) → Option Res) : Option Res :=
 bif (decide (x.2.2.2.1 < x.2.2.1)) then
 if 0 ≤ x.2.2.2.1 ∧ x.2.2.2.1 < (x.2.1.length : Int) then
 vw3 (rd (Ty.zero tRange) x.2.1 x.2.2.2.1) (fun y9 =>
 bif (!y9) then
 k (.inr (.inl (false, x.2.1, x.2.2.1, x.2.2.2.1, x.2.2.2.2.1, x.2.2.2.2.2.1, x.2.2.2.2.2.2.1, x.2.2.2.2.2.2.2.1, x.2.2.2.2.2.2.2.2.1, x.2.2.2.2.2.2.2.2.2.1, x.2.2.2.2.2.2.2.2.2.2.1, x.2.2.2.2.2.2.2.2.2.2.2)))
 else
 k (.inl (x.1, x.2.1, x.2.2.1, (IntKind.wrap .i64 (x.2.2.2.1 + (1 : Int))), x.2.2.2.2.1, x.2.2.2.2.2.1, x.2.2.2.2.2.2.1, x.2.2.2.2.2.2.2.1, x.2.2.2.2.2.2.2.2.1, x.2.2.2.2.2.2.2.2.2.1, x.2.2.2.2.2.2.2.2.2.2.1, x.2.2.2.2.2.2.2.2.2.2.2)))
 else none
 else
 k (.inr (.inr (x.1, x.2.1, x.2.2.1, x.2.2.2.1, x.2.2.2.2.1, x.2.2.2.2.2.1, x.2.2.2.2.2.2.1, x.2.2.2.2.2.2.2.1, x.2.2.2.2.2.2.2.2.1, x.2.2.2.2.2.2.2.2.2.1, x.2.2.2.2.2.2.2.2.2.2.1, x.2.2.2.2.2.2.2.2.2.2.2)))
theorem we5 (x : q15T) : Par (vk1 x) := by
  unfold vk1
  exact (vab (vak ((wt7 _).bind fun y9 => (vab (vaa _) (vaa _))) vaf) (vaa _))
def wb9 (a0 : dTxn) (k : Bool → Option Res) : Option Res :=
 vai vk1 Fuel (false, a0.2.2.2.2.1, (a0.2.2.2.2.1.length : Int), (0 : Int), a0.1, a0.2.1, a0.2.2.1, a0.2.2.2.1, a0.2.2.2.2.1, a0.2.2.2.2.2.1, a0.2.2.2.2.2.2.1, a0.2.2.2.2.2.2.2) (Sum.elim (fun z1 =>
 k z1.1) (fun z2 =>
 vdb z2.2.2.2.2.1 (1 : Int) (9999 : Int) (fun y3 =>
 bif (!y3) then
 k false
 else
 vdb z2.2.2.2.2.2.1 (1 : Int) (3 : Int) (fun y4 =>
 bif (!y4) then
 k false
 else
 vdb z2.2.2.2.2.2.2.1 (0 : Int) (9999 : Int) (fun y5 =>
 bif (!y5) then
 k false
 else
 bif (decide ((z2.2.2.2.2.2.2.2.2.1.length : Int) > (8 : Int))) then
 k false
 else
 vuo z2.2.2.2.2.2.2.2.2.2.1 (fun y6 =>
 bif (!y6) then
 k false
 else
 bif z2.2.2.2.2.2.2.2.2.2.2.1 then
 bif (z2.2.2.2.2.2.1 == (1 : Int)) then
 k false
 else
 vcq (z2.1, z2.2.2.2.2.1, z2.2.2.2.2.2.1, z2.2.2.2.2.2.2.1, z2.2.2.2.2.2.2.2.1, z2.2.2.2.2.2.2.2.2.1, z2.2.2.2.2.2.2.2.2.2.1, z2.2.2.2.2.2.2.2.2.2.2.1, z2.2.2.2.2.2.2.2.2.2.2.2) (fun z7 =>
 k z7.1)
 else
 vcq (z2.1, z2.2.2.2.2.1, z2.2.2.2.2.2.1, z2.2.2.2.2.2.2.1, z2.2.2.2.2.2.2.2.1, z2.2.2.2.2.2.2.2.2.1, z2.2.2.2.2.2.2.2.2.2.1, z2.2.2.2.2.2.2.2.2.2.2.1, z2.2.2.2.2.2.2.2.2.2.2.2) (fun z8 =>
 k z8.1)))))))
def vnm := shut wb9
theorem wjb : vnm = wb9 := vap _
theorem wdt (a0 : dTxn) : Par (vnm a0) := by
  rw [wjb]
  unfold wb9
  exact ((vav we5 _ _).bind2 (fun z1 => (vaa _)) (fun z2 => ((vj8 _ _ _).bind fun y3 => (vab (vaa _) ((vj8 _ _ _).bind fun y4 => (vab (vaa _) ((vj8 _ _ _).bind fun y5 => (vab (vaa _) (vab (vaa _) ((wsv _).bind fun y6 => (vab (vaa _) (vab (vab (vaa _) ((vjk _).bind fun z7 => (vaa _))) ((vjk _).bind fun z8 => (vaa _))))))))))))))
def v5r (a0 : ByteArray) (a1 : Int) (a2 : Bool) (k : q53T → Option Res) : Option Res :=
 vfs a0 a1 a2 (fun y1 =>
 vfs y1.2.1 y1.2.2.1 y1.2.2.2 (fun y2 =>
 vfs y2.2.1 y2.2.2.1 y2.2.2.2 (fun y3 =>
 vfs y3.2.1 y3.2.2.1 y3.2.2.2 (fun y4 =>
 v1t y4.2.1 y4.2.2.1 y4.2.2.2 y1.1 y2.1 y3.1 y4.1 false (⟨#[]⟩ : ByteArray) (fun y5 =>
 v1v y5.1 y5.2.1 y5.2.2.1 y5.2.2.2.1 y5.2.2.2.2.1 y5.2.2.2.2.2.1 y5.2.2.2.2.2.2.1 y5.2.2.2.2.2.2.2.1 y5.2.2.2.2.2.2.2.2.1 y5.2.2.2.2.2.2.2.2.2 (fun y6 =>
 vod y6.1 y6.2.1 y6.2.2.1 (fun y7 =>
 vfq y7.2.1 y7.2.2.1 y7.2.2.2 (fun y8 =>
 bif y8.2.2.2 then
 k (y6.2.2.2.1, y6.2.2.2.2.1, y6.2.2.2.2.2.1, y6.2.2.2.2.2.2.1, y7.1, y8.1, y8.2.1, y8.2.2.1, true, y6.2.2.2.2.2.2.2.2.2.1, y6.2.2.2.2.2.2.2.2.2.2)
 else
 vnm (y6.2.2.2.1, (y6.2.2.2.2.1, (y6.2.2.2.2.2.1, (y6.2.2.2.2.2.2.1, (y6.2.2.2.2.2.2.2.2.2.1, (y6.2.2.2.2.2.2.2.2.2.2, (y7.1, y8.1))))))) (fun y9 =>
 k (y6.2.2.2.1, y6.2.2.2.2.1, y6.2.2.2.2.2.1, y6.2.2.2.2.2.2.1, y7.1, y8.1, y8.2.1, y8.2.2.1, (!y9), y6.2.2.2.2.2.2.2.2.2.1, y6.2.2.2.2.2.2.2.2.2.2))))))))))
def vof := shut v5r
theorem wd6 : vof = v5r := vap _
theorem v7p (a0 : ByteArray) (a1 : Int) (a2 : Bool) : Par (vof a0 a1 a2) := by
  rw [wd6]
  unfold v5r
  exact ((vje _ _ _).bind fun y1 => ((vje _ _ _).bind fun y2 => ((vje _ _ _).bind fun y3 => ((vje _ _ _).bind fun y4 => ((wts _ _ _ _ _ _ _ _ _).bind fun y5 => ((wsw _ _ _ _ _ _ _ _ _ _).bind fun y6 => ((v02 _ _ _).bind fun y7 => ((vja _ _ _).bind fun y8 => (vab (vaa _) ((wdt _).bind fun y9 => (vaa _)))))))))))
def wkg (a0 : Int) (a1 : Int) (a2 : (List vac)) (a3 : ByteArray) (a4 : Int) (a5 : Bool) (k : q41T → Option Res) : Option Res :=
 vof a3 a4 a5 (fun y1 =>
 if [(y1.1, (y1.2.1, (y1.2.2.1, (y1.2.2.2.1, (y1.2.2.2.2.2.2.2.2.2.1, (y1.2.2.2.2.2.2.2.2.2.2, (y1.2.2.2.2.1, y1.2.2.2.2.2.1)))))))].length ≤ VE.maxLen then
 k (a0, a1, a2, y1.2.2.2.2.2.2.1, y1.2.2.2.2.2.2.2.1, y1.2.2.2.2.2.2.2.2.1, [(y1.1, (y1.2.1, (y1.2.2.1, (y1.2.2.2.1, (y1.2.2.2.2.2.2.2.2.2.1, (y1.2.2.2.2.2.2.2.2.2.2, (y1.2.2.2.2.1, y1.2.2.2.2.2.1)))))))])
 else none)
def wfn := shut wkg
theorem wta : wfn = wkg := vap _
theorem wwe (a0 : Int) (a1 : Int) (a2 : (List vac)) (a3 : ByteArray) (a4 : Int) (a5 : Bool) : Par (wfn a0 a1 a2 a3 a4 a5) := by
  rw [wta]
  unfold wkg
  exact ((v7p _ _ _).bind fun y1 => (vak (vaa _) vaf))
def v5u (a0 : Int) (a1 : Int) (a2 : (List vac)) (a3 : (List dTxn)) (a4 : ByteArray) (a5 : Int) (a6 : Bool) (k : q41T → Option Res) : Option Res :=
 vof a4 a5 a6 (fun y1 =>
 if a3.length + [(y1.1, (y1.2.1, (y1.2.2.1, (y1.2.2.2.1, (y1.2.2.2.2.2.2.2.2.2.1, (y1.2.2.2.2.2.2.2.2.2.2, (y1.2.2.2.2.1, y1.2.2.2.2.2.1)))))))].length ≤ VE.maxLen then
 k (a0, a1, a2, y1.2.2.2.2.2.2.1, y1.2.2.2.2.2.2.2.1, y1.2.2.2.2.2.2.2.2.1, (a3 ++ [(y1.1, (y1.2.1, (y1.2.2.1, (y1.2.2.2.1, (y1.2.2.2.2.2.2.2.2.2.1, (y1.2.2.2.2.2.2.2.2.2.2, (y1.2.2.2.2.1, y1.2.2.2.2.2.1)))))))]))
 else none)
def v6x := shut v5u
theorem wej : v6x = v5u := vap _
theorem wt2 (a0 : Int) (a1 : Int) (a2 : (List vac)) (a3 : (List dTxn)) (a4 : ByteArray) (a5 : Int) (a6 : Bool) : Par (v6x a0 a1 a2 a3 a4 a5 a6) := by
  rw [wej]
  unfold v5u
  exact ((v7p _ _ _).bind fun y1 => (vak (vaa _) vaf))
def vdc (x : q46T) (k : q46T → Option Res) : Option Res :=
 v6x x.2.2.2.2.2.1 x.2.2.2.2.2.2.1 x.2.2.2.2.2.2.2.1 x.2.2.2.2.2.2.2.2 x.2.2.1 x.2.2.2.1 x.2.2.2.2.1 (fun y4 =>
 k (x.1, (IntKind.wrap .i64 (x.2.1 + (1 : Int))), y4.2.2.2.1, y4.2.2.2.2.1, y4.2.2.2.2.2.1, y4.1, y4.2.1, y4.2.2.1, y4.2.2.2.2.2.2))
theorem vpb (x : q46T) : Par (vdc x) := by
  unfold vdc
  exact ((wt2 _ _ _ _ _ _ _).bind fun y4 => (vaa _))
def vik (x : q46T) (k : q46T ⊕ q46T → Option Res) : Option Res :=
 bif (decide (x.2.1 < x.1)) then
 bif (!x.2.2.2.2.1) then
 vdc (x.1, x.2.1, x.2.2.1, x.2.2.2.1, x.2.2.2.2.1, x.2.2.2.2.2.1, x.2.2.2.2.2.2.1, x.2.2.2.2.2.2.2.1, x.2.2.2.2.2.2.2.2) (fun z3 =>
 k (.inl (z3.1, z3.2.1, z3.2.2.1, z3.2.2.2.1, z3.2.2.2.2.1, z3.2.2.2.2.2.1, z3.2.2.2.2.2.2.1, z3.2.2.2.2.2.2.2.1, z3.2.2.2.2.2.2.2.2)))
 else
 k (.inr (x.1, x.2.1, x.2.2.1, x.2.2.2.1, x.2.2.2.2.1, x.2.2.2.2.2.1, x.2.2.2.2.2.2.1, x.2.2.2.2.2.2.2.1, x.2.2.2.2.2.2.2.2))
 else
 k (.inr (x.1, x.2.1, x.2.2.1, x.2.2.2.1, x.2.2.2.2.1, x.2.2.2.2.2.1, x.2.2.2.2.2.2.1, x.2.2.2.2.2.2.2.1, x.2.2.2.2.2.2.2.2))
theorem wcf (x : q46T) : Par (vik x) := by
  unfold vik
  exact (vab (vab ((vpb _).bind fun z3 => (vaa _)) (vaa _)) (vaa _))
def wgb (a0 : ByteArray) (a1 : Int) (a2 : Bool) (a3 : Int) (a4 : Int) (a5 : (List vac)) (k : q31T → Option Res) : Option Res :=
 vfs a0 a1 a2 (fun y1 =>
 vai vik Fuel (y1.1, (0 : Int), y1.2.1, y1.2.2.1, y1.2.2.2, a3, a4, a5, ([] : List dTxn)) (fun z2 =>
 k (z2.2.2.1, z2.2.2.2.1, z2.2.2.2.2.1, z2.2.2.2.2.2.1, z2.2.2.2.2.2.2.1, z2.2.2.2.2.2.2.2.1, z2.2.2.2.2.2.2.2.2)))
def vxh := shut wgb
theorem wjo : vxh = wgb := vap _
theorem wt4 (a0 : ByteArray) (a1 : Int) (a2 : Bool) (a3 : Int) (a4 : Int) (a5 : (List vac)) : Par (vxh a0 a1 a2 a3 a4 a5) := by
  rw [wjo]
  unfold wgb
  exact ((vje _ _ _).bind fun y1 => ((vav wcf _ _).bind fun z2 => (vaa _)))
def wi6 (a0 : Int) (a1 : Int) (a2 : (List vac)) (a3 : (List dTxn)) (a4 : ByteArray) (a5 : Int) (a6 : Bool) (k : q40T → Option Res) : Option Res :=
 vof a4 a5 a6 (fun y1 =>
 if [(y1.1, (y1.2.1, (y1.2.2.1, (y1.2.2.2.1, (y1.2.2.2.2.2.2.2.2.2.1, (y1.2.2.2.2.2.2.2.2.2.2, (y1.2.2.2.2.1, y1.2.2.2.2.2.1)))))))].length ≤ VE.maxLen then
 k (a0, a1, a2, a3, y1.2.2.2.2.2.2.1, y1.2.2.2.2.2.2.2.1, y1.2.2.2.2.2.2.2.2.1, [(y1.1, (y1.2.1, (y1.2.2.1, (y1.2.2.2.1, (y1.2.2.2.2.2.2.2.2.2.1, (y1.2.2.2.2.2.2.2.2.2.2, (y1.2.2.2.2.1, y1.2.2.2.2.2.1)))))))])
 else none)
def wcb := shut wi6
theorem wtu : wcb = wi6 := vap _
theorem wzq (a0 : Int) (a1 : Int) (a2 : (List vac)) (a3 : (List dTxn)) (a4 : ByteArray) (a5 : Int) (a6 : Bool) : Par (wcb a0 a1 a2 a3 a4 a5 a6) := by
  rw [wtu]
  unfold wi6
  exact ((v7p _ _ _).bind fun y1 => (vak (vaa _) vaf))
def v54 (a0 : Int) (a1 : Int) (a2 : (List vac)) (a3 : (List dTxn)) (a4 : (List dTxn)) (a5 : ByteArray) (a6 : Int) (a7 : Bool) (k : q40T → Option Res) : Option Res :=
 vof a5 a6 a7 (fun y1 =>
 if a4.length + [(y1.1, (y1.2.1, (y1.2.2.1, (y1.2.2.2.1, (y1.2.2.2.2.2.2.2.2.2.1, (y1.2.2.2.2.2.2.2.2.2.2, (y1.2.2.2.2.1, y1.2.2.2.2.2.1)))))))].length ≤ VE.maxLen then
 k (a0, a1, a2, a3, y1.2.2.2.2.2.2.1, y1.2.2.2.2.2.2.2.1, y1.2.2.2.2.2.2.2.2.1, (a4 ++ [(y1.1, (y1.2.1, (y1.2.2.1, (y1.2.2.2.1, (y1.2.2.2.2.2.2.2.2.2.1, (y1.2.2.2.2.2.2.2.2.2.2, (y1.2.2.2.2.1, y1.2.2.2.2.2.1)))))))]))
 else none)
def v6p := shut v54
theorem wcx : v6p = v54 := vap _
theorem wtd (a0 : Int) (a1 : Int) (a2 : (List vac)) (a3 : (List dTxn)) (a4 : (List dTxn)) (a5 : ByteArray) (a6 : Int) (a7 : Bool) : Par (v6p a0 a1 a2 a3 a4 a5 a6 a7) := by
  rw [wcx]
  unfold v54
  exact ((v7p _ _ _).bind fun y1 => (vak (vaa _) vaf))
def vdk (x : q45T) (k : q45T → Option Res) : Option Res :=
 v6p x.2.2.2.2.2.1 x.2.2.2.2.2.2.1 x.2.2.2.2.2.2.2.1 x.2.2.2.2.2.2.2.2.1 x.2.2.2.2.2.2.2.2.2 x.2.2.1 x.2.2.2.1 x.2.2.2.2.1 (fun y4 =>
 k (x.1, (IntKind.wrap .i64 (x.2.1 + (1 : Int))), y4.2.2.2.2.1, y4.2.2.2.2.2.1, y4.2.2.2.2.2.2.1, y4.1, y4.2.1, y4.2.2.1, y4.2.2.2.1, y4.2.2.2.2.2.2.2))
theorem vo5 (x : q45T) : Par (vdk x) := by
  unfold vdk
  exact ((wtd _ _ _ _ _ _ _ _).bind fun y4 => (vaa _))
def vio (x : q45T) (k : q45T ⊕ q45T → Option Res) : Option Res :=
 bif (decide (x.2.1 < x.1)) then
 bif (!x.2.2.2.2.1) then
 vdk (x.1, x.2.1, x.2.2.1, x.2.2.2.1, x.2.2.2.2.1, x.2.2.2.2.2.1, x.2.2.2.2.2.2.1, x.2.2.2.2.2.2.2.1, x.2.2.2.2.2.2.2.2.1, x.2.2.2.2.2.2.2.2.2) (fun z3 =>
 k (.inl (z3.1, z3.2.1, z3.2.2.1, z3.2.2.2.1, z3.2.2.2.2.1, z3.2.2.2.2.2.1, z3.2.2.2.2.2.2.1, z3.2.2.2.2.2.2.2.1, z3.2.2.2.2.2.2.2.2.1, z3.2.2.2.2.2.2.2.2.2)))
 else
 k (.inr (x.1, x.2.1, x.2.2.1, x.2.2.2.1, x.2.2.2.2.1, x.2.2.2.2.2.1, x.2.2.2.2.2.2.1, x.2.2.2.2.2.2.2.1, x.2.2.2.2.2.2.2.2.1, x.2.2.2.2.2.2.2.2.2))
 else
 k (.inr (x.1, x.2.1, x.2.2.1, x.2.2.2.1, x.2.2.2.2.1, x.2.2.2.2.2.1, x.2.2.2.2.2.2.1, x.2.2.2.2.2.2.2.1, x.2.2.2.2.2.2.2.2.1, x.2.2.2.2.2.2.2.2.2))
theorem wca (x : q45T) : Par (vio x) := by
  unfold vio
  exact (vab (vab ((vo5 _).bind fun z3 => (vaa _)) (vaa _)) (vaa _))
def wd4 (a0 : ByteArray) (a1 : Int) (a2 : Bool) (a3 : Int) (a4 : Int) (a5 : (List vac)) (a6 : (List dTxn)) (k : q30T → Option Res) : Option Res :=
 vfs a0 a1 a2 (fun y1 =>
 vai vio Fuel (y1.1, (0 : Int), y1.2.1, y1.2.2.1, y1.2.2.2, a3, a4, a5, a6, ([] : List dTxn)) (fun z2 =>
 k (z2.2.2.1, z2.2.2.2.1, z2.2.2.2.2.1, z2.2.2.2.2.2.1, z2.2.2.2.2.2.2.1, z2.2.2.2.2.2.2.2.1, z2.2.2.2.2.2.2.2.2.1, z2.2.2.2.2.2.2.2.2.2)))
def vv7 := shut wd4
theorem wkn : vv7 = wd4 := vap _
theorem wtm (a0 : ByteArray) (a1 : Int) (a2 : Bool) (a3 : Int) (a4 : Int) (a5 : (List vac)) (a6 : (List dTxn)) : Par (vv7 a0 a1 a2 a3 a4 a5 a6) := by
  rw [wkn]
  unfold wd4
  exact ((vje _ _ _).bind fun y1 => ((vav wca _ _).bind fun z2 => (vaa _)))
def wcd (a0 : ByteArray) (k : Bool → Option Res) : Option Res :=
 k (!(va9 a0 a0))
def v1g := shut wcd
theorem wl9 : v1g = wcd := vap _
theorem wk7 (a0 : ByteArray) : Par (v1g a0) := by
  rw [wl9]
  unfold wcd
  exact (vaa _)
def we8 (a0 : ByteArray) (a1 : ByteArray) (k : Int → Option Res) : Option Res :=
 v1g a0 (fun y1 =>
 v1g a1 (fun y2 =>
 bif y1 then
 bif y2 then
 k (0 : Int)
 else
 k (-1 : Int)
 else
 bif y2 then
 k (1 : Int)
 else
 bif (va2 a0 a1) then
 k (-1 : Int)
 else
 bif (!((va2 a0 a1) || (va9 a0 a1))) then
 k (1 : Int)
 else
 k (0 : Int)))
def v1u := shut we8
theorem whx : v1u = we8 := vap _
theorem wtb (a0 : ByteArray) (a1 : ByteArray) : Par (v1u a0 a1) := by
  rw [whx]
  unfold we8
  exact ((wk7 _).bind fun y1 => ((wk7 _).bind fun y2 => (vab (vab (vaa _) (vaa _)) (vab (vaa _) (vab (vaa _) (vab (vaa _) (vaa _)))))))
def wcs (a0 : Int) (k : Bool → Option Res) : Option Res :=
 k (a0 != a0)
def v0s := shut wcs
theorem wl4 : v0s = wcs := vap _
theorem wk0 (a0 : Int) : Par (v0s a0) := by
  rw [wl4]
  unfold wcs
  exact (vaa _)
def wbr (a0 : Int) (a1 : Int) (k : Int → Option Res) : Option Res :=
 v0s a0 (fun y1 =>
 v0s a1 (fun y2 =>
 bif y1 then
 bif y2 then
 k (0 : Int)
 else
 k (-1 : Int)
 else
 bif y2 then
 k (1 : Int)
 else
 bif (decide (a0 < a1)) then
 k (-1 : Int)
 else
 bif (decide (a0 > a1)) then
 k (1 : Int)
 else
 k (0 : Int)))
def v1j := shut wbr
theorem wkd : v1j = wbr := vap _
theorem wuc (a0 : Int) (a1 : Int) : Par (v1j a0 a1) := by
  rw [wkd]
  unfold wbr
  exact ((wk0 _).bind fun y1 => ((wk0 _).bind fun y2 => (vab (vab (vaa _) (vaa _)) (vab (vaa _) (vab (vaa _) (vab (vaa _) (vaa _)))))))
def wfb (a0 : vac) (a1 : vac) (k : Int → Option Res) : Option Res :=
 v1u a0.1 a1.1 (fun y1 =>
 bif (y1 != (0 : Int)) then
 k y1
 else
 v1j a0.2.2.2 a1.2.2.2 (fun y2 =>
 k y2))
def vru := shut wfb
theorem wlz : vru = wfb := vap _
theorem wkf (a0 : vac) (a1 : vac) : Par (vru a0 a1) := by
  rw [wlz]
  unfold wfb
  exact ((wtb _ _).bind fun y1 => (vab (vaa _) ((wuc _ _).bind fun y2 => (vaa _))))
def vl1 (x : q9T) (k : q9T ⊕ (q9T ⊕ q9T) → Option Res) : Option Res :=
 bif (decide (x.2.2.2.2 < x.2.2.2.1)) then
 if 0 ≤ x.2.2.2.2 ∧ x.2.2.2.2 < (x.2.2.1.length : Int) then
 vjw ((rd (Ty.zero tVersion) x.2.2.1 x.2.2.2.2).1) (fun y3 =>
 bif (!y3) then
 k (.inr (.inl (x.1, false, x.2.2.1, x.2.2.2.1, x.2.2.2.2)))
 else
 bif (decide (((rd (Ty.zero tVersion) x.2.2.1 x.2.2.2.2).2.1.size : Int) > (12 : Int))) then
 k (.inr (.inl (x.1, false, x.2.2.1, x.2.2.2.1, x.2.2.2.2)))
 else
 bif (rd (Ty.zero tVersion) x.2.2.1 x.2.2.2.2).2.2.1 then
 bif (!(va9 ((rd (Ty.zero tVersion) x.2.2.1 x.2.2.2.2).2.1) (⟨#[]⟩ : ByteArray))) then
 k (.inr (.inl (x.1, false, x.2.2.1, x.2.2.2.1, x.2.2.2.2)))
 else
 vdb ((rd (Ty.zero tVersion) x.2.2.1 x.2.2.2.2).2.2.2) (1 : Int) (9999 : Int) (fun y4 =>
 bif (!y4) then
 k (.inr (.inl (x.1, false, x.2.2.1, x.2.2.2.1, x.2.2.2.2)))
 else
 bif (decide (x.2.2.2.2 > (0 : Int))) then
 if 0 ≤ (IntKind.wrap .i64 (x.2.2.2.2 - (1 : Int))) ∧ (IntKind.wrap .i64 (x.2.2.2.2 - (1 : Int))) < (x.1.length : Int) then
 vru (rd (Ty.zero tVersion) x.1 (IntKind.wrap .i64 (x.2.2.2.2 - (1 : Int)))) (rd (Ty.zero tVersion) x.2.2.1 x.2.2.2.2) (fun y5 =>
 bif (decide (y5 ≥ (0 : Int))) then
 k (.inr (.inl (x.1, false, x.2.2.1, x.2.2.2.1, x.2.2.2.2)))
 else
 k (.inl (x.1, x.2.1, x.2.2.1, x.2.2.2.1, (IntKind.wrap .i64 (x.2.2.2.2 + (1 : Int))))))
 else none
 else
 k (.inl (x.1, x.2.1, x.2.2.1, x.2.2.2.1, (IntKind.wrap .i64 (x.2.2.2.2 + (1 : Int))))))
 else
 vdb ((rd (Ty.zero tVersion) x.2.2.1 x.2.2.2.2).2.2.2) (1 : Int) (9999 : Int) (fun y6 =>
 bif (!y6) then
 k (.inr (.inl (x.1, false, x.2.2.1, x.2.2.2.1, x.2.2.2.2)))
 else
 bif (decide (x.2.2.2.2 > (0 : Int))) then
 if 0 ≤ (IntKind.wrap .i64 (x.2.2.2.2 - (1 : Int))) ∧ (IntKind.wrap .i64 (x.2.2.2.2 - (1 : Int))) < (x.1.length : Int) then
 vru (rd (Ty.zero tVersion) x.1 (IntKind.wrap .i64 (x.2.2.2.2 - (1 : Int)))) (rd (Ty.zero tVersion) x.2.2.1 x.2.2.2.2) (fun y7 =>
 bif (decide (y7 ≥ (0 : Int))) then
 k (.inr (.inl (x.1, false, x.2.2.1, x.2.2.2.1, x.2.2.2.2)))
 else
 k (.inl (x.1, x.2.1, x.2.2.1, x.2.2.2.1, (IntKind.wrap .i64 (x.2.2.2.2 + (1 : Int))))))
 else none
 else
 k (.inl (x.1, x.2.1, x.2.2.1, x.2.2.2.1, (IntKind.wrap .i64 (x.2.2.2.2 + (1 : Int)))))))
 else none
 else
 k (.inr (.inr (x.1, x.2.1, x.2.2.1, x.2.2.2.1, x.2.2.2.2)))
theorem wbz (x : q9T) : Par (vl1 x) := by
  unfold vl1
  exact (vab (vak ((v11 _).bind fun y3 => (vab (vaa _) (vab (vaa _) (vab (vab (vaa _) ((vj8 _ _ _).bind fun y4 => (vab (vaa _) (vab (vak ((wkf _ _).bind fun y5 => (vab (vaa _) (vaa _))) vaf) (vaa _))))) ((vj8 _ _ _).bind fun y6 => (vab (vaa _) (vab (vak ((wkf _ _).bind fun y7 => (vab (vaa _) (vaa _))) vaf) (vaa _)))))))) vaf) (vaa _))
def wcr (a0 : (List vac)) (k : Bool → Option Res) : Option Res :=
 vai vl1 Fuel (a0, false, a0, (a0.length : Int), (0 : Int)) (Sum.elim (fun z1 =>
 k z1.2.1) (fun z2 =>
 k (decide ((z2.1.length : Int) ≤ (120 : Int)))))
def vu7 := shut wcr
theorem wg7 : vu7 = wcr := vap _
theorem wuf (a0 : (List vac)) : Par (vu7 a0) := by
  rw [wg7]
  unfold wcr
  exact ((vav wbz _ _).bind2 (fun z1 => (vaa _)) (fun z2 => (vaa _)))
def wh9 (a0 : dTxn) (k : Bool → Option Res) : Option Res :=
 k (a0.2.1 == (3 : Int))
def vwd := shut wh9
theorem whw : vwd = wh9 := vap _
theorem ws3 (a0 : dTxn) : Par (vwd a0) := by
  rw [whw]
  unfold wh9
  exact (vaa _)
def wmd (a0 : dTxn) (k : Bool → Option Res) : Option Res :=
 k (a0.2.1 == (2 : Int))
def vw2 := shut wmd
theorem wim : vw2 = wmd := vap _
theorem wty (a0 : dTxn) : Par (vw2 a0) := by
  rw [wim]
  unfold wmd
  exact (vaa _)
def wcg (a0 : Int) (k : ((List dTxn) ⊕ (List dTxn)) → Option Res) : Option Res :=
 bif (decide (a0 < (0 : Int))) then
 none
 else
 bif (decide ((IntKind.wrap .i64 (a0 - (IntKind.wrap .i64 ((0 : Int) - (0 : Int))))) > (0 : Int))) then
 if 0 ≤ (0 : Int) ∧ (0 : Int) ≤ (0 : Int) ∧ (0 : Int) ≤ 0 then
 if 0 ≤ (IntKind.wrap .i64 (a0 - (IntKind.wrap .i64 ((0 : Int) - (0 : Int))))) ∧ (IntKind.wrap .i64 (a0 - (IntKind.wrap .i64 ((0 : Int) - (0 : Int))))) ≤ (VE.maxLen : Int) then
 if 0 ≤ (0 : Int) ∧ (0 : Int) ≤ ((List.replicate (IntKind.wrap .i64 (a0 - (IntKind.wrap .i64 ((0 : Int) - (0 : Int))))).toNat (Ty.zero tTxn)).length : Int) then
 k (.inl ((List.replicate (IntKind.wrap .i64 (a0 - (IntKind.wrap .i64 ((0 : Int) - (0 : Int))))).toNat (Ty.zero tTxn)).take (0 : Int).toNat))
 else none
 else none
 else none
 else
 k (.inr ([] : List dTxn))
def vwe := shut wcg
theorem wmg : vwe = wcg := vap _
theorem wtt (a0 : Int) : Par (vwe a0) := by
  rw [wmg]
  unfold wcg
  exact (vab vaf (vab (vak (vak (vak (vaa _) vaf) vaf) vaf) (vaa _)))
def vlq (x : q0T) (k : q0T ⊕ q0T → Option Res) : Option Res :=
 bif (decide (x.2.2.2.2 < x.2.2.2.1)) then
 if 0 ≤ x.2.2.2.2 ∧ x.2.2.2.2 < (x.2.2.1.length : Int) then
 bif (decide ((IntKind.wrap .i64 (x.2.1 + ((rd (Ty.zero (.slice tTxn)) x.2.2.1 x.2.2.2.2).length : Int))) < (0 : Int))) then
 none
 else
 k (.inl (x.1, (IntKind.wrap .i64 (x.2.1 + ((rd (Ty.zero (.slice tTxn)) x.2.2.1 x.2.2.2.2).length : Int))), x.2.2.1, x.2.2.2.1, (IntKind.wrap .i64 (x.2.2.2.2 + (1 : Int)))))
 else none
 else
 k (.inr (x.1, x.2.1, x.2.2.1, x.2.2.2.1, x.2.2.2.2))
theorem wd5 (x : q0T) : Par (vlq x) := by
  unfold vlq
  exact (vab (vak (vab vaf (vaa _)) vaf) (vaa _))
def ve4 (x : (q1T ⊕ q1T)) (k : (q1T ⊕ q1T) ⊕ (q1T ⊕ q1T) → Option Res) : Option Res :=
 (Sum.elim (fun x =>
 bif (decide (x.2.2.1 < x.2.1)) then
 if 0 ≤ x.2.2.1 ∧ x.2.2.1 < (x.1.length : Int) then
 if x.2.2.2.length + (rd (Ty.zero (.slice tTxn)) x.1 x.2.2.1).length ≤ VE.maxLen then
 k (.inl (.inl (x.1, x.2.1, (IntKind.wrap .i64 (x.2.2.1 + (1 : Int))), (x.2.2.2 ++ (rd (Ty.zero (.slice tTxn)) x.1 x.2.2.1)))))
 else none
 else none
 else
 k (.inr (.inl (x.1, x.2.1, x.2.2.1, x.2.2.2)))) (fun x =>
 bif (decide (x.2.2.1 < x.2.1)) then
 if 0 ≤ x.2.2.1 ∧ x.2.2.1 < (x.1.length : Int) then
 if x.2.2.2.length + (rd (Ty.zero (.slice tTxn)) x.1 x.2.2.1).length ≤ VE.maxLen then
 k (.inl (.inl (x.1, x.2.1, (IntKind.wrap .i64 (x.2.2.1 + (1 : Int))), (x.2.2.2 ++ (rd (Ty.zero (.slice tTxn)) x.1 x.2.2.1)))))
 else none
 else none
 else
 k (.inr (.inr (x.1, x.2.1, x.2.2.1, x.2.2.2))))) x
theorem vv4 (x : (q1T ⊕ q1T)) : Par (ve4 x) := by
  unfold ve4
  rcases x with x | x
  · simp only [Sum.elim_inl]
    exact (vab (vak (vak (vaa _) vaf) vaf) (vaa _))
  · simp only [Sum.elim_inr]
    exact (vab (vak (vak (vaa _) vaf) vaf) (vaa _))
def wcn (a0 : (List (List dTxn))) (k : ((List dTxn) ⊕ (List dTxn)) → Option Res) : Option Res :=
 vai vlq Fuel (a0, (0 : Int), a0, (a0.length : Int), (0 : Int)) (fun z1 =>
 vwe z1.2.1 (Sum.elim (fun y2 =>
 vai ve4 Fuel (.inl (z1.1, (z1.1.length : Int), (0 : Int), y2)) (Sum.elim (fun z3 =>
 k (.inl z3.2.2.2)) (fun z4 =>
 k (.inr z4.2.2.2)))) (fun y5 =>
 vai ve4 Fuel (.inr (z1.1, (z1.1.length : Int), (0 : Int), y5)) (Sum.elim (fun z6 =>
 k (.inl z6.2.2.2)) (fun z7 =>
 k (.inr z7.2.2.2))))))
def vry := shut wcn
theorem wje : vry = wcn := vap _
theorem wto (a0 : (List (List dTxn))) : Par (vry a0) := by
  rw [wje]
  unfold wcn
  exact ((vav wd5 _ _).bind fun z1 => ((wtt _).bind2 (fun y2 => ((vav vv4 _ _).bind2 (fun z3 => (vaa _)) (fun z4 => (vaa _)))) (fun y5 => ((vav vv4 _ _).bind2 (fun z6 => (vaa _)) (fun z7 => (vaa _))))))
def wlp (a0 : dTxn) (a1 : Int) (a2 : Int) (a3 : Int) (a4 : Int) (a5 : (List van)) (a6 : (List vam)) (a7 : Bool) (a8 : ByteArray) (k : q25T → Option Res) : Option Res :=
 k ((a0.1 == a1), a1, a2, a3, a4, a5, a6, a7, a8)
def vwk := shut wlp
theorem wil : vwk = wlp := vap _
theorem ws1 (a0 : dTxn) (a1 : Int) (a2 : Int) (a3 : Int) (a4 : Int) (a5 : (List van)) (a6 : (List vam)) (a7 : Bool) (a8 : ByteArray) : Par (vwk a0 a1 a2 a3 a4 a5 a6 a7 a8) := by
  rw [wil]
  unfold wlp
  exact (vaa _)
def vlx (x : q6T) (k : q6T ⊕ (q6T ⊕ q6T) → Option Res) : Option Res :=
 bif (decide (x.2.2.2.1 < x.2.2.1)) then
 if 0 ≤ x.2.2.2.1 ∧ x.2.2.2.1 < (x.1.length : Int) then
 vwk (rd (Ty.zero tTxn) x.1 x.2.2.2.1) x.2.2.2.2.1 x.2.2.2.2.2.1 x.2.2.2.2.2.2.1 x.2.2.2.2.2.2.2.1 x.2.2.2.2.2.2.2.2.1 x.2.2.2.2.2.2.2.2.2.1 x.2.2.2.2.2.2.2.2.2.2.1 x.2.2.2.2.2.2.2.2.2.2.2 (fun y3 =>
 bif y3.1 then
 k (.inr (.inl (x.1, x.2.2.2.1, x.2.2.1, x.2.2.2.1, y3.2.1, y3.2.2.1, y3.2.2.2.1, y3.2.2.2.2.1, y3.2.2.2.2.2.1, y3.2.2.2.2.2.2.1, y3.2.2.2.2.2.2.2.1, y3.2.2.2.2.2.2.2.2)))
 else
 k (.inl (x.1, x.2.1, x.2.2.1, (IntKind.wrap .i64 (x.2.2.2.1 + (1 : Int))), y3.2.1, y3.2.2.1, y3.2.2.2.1, y3.2.2.2.2.1, y3.2.2.2.2.2.1, y3.2.2.2.2.2.2.1, y3.2.2.2.2.2.2.2.1, y3.2.2.2.2.2.2.2.2)))
 else none
 else
 k (.inr (.inr (x.1, x.2.1, x.2.2.1, x.2.2.2.1, x.2.2.2.2.1, x.2.2.2.2.2.1, x.2.2.2.2.2.2.1, x.2.2.2.2.2.2.2.1, x.2.2.2.2.2.2.2.2.1, x.2.2.2.2.2.2.2.2.2.1, x.2.2.2.2.2.2.2.2.2.2.1, x.2.2.2.2.2.2.2.2.2.2.2)))
theorem wfl (x : q6T) : Par (vlx x) := by
  unfold vlx
  exact (vab (vak ((ws1 _ _ _ _ _ _ _ _ _).bind fun y3 => (vab (vaa _) (vaa _))) vaf) (vaa _))
def weh (a0 : (List dTxn)) (a1 : Int) (a2 : Int) (a3 : Int) (a4 : Int) (a5 : (List van)) (a6 : (List vam)) (a7 : Bool) (a8 : ByteArray) (k : q58T → Option Res) : Option Res :=
 vai vlx Fuel (a0, (0 : Int), (a0.length : Int), (0 : Int), a1, a2, a3, a4, a5, a6, a7, a8) (Sum.elim (fun z1 =>
 k (z1.2.1, z1.2.2.2.2.1, z1.2.2.2.2.2.1, z1.2.2.2.2.2.2.1, z1.2.2.2.2.2.2.2.1, z1.2.2.2.2.2.2.2.2.1, z1.2.2.2.2.2.2.2.2.2.1, z1.2.2.2.2.2.2.2.2.2.2.1, z1.2.2.2.2.2.2.2.2.2.2.2)) (fun z2 =>
 k ((-1 : Int), z2.2.2.2.2.1, z2.2.2.2.2.2.1, z2.2.2.2.2.2.2.1, z2.2.2.2.2.2.2.2.1, z2.2.2.2.2.2.2.2.2.1, z2.2.2.2.2.2.2.2.2.2.1, z2.2.2.2.2.2.2.2.2.2.2.1, z2.2.2.2.2.2.2.2.2.2.2.2)))
def v1y := shut weh
theorem wi5 : v1y = weh := vap _
theorem wt8 (a0 : (List dTxn)) (a1 : Int) (a2 : Int) (a3 : Int) (a4 : Int) (a5 : (List van)) (a6 : (List vam)) (a7 : Bool) (a8 : ByteArray) : Par (v1y a0 a1 a2 a3 a4 a5 a6 a7 a8) := by
  rw [wi5]
  unfold weh
  exact ((vav wfl _ _).bind2 (fun z1 => (vaa _)) (fun z2 => (vaa _)))
def wb8 (a0 : (List dTxn)) (a1 : Int) (a2 : Int) (a3 : Int) (a4 : Int) (a5 : (List van)) (a6 : (List vam)) (a7 : Bool) (a8 : ByteArray) (k : q25T → Option Res) : Option Res :=
 v1y a0 a1 a2 a3 a4 a5 a6 a7 a8 (fun y1 =>
 k ((decide (y1.1 ≥ (0 : Int))), y1.2.1, y1.2.2.1, y1.2.2.2.1, y1.2.2.2.2.1, y1.2.2.2.2.2.1, y1.2.2.2.2.2.2.1, y1.2.2.2.2.2.2.2.1, y1.2.2.2.2.2.2.2.2))
def v7u := shut wb8
theorem wnj : v7u = wb8 := vap _
theorem wtz (a0 : (List dTxn)) (a1 : Int) (a2 : Int) (a3 : Int) (a4 : Int) (a5 : (List van)) (a6 : (List vam)) (a7 : Bool) (a8 : ByteArray) : Par (v7u a0 a1 a2 a3 a4 a5 a6 a7 a8) := by
  rw [wnj]
  unfold wb8
  exact ((wt8 _ _ _ _ _ _ _ _ _).bind fun y1 => (vaa _))
def wgc (a0 : (List dTxn)) (a1 : Int) (a2 : Int) (a3 : Int) (a4 : Int) (a5 : (List van)) (a6 : (List vam)) (a7 : Bool) (a8 : ByteArray) (k : q25T → Option Res) : Option Res :=
 v7u a0 a1 a2 a3 a4 a5 a6 a7 a8 (fun y1 =>
 k (y1.1, y1.2.1, y1.2.2.1, y1.2.2.2.1, y1.2.2.2.2.1, y1.2.2.2.2.2.1, y1.2.2.2.2.2.2.1, y1.2.2.2.2.2.2.2.1, y1.2.2.2.2.2.2.2.2))
def vxp := shut wgc
theorem whp : vxp = wgc := vap _
theorem wue (a0 : (List dTxn)) (a1 : Int) (a2 : Int) (a3 : Int) (a4 : Int) (a5 : (List van)) (a6 : (List vam)) (a7 : Bool) (a8 : ByteArray) : Par (vxp a0 a1 a2 a3 a4 a5 a6 a7 a8) := by
  rw [whp]
  unfold wgc
  exact ((wtz _ _ _ _ _ _ _ _ _).bind fun y1 => (vaa _))
def vlb (x : q5T) (k : q5T ⊕ (q5T ⊕ q5T) → Option Res) : Option Res :=
 bif (decide (x.2.2.2.2.2 < x.2.2.2.2.1)) then
 if 0 ≤ x.2.2.2.2.2 ∧ x.2.2.2.2.2 < (x.2.2.2.1.length : Int) then
 bif (decide ((rd (Ty.zero tTxn) x.2.2.2.1 x.2.2.2.2.2).1 ≥ x.2.1)) then
 k (.inr (.inl (x.1, x.2.1, false, x.2.2.2.1, x.2.2.2.2.1, x.2.2.2.2.2)))
 else
 if 0 ≤ (0 : Int) ∧ (0 : Int) ≤ x.2.2.2.2.2 ∧ x.2.2.2.2.2 ≤ (x.1.length : Int) then
 vxp ((x.1.take x.2.2.2.2.2.toNat).drop (0 : Int).toNat) ((rd (Ty.zero tTxn) x.2.2.2.1 x.2.2.2.2.2).1) ((rd (Ty.zero tTxn) x.2.2.2.1 x.2.2.2.2.2).2.1) ((rd (Ty.zero tTxn) x.2.2.2.1 x.2.2.2.2.2).2.2.1) ((rd (Ty.zero tTxn) x.2.2.2.1 x.2.2.2.2.2).2.2.2.1) ((rd (Ty.zero tTxn) x.2.2.2.1 x.2.2.2.2.2).2.2.2.2.1) ((rd (Ty.zero tTxn) x.2.2.2.1 x.2.2.2.2.2).2.2.2.2.2.1) ((rd (Ty.zero tTxn) x.2.2.2.1 x.2.2.2.2.2).2.2.2.2.2.2.1) ((rd (Ty.zero tTxn) x.2.2.2.1 x.2.2.2.2.2).2.2.2.2.2.2.2) (fun y3 =>
 bif y3.1 then
 k (.inr (.inl (x.1, x.2.1, false, x.2.2.2.1, x.2.2.2.2.1, x.2.2.2.2.2)))
 else
 k (.inl (x.1, x.2.1, x.2.2.1, x.2.2.2.1, x.2.2.2.2.1, (IntKind.wrap .i64 (x.2.2.2.2.2 + (1 : Int))))))
 else none
 else none
 else
 k (.inr (.inr (x.1, x.2.1, x.2.2.1, x.2.2.2.1, x.2.2.2.2.1, x.2.2.2.2.2)))
theorem we4 (x : q5T) : Par (vlb x) := by
  unfold vlb
  exact (vab (vak (vab (vaa _) (vak ((wue _ _ _ _ _ _ _ _ _).bind fun y3 => (vab (vaa _) (vaa _))) vaf)) vaf) (vaa _))
def wdm (a0 : (List dTxn)) (a1 : Int) (k : Bool → Option Res) : Option Res :=
 vai vlb Fuel (a0, a1, false, a0, (a0.length : Int), (0 : Int)) (Sum.elim (fun z1 =>
 k z1.2.2.1) (fun _ =>
 k true))
def vog := shut wdm
theorem wjh : vog = wdm := vap _
theorem wnm (a0 : (List dTxn)) (a1 : Int) : Par (vog a0 a1) := by
  rw [wjh]
  unfold wdm
  exact ((vav we4 _ _).bind2 (fun z1 => (vaa _)) (fun z2 => (vaa _)))
def vk6 (x : q18T) (k : q18T ⊕ (q18T ⊕ q18T) → Option Res) : Option Res :=
 bif (decide (x.2.2.2.1 < x.2.2.1)) then
 if 0 ≤ x.2.2.2.1 ∧ x.2.2.2.1 < (x.2.1.length : Int) then
 bif (decide ((rd (Ty.zero tVersion) x.2.1 x.2.2.2.1).2.2.2 > x.2.2.2.2.2.2.2.1)) then
 k (.inr (.inl (false, x.2.1, x.2.2.1, x.2.2.2.1, x.2.2.2.2.1, x.2.2.2.2.2.1, x.2.2.2.2.2.2.1, x.2.2.2.2.2.2.2.1, x.2.2.2.2.2.2.2.2)))
 else
 k (.inl (x.1, x.2.1, x.2.2.1, (IntKind.wrap .i64 (x.2.2.2.1 + (1 : Int))), x.2.2.2.2.1, x.2.2.2.2.2.1, x.2.2.2.2.2.2.1, x.2.2.2.2.2.2.2.1, x.2.2.2.2.2.2.2.2))
 else none
 else
 k (.inr (.inr (x.1, x.2.1, x.2.2.1, x.2.2.2.1, x.2.2.2.2.1, x.2.2.2.2.2.1, x.2.2.2.2.2.2.1, x.2.2.2.2.2.2.2.1, x.2.2.2.2.2.2.2.2)))
theorem wbv (x : q18T) : Par (vk6 x) := by
  unfold vk6
  exact (vab (vak (vab (vaa _) (vaa _)) vaf) (vaa _))
def vlk (x : q16T) (k : q16T ⊕ (q16T ⊕ q16T) → Option Res) : Option Res :=
 bif (decide (x.2.2.2.1 < x.2.2.1)) then
 if 0 ≤ x.2.2.2.1 ∧ x.2.2.2.1 < (x.2.1.length : Int) then
 vnm (rd (Ty.zero tTxn) x.2.1 x.2.2.2.1) (fun y5 =>
 bif (!y5) then
 k (.inr (.inl (false, x.2.1, x.2.2.1, x.2.2.2.1, x.2.2.2.2.1, x.2.2.2.2.2.1, x.2.2.2.2.2.2.1, x.2.2.2.2.2.2.2.1, x.2.2.2.2.2.2.2.2)))
 else
 vwd (rd (Ty.zero tTxn) x.2.1 x.2.2.2.1) (fun y6 =>
 bif (!y6) then
 k (.inr (.inl (false, x.2.1, x.2.2.1, x.2.2.2.1, x.2.2.2.2.1, x.2.2.2.2.2.1, x.2.2.2.2.2.2.1, x.2.2.2.2.2.2.2.1, x.2.2.2.2.2.2.2.2)))
 else
 bif (decide ((rd (Ty.zero tTxn) x.2.1 x.2.2.2.1).2.2.2.1 > x.2.2.2.2.2.2.2.1)) then
 k (.inr (.inl (false, x.2.1, x.2.2.1, x.2.2.2.1, x.2.2.2.2.1, x.2.2.2.2.2.1, x.2.2.2.2.2.2.1, x.2.2.2.2.2.2.2.1, x.2.2.2.2.2.2.2.2)))
 else
 bif (decide (x.2.2.2.1 > (0 : Int))) then
 if 0 ≤ (IntKind.wrap .i64 (x.2.2.2.1 - (1 : Int))) ∧ (IntKind.wrap .i64 (x.2.2.2.1 - (1 : Int))) < (x.2.2.2.2.2.1.length : Int) then
 bif (decide ((rd (Ty.zero tTxn) x.2.2.2.2.2.1 (IntKind.wrap .i64 (x.2.2.2.1 - (1 : Int)))).2.2.2.1 ≥ (rd (Ty.zero tTxn) x.2.1 x.2.2.2.1).2.2.2.1)) then
 k (.inr (.inl (false, x.2.1, x.2.2.1, x.2.2.2.1, x.2.2.2.2.1, x.2.2.2.2.2.1, x.2.2.2.2.2.2.1, x.2.2.2.2.2.2.2.1, x.2.2.2.2.2.2.2.2)))
 else
 k (.inl (x.1, x.2.1, x.2.2.1, (IntKind.wrap .i64 (x.2.2.2.1 + (1 : Int))), x.2.2.2.2.1, x.2.2.2.2.2.1, x.2.2.2.2.2.2.1, x.2.2.2.2.2.2.2.1, x.2.2.2.2.2.2.2.2))
 else none
 else
 k (.inl (x.1, x.2.1, x.2.2.1, (IntKind.wrap .i64 (x.2.2.2.1 + (1 : Int))), x.2.2.2.2.1, x.2.2.2.2.2.1, x.2.2.2.2.2.2.1, x.2.2.2.2.2.2.2.1, x.2.2.2.2.2.2.2.2))))
 else none
 else
 k (.inr (.inr (x.1, x.2.1, x.2.2.1, x.2.2.2.1, x.2.2.2.2.1, x.2.2.2.2.2.1, x.2.2.2.2.2.2.1, x.2.2.2.2.2.2.2.1, x.2.2.2.2.2.2.2.2)))
theorem wfp (x : q16T) : Par (vlk x) := by
  unfold vlk
  exact (vab (vak ((wdt _).bind fun y5 => (vab (vaa _) ((ws3 _).bind fun y6 => (vab (vaa _) (vab (vaa _) (vab (vak (vab (vaa _) (vaa _)) vaf) (vaa _))))))) vaf) (vaa _))
def vku (x : q16T) (k : q16T ⊕ (q16T ⊕ q16T) → Option Res) : Option Res :=
 bif (decide (x.2.2.2.1 < x.2.2.1)) then
 if 0 ≤ x.2.2.2.1 ∧ x.2.2.2.1 < (x.2.1.length : Int) then
 vnm (rd (Ty.zero tTxn) x.2.1 x.2.2.2.1) (fun y7 =>
 bif (!y7) then
 k (.inr (.inl (false, x.2.1, x.2.2.1, x.2.2.2.1, x.2.2.2.2.1, x.2.2.2.2.2.1, x.2.2.2.2.2.2.1, x.2.2.2.2.2.2.2.1, x.2.2.2.2.2.2.2.2)))
 else
 vw2 (rd (Ty.zero tTxn) x.2.1 x.2.2.2.1) (fun y8 =>
 bif (!y8) then
 k (.inr (.inl (false, x.2.1, x.2.2.1, x.2.2.2.1, x.2.2.2.2.1, x.2.2.2.2.2.1, x.2.2.2.2.2.2.1, x.2.2.2.2.2.2.2.1, x.2.2.2.2.2.2.2.2)))
 else
 bif (decide ((rd (Ty.zero tTxn) x.2.1 x.2.2.2.1).2.2.1 > x.2.2.2.2.2.2.2.1)) then
 k (.inr (.inl (false, x.2.1, x.2.2.1, x.2.2.2.1, x.2.2.2.2.1, x.2.2.2.2.2.1, x.2.2.2.2.2.2.1, x.2.2.2.2.2.2.2.1, x.2.2.2.2.2.2.2.2)))
 else
 bif (decide (x.2.2.2.1 > (0 : Int))) then
 if 0 ≤ (IntKind.wrap .i64 (x.2.2.2.1 - (1 : Int))) ∧ (IntKind.wrap .i64 (x.2.2.2.1 - (1 : Int))) < (x.2.2.2.2.2.2.1.length : Int) then
 bif (!(va2 ((rd (Ty.zero tTxn) x.2.2.2.2.2.2.1 (IntKind.wrap .i64 (x.2.2.2.1 - (1 : Int)))).2.2.2.2.2.2.2) ((rd (Ty.zero tTxn) x.2.1 x.2.2.2.1).2.2.2.2.2.2.2))) then
 k (.inr (.inl (false, x.2.1, x.2.2.1, x.2.2.2.1, x.2.2.2.2.1, x.2.2.2.2.2.1, x.2.2.2.2.2.2.1, x.2.2.2.2.2.2.2.1, x.2.2.2.2.2.2.2.2)))
 else
 k (.inl (x.1, x.2.1, x.2.2.1, (IntKind.wrap .i64 (x.2.2.2.1 + (1 : Int))), x.2.2.2.2.1, x.2.2.2.2.2.1, x.2.2.2.2.2.2.1, x.2.2.2.2.2.2.2.1, x.2.2.2.2.2.2.2.2))
 else none
 else
 k (.inl (x.1, x.2.1, x.2.2.1, (IntKind.wrap .i64 (x.2.2.2.1 + (1 : Int))), x.2.2.2.2.1, x.2.2.2.2.2.1, x.2.2.2.2.2.2.1, x.2.2.2.2.2.2.2.1, x.2.2.2.2.2.2.2.2))))
 else none
 else
 k (.inr (.inr (x.1, x.2.1, x.2.2.1, x.2.2.2.1, x.2.2.2.2.1, x.2.2.2.2.2.1, x.2.2.2.2.2.2.1, x.2.2.2.2.2.2.2.1, x.2.2.2.2.2.2.2.2)))
theorem wc8 (x : q16T) : Par (vku x) := by
  unfold vku
  exact (vab (vak ((wdt _).bind fun y7 => (vab (vaa _) ((wty _).bind fun y8 => (vab (vaa _) (vab (vaa _) (vab (vak (vab (vaa _) (vaa _)) vaf) (vaa _))))))) vaf) (vaa _))
def vdm (x : q17T) (k : q17T → Option Res) : Option Res :=
 vai vk6 Fuel (x.1, x.2.1, (x.2.1.length : Int), (0 : Int), x.2.1, x.2.2.1, x.2.2.2.1, x.2.2.2.2.1, x.2.2.2.2.2) (Sum.elim (fun z9 =>
 k (z9.1, z9.2.2.2.2.1, z9.2.2.2.2.2.1, z9.2.2.2.2.2.2.1, z9.2.2.2.2.2.2.2.1, z9.2.2.2.2.2.2.2.2)) (fun z10 =>
 vai vlk Fuel (z10.1, z10.2.2.2.2.2.1, (z10.2.2.2.2.2.1.length : Int), (0 : Int), z10.2.2.2.2.1, z10.2.2.2.2.2.1, z10.2.2.2.2.2.2.1, z10.2.2.2.2.2.2.2.1, z10.2.2.2.2.2.2.2.2) (Sum.elim (fun z11 =>
 k (z11.1, z11.2.2.2.2.1, z11.2.2.2.2.2.1, z11.2.2.2.2.2.2.1, z11.2.2.2.2.2.2.2.1, z11.2.2.2.2.2.2.2.2)) (fun z12 =>
 vai vku Fuel (z12.1, z12.2.2.2.2.2.2.1, (z12.2.2.2.2.2.2.1.length : Int), (0 : Int), z12.2.2.2.2.1, z12.2.2.2.2.2.1, z12.2.2.2.2.2.2.1, z12.2.2.2.2.2.2.2.1, z12.2.2.2.2.2.2.2.2) (Sum.elim (fun z13 =>
 k (z13.1, z13.2.2.2.2.1, z13.2.2.2.2.2.1, z13.2.2.2.2.2.2.1, z13.2.2.2.2.2.2.2.1, z13.2.2.2.2.2.2.2.2)) (fun z14 =>
 vry [z14.2.2.2.2.2.1, z14.2.2.2.2.2.2.1] (Sum.elim (fun y15 =>
 vog y15 z14.2.2.2.2.2.2.2.2 (fun y16 =>
 k (y16, z14.2.2.2.2.1, z14.2.2.2.2.2.1, z14.2.2.2.2.2.2.1, z14.2.2.2.2.2.2.2.1, z14.2.2.2.2.2.2.2.2))) (fun y17 =>
 vog y17 z14.2.2.2.2.2.2.2.2 (fun y18 =>
 k (y18, z14.2.2.2.2.1, z14.2.2.2.2.2.1, z14.2.2.2.2.2.2.1, z14.2.2.2.2.2.2.2.1, z14.2.2.2.2.2.2.2.2))))))))))
theorem vpq (x : q17T) : Par (vdm x) := by
  unfold vdm
  exact ((vav wbv _ _).bind2 (fun z9 => (vaa _)) (fun z10 => ((vav wfp _ _).bind2 (fun z11 => (vaa _)) (fun z12 => ((vav wc8 _ _).bind2 (fun z13 => (vaa _)) (fun z14 => ((wto _).bind2 (fun y15 => ((wnm _ _).bind fun y16 => (vaa _))) (fun y17 => ((wnm _ _).bind fun y18 => (vaa _))))))))))
def wey (a0 : vn7) (k : Bool → Option Res) : Option Res :=
 vu7 a0.1 (fun y1 =>
 bif (!y1) then
 k false
 else
 bif (decide ((a0.2.1.length : Int) > (12 : Int))) then
 k false
 else
 bif (decide ((a0.2.2.1.length : Int) > (3 : Int))) then
 k false
 else
 vdb a0.2.2.2.1 (0 : Int) (9999 : Int) (fun y2 =>
 bif (!y2) then
 k false
 else
 vdb a0.2.2.2.2 (1 : Int) (9999 : Int) (fun y3 =>
 bif (!y3) then
 k false
 else
 vdm (false, a0.1, a0.2.1, a0.2.2.1, a0.2.2.2.1, a0.2.2.2.2) (fun z4 =>
 k z4.1))))
def vw7 := shut wey
theorem wib : vw7 = wey := vap _
theorem wui (a0 : vn7) : Par (vw7 a0) := by
  rw [wib]
  unfold wey
  exact ((wuf _).bind fun y1 => (vab (vaa _) (vab (vaa _) (vab (vaa _) ((vj8 _ _ _).bind fun y2 => (vab (vaa _) ((vj8 _ _ _).bind fun y3 => (vab (vaa _) ((vpq _).bind fun z4 => (vaa _))))))))))
def wdr (a0 : ByteArray) (a1 : Int) (a2 : Bool) (k : q42T → Option Res) : Option Res :=
 vfs a0 a1 a2 (fun y1 =>
 vfs y1.2.1 y1.2.2.1 y1.2.2.2 (fun y2 =>
 v10 y2.2.1 y2.2.2.1 y2.2.2.2 y1.1 y2.1 (fun y3 =>
 vxh y3.1 y3.2.1 y3.2.2.1 y3.2.2.2.1 y3.2.2.2.2.1 y3.2.2.2.2.2 (fun y4 =>
 vv7 y4.1 y4.2.1 y4.2.2.1 y4.2.2.2.1 y4.2.2.2.2.1 y4.2.2.2.2.2.1 y4.2.2.2.2.2.2 (fun y5 =>
 bif y5.2.2.1 then
 k (y5.2.2.2.1, y5.2.2.2.2.1, y5.1, y5.2.1, true, y5.2.2.2.2.2.1, y5.2.2.2.2.2.2.1, y5.2.2.2.2.2.2.2)
 else
 vw7 (y5.2.2.2.2.2.1, (y5.2.2.2.2.2.2.1, (y5.2.2.2.2.2.2.2, (y5.2.2.2.1, y5.2.2.2.2.1)))) (fun y6 =>
 k (y5.2.2.2.1, y5.2.2.2.2.1, y5.1, y5.2.1, (!y6), y5.2.2.2.2.2.1, y5.2.2.2.2.2.2.1, y5.2.2.2.2.2.2.2)))))))
def v6a := shut wdr
theorem wha : v6a = wdr := vap _
theorem wtg (a0 : ByteArray) (a1 : Int) (a2 : Bool) : Par (v6a a0 a1 a2) := by
  rw [wha]
  unfold wdr
  exact ((vje _ _ _).bind fun y1 => ((vje _ _ _).bind fun y2 => ((ws9 _ _ _ _ _).bind fun y3 => ((wt4 _ _ _ _ _ _).bind fun y4 => ((wtm _ _ _ _ _ _ _).bind fun y5 => (vab (vaa _) ((wui _).bind fun y6 => (vaa _))))))))
def wdc (a0 : ByteArray) (a1 : Int) (k : q50T → Option Res) : Option Res :=
 v6a a0 a1 false (fun y1 =>
 bif y1.2.2.2.2.1 then
 k ((0 : Int), (0 : Int), (0 : Int), false, ([] : List vac), ([] : List dTxn), ([] : List dTxn))
 else
 k (y1.1, y1.2.1, y1.2.2.2.1, true, y1.2.2.2.2.2.1, y1.2.2.2.2.2.2.1, y1.2.2.2.2.2.2.2))
def vnq := shut wdc
theorem wk3 : vnq = wdc := vap _
theorem v59 (a0 : ByteArray) (a1 : Int) : Par (vnq a0 a1) := by
  rw [wk3]
  unfold wdc
  exact ((wtg _ _ _).bind fun y1 => (vab (vaa _) (vaa _)))
def wb3 (a0 : vac) (a1 : vac) (k : Bool → Option Res) : Option Res :=
 bif (!(va9 a0.1 a1.1)) then
 k false
 else
 bif (!(va9 a0.2.1 a1.2.1)) then
 k false
 else
 bif (!(a0.2.2.1 == a1.2.2.1)) then
 k false
 else
 bif (a0.2.2.2 != a1.2.2.2) then
 k false
 else
 k true
def vxi := shut wb3
theorem wnk : vxi = wb3 := vap _
theorem wss (a0 : vac) (a1 : vac) : Par (vxi a0 a1) := by
  rw [wnk]
  unfold wb3
  exact (vab (vaa _) (vab (vaa _) (vab (vaa _) (vab (vaa _) (vaa _)))))
def vk8 (x : q8T) (k : q8T ⊕ (q8T ⊕ q8T) → Option Res) : Option Res :=
 bif (decide (x.2.2.2 < (x.1.length : Int))) then
 if 0 ≤ x.2.2.2 ∧ x.2.2.2 < (x.1.length : Int) then
 if 0 ≤ x.2.2.2 ∧ x.2.2.2 < (x.2.1.length : Int) then
 vxi (rd (Ty.zero tVersion) x.1 x.2.2.2) (rd (Ty.zero tVersion) x.2.1 x.2.2.2) (fun y3 =>
 bif (!y3) then
 k (.inr (.inl (x.1, x.2.1, false, x.2.2.2)))
 else
 k (.inl (x.1, x.2.1, x.2.2.1, (IntKind.wrap .i64 (x.2.2.2 + (1 : Int))))))
 else none
 else none
 else
 k (.inr (.inr (x.1, x.2.1, x.2.2.1, x.2.2.2)))
theorem wep (x : q8T) : Par (vk8 x) := by
  unfold vk8
  exact (vab (vak (vak ((wss _ _).bind fun y3 => (vab (vaa _) (vaa _))) vaf) vaf) (vaa _))
def wda (a0 : (List vac)) (a1 : (List vac)) (k : Bool → Option Res) : Option Res :=
 bif ((a0.length : Int) != (a1.length : Int)) then
 k false
 else
 vai vk8 Fuel (a0, a1, false, (0 : Int)) (Sum.elim (fun z1 =>
 k z1.2.2.1) (fun _ =>
 k true))
def vwi := shut wda
theorem wl6 : vwi = wda := vap _
theorem ws4 (a0 : (List vac)) (a1 : (List vac)) : Par (vwi a0 a1) := by
  rw [wl6]
  unfold wda
  exact (vab (vaa _) ((vav wep _ _).bind2 (fun z1 => (vaa _)) (fun z2 => (vaa _))))
def web (a0 : van) (a1 : van) (k : Bool → Option Res) : Option Res :=
 bif (!(va9 a0.1 a1.1)) then
 k false
 else
 bif (!(va9 a0.2 a1.2)) then
 k false
 else
 k true
def vw1 := shut web
theorem wm7 : vw1 = web := vap _
theorem wt3 (a0 : van) (a1 : van) : Par (vw1 a0 a1) := by
  rw [wm7]
  unfold web
  exact (vab (vaa _) (vab (vaa _) (vaa _)))
def vko (x : q2T) (k : q2T ⊕ (q2T ⊕ q2T) → Option Res) : Option Res :=
 bif (decide (x.2.2.2 < (x.1.length : Int))) then
 if 0 ≤ x.2.2.2 ∧ x.2.2.2 < (x.1.length : Int) then
 if 0 ≤ x.2.2.2 ∧ x.2.2.2 < (x.2.1.length : Int) then
 vw1 (rd (Ty.zero tRange) x.1 x.2.2.2) (rd (Ty.zero tRange) x.2.1 x.2.2.2) (fun y3 =>
 bif (!y3) then
 k (.inr (.inl (x.1, x.2.1, false, x.2.2.2)))
 else
 k (.inl (x.1, x.2.1, x.2.2.1, (IntKind.wrap .i64 (x.2.2.2 + (1 : Int))))))
 else none
 else none
 else
 k (.inr (.inr (x.1, x.2.1, x.2.2.1, x.2.2.2)))
theorem wfk (x : q2T) : Par (vko x) := by
  unfold vko
  exact (vab (vak (vak ((wt3 _ _).bind fun y3 => (vab (vaa _) (vaa _))) vaf) vaf) (vaa _))
def wdf (a0 : (List van)) (a1 : (List van)) (k : Bool → Option Res) : Option Res :=
 bif ((a0.length : Int) != (a1.length : Int)) then
 k false
 else
 vai vko Fuel (a0, a1, false, (0 : Int)) (Sum.elim (fun z1 =>
 k z1.2.2.1) (fun _ =>
 k true))
def vwu := shut wdf
theorem wiu : vwu = wdf := vap _
theorem ws5 (a0 : (List van)) (a1 : (List van)) : Par (vwu a0 a1) := by
  rw [wiu]
  unfold wdf
  exact (vab (vaa _) ((vav wfk _ _).bind2 (fun z1 => (vaa _)) (fun z2 => (vaa _))))
def wev (a0 : vam) (a1 : vam) (k : Bool → Option Res) : Option Res :=
 bif (!(va9 a0.1 a1.1)) then
 k false
 else
 bif (!(va9 a0.2.1 a1.2.1)) then
 k false
 else
 bif (!(a0.2.2 == a1.2.2)) then
 k false
 else
 k true
def vwb := shut wev
theorem wiq : vwb = wev := vap _
theorem wtv (a0 : vam) (a1 : vam) : Par (vwb a0 a1) := by
  rw [wiq]
  unfold wev
  exact (vab (vaa _) (vab (vaa _) (vab (vaa _) (vaa _))))
def vl2 (x : q12T) (k : q12T ⊕ (q12T ⊕ q12T) → Option Res) : Option Res :=
 bif (decide (x.2.2.2 < (x.1.length : Int))) then
 if 0 ≤ x.2.2.2 ∧ x.2.2.2 < (x.1.length : Int) then
 if 0 ≤ x.2.2.2 ∧ x.2.2.2 < (x.2.1.length : Int) then
 vwb (rd (Ty.zero tWrite) x.1 x.2.2.2) (rd (Ty.zero tWrite) x.2.1 x.2.2.2) (fun y3 =>
 bif (!y3) then
 k (.inr (.inl (x.1, x.2.1, false, x.2.2.2)))
 else
 k (.inl (x.1, x.2.1, x.2.2.1, (IntKind.wrap .i64 (x.2.2.2 + (1 : Int))))))
 else none
 else none
 else
 k (.inr (.inr (x.1, x.2.1, x.2.2.1, x.2.2.2)))
theorem wby (x : q12T) : Par (vl2 x) := by
  unfold vl2
  exact (vab (vak (vak ((wtv _ _).bind fun y3 => (vab (vaa _) (vaa _))) vaf) vaf) (vaa _))
def wd3 (a0 : (List vam)) (a1 : (List vam)) (k : Bool → Option Res) : Option Res :=
 bif ((a0.length : Int) != (a1.length : Int)) then
 k false
 else
 vai vl2 Fuel (a0, a1, false, (0 : Int)) (Sum.elim (fun z1 =>
 k z1.2.2.1) (fun _ =>
 k true))
def vv9 := shut wd3
theorem wlc : vv9 = wd3 := vap _
theorem wt0 (a0 : (List vam)) (a1 : (List vam)) : Par (vv9 a0 a1) := by
  rw [wlc]
  unfold wd3
  exact (vab (vaa _) ((vav wby _ _).bind2 (fun z1 => (vaa _)) (fun z2 => (vaa _))))
def wci (a0 : dTxn) (a1 : dTxn) (k : Bool → Option Res) : Option Res :=
 bif (a0.1 != a1.1) then
 k false
 else
 bif (a0.2.1 != a1.2.1) then
 k false
 else
 bif (a0.2.2.1 != a1.2.2.1) then
 k false
 else
 bif (a0.2.2.2.1 != a1.2.2.2.1) then
 k false
 else
 vwu a0.2.2.2.2.1 a1.2.2.2.2.1 (fun y1 =>
 bif (!y1) then
 k false
 else
 vv9 a0.2.2.2.2.2.1 a1.2.2.2.2.2.1 (fun y2 =>
 bif (!y2) then
 k false
 else
 bif (!(a0.2.2.2.2.2.2.1 == a1.2.2.2.2.2.2.1)) then
 k false
 else
 bif (!(va9 a0.2.2.2.2.2.2.2 a1.2.2.2.2.2.2.2)) then
 k false
 else
 k true))
def vux := shut wci
theorem wi0 : vux = wci := vap _
theorem wum (a0 : dTxn) (a1 : dTxn) : Par (vux a0 a1) := by
  rw [wi0]
  unfold wci
  exact (vab (vaa _) (vab (vaa _) (vab (vaa _) (vab (vaa _) ((ws5 _ _).bind fun y1 => (vab (vaa _) ((wt0 _ _).bind fun y2 => (vab (vaa _) (vab (vaa _) (vab (vaa _) (vaa _)))))))))))
def vks (x : q4T) (k : q4T ⊕ (q4T ⊕ q4T) → Option Res) : Option Res :=
 bif (decide (x.2.2.2 < (x.1.length : Int))) then
 if 0 ≤ x.2.2.2 ∧ x.2.2.2 < (x.1.length : Int) then
 if 0 ≤ x.2.2.2 ∧ x.2.2.2 < (x.2.1.length : Int) then
 vux (rd (Ty.zero tTxn) x.1 x.2.2.2) (rd (Ty.zero tTxn) x.2.1 x.2.2.2) (fun y3 =>
 bif (!y3) then
 k (.inr (.inl (x.1, x.2.1, false, x.2.2.2)))
 else
 k (.inl (x.1, x.2.1, x.2.2.1, (IntKind.wrap .i64 (x.2.2.2 + (1 : Int))))))
 else none
 else none
 else
 k (.inr (.inr (x.1, x.2.1, x.2.2.1, x.2.2.2)))
theorem wdo (x : q4T) : Par (vks x) := by
  unfold vks
  exact (vab (vak (vak ((wum _ _).bind fun y3 => (vab (vaa _) (vaa _))) vaf) vaf) (vaa _))
def wfj (a0 : (List dTxn)) (a1 : (List dTxn)) (k : Bool → Option Res) : Option Res :=
 bif ((a0.length : Int) != (a1.length : Int)) then
 k false
 else
 vai vks Fuel (a0, a1, false, (0 : Int)) (Sum.elim (fun z1 =>
 k z1.2.2.1) (fun _ =>
 k true))
def vut := shut wfj
theorem wiv : vut = wfj := vap _
theorem wly (a0 : (List dTxn)) (a1 : (List dTxn)) : Par (vut a0 a1) := by
  rw [wiv]
  unfold wfj
  exact (vab (vaa _) ((vav wdo _ _).bind2 (fun z1 => (vaa _)) (fun z2 => (vaa _))))
def wft (a0 : vn7) (a1 : vn7) (k : Bool → Option Res) : Option Res :=
 vwi a0.1 a1.1 (fun y1 =>
 bif (!y1) then
 k false
 else
 vut a0.2.1 a1.2.1 (fun y2 =>
 bif (!y2) then
 k false
 else
 vut a0.2.2.1 a1.2.2.1 (fun y3 =>
 bif (!y3) then
 k false
 else
 bif (a0.2.2.2.1 != a1.2.2.2.1) then
 k false
 else
 bif (a0.2.2.2.2 != a1.2.2.2.2) then
 k false
 else
 k true)))
def vl5 := shut wft
theorem whl : vl5 = wft := vap _
theorem v52 (a0 : vn7) (a1 : vn7) : Par (vl5 a0 a1) := by
  rw [whl]
  unfold wft
  exact ((ws4 _ _).bind fun y1 => (vab (vaa _) ((wly _ _).bind fun y2 => (vab (vaa _) ((wly _ _).bind fun y3 => (vab (vaa _) (vab (vaa _) (vab (vaa _) (vaa _)))))))))
def vmo (x : (Int × ByteArray)) (k : (Int × ByteArray) ⊕ (Int × ByteArray) → Option Res) : Option Res :=
 bif (decide (x.1 > (0 : Int))) then
 if (vd4 [(IntKind.wrap .u8 (IntKind.wrap .i64 ((48 : Int) + (x.1.tmod (10 : Int)))))]).size + x.2.size ≤ 1099511627776 then
 k (.inl ((IntKind.wrap .i64 (x.1.tdiv (10 : Int))), ((vd4 [(IntKind.wrap .u8 (IntKind.wrap .i64 ((48 : Int) + (x.1.tmod (10 : Int)))))]) ++ x.2)))
 else none
 else
 k (.inr (x.1, x.2))
theorem wdw (x : (Int × ByteArray)) : Par (vmo x) := by
  unfold vmo
  exact (vab (vak (vaa _) vaf) (vaa _))
def wbq (a0 : Int) (k : ByteArray → Option Res) : Option Res :=
 bif (decide (a0 ≤ (0 : Int))) then
 k (⟨#[109, 48]⟩ : ByteArray)
 else
 vai vmo Fuel (a0, (⟨#[]⟩ : ByteArray)) (fun z1 =>
 if (⟨#[109]⟩ : ByteArray).size + z1.2.size ≤ 1099511627776 then
 k ((⟨#[109]⟩ : ByteArray) ++ z1.2)
 else none)
def vcp := shut wbq
theorem wi1 : vcp = wbq := vap _
theorem vix (a0 : Int) : Par (vcp a0) := by
  rw [wi1]
  unfold wbq
  exact (vab (vaa _) ((vav wdw _ _).bind fun z1 => (vak (vaa _) vaf)))
def vlu (x : (Int × Int × (List vac))) (k : (Int × Int × (List vac)) ⊕ (Int × Int × (List vac)) → Option Res) : Option Res :=
 bif (decide (x.2.1 < (x.2.2.length : Int))) then
 vcp x.1 (fun y2 =>
 if 0 ≤ x.2.1 ∧ x.2.1 < (x.2.2.length : Int) then
 vcp (IntKind.wrap .i64 (x.1 + (1 : Int))) (fun y3 =>
 if 0 ≤ x.2.1 ∧ x.2.1 < ((x.2.2.set x.2.1.toNat (y2, (x.2.2.getD x.2.1.toNat (Ty.zero tVersion)).2)).length : Int) then
 if 0 ≤ x.2.1 ∧ x.2.1 < (((x.2.2.set x.2.1.toNat (y2, (x.2.2.getD x.2.1.toNat (Ty.zero tVersion)).2)).set x.2.1.toNat (((x.2.2.set x.2.1.toNat (y2, (x.2.2.getD x.2.1.toNat (Ty.zero tVersion)).2)).getD x.2.1.toNat (Ty.zero tVersion)).1, (y3, ((x.2.2.set x.2.1.toNat (y2, (x.2.2.getD x.2.1.toNat (Ty.zero tVersion)).2)).getD x.2.1.toNat (Ty.zero tVersion)).2.2))).length : Int) then
 if 0 ≤ x.2.1 ∧ x.2.1 < ((((x.2.2.set x.2.1.toNat (y2, (x.2.2.getD x.2.1.toNat (Ty.zero tVersion)).2)).set x.2.1.toNat (((x.2.2.set x.2.1.toNat (y2, (x.2.2.getD x.2.1.toNat (Ty.zero tVersion)).2)).getD x.2.1.toNat (Ty.zero tVersion)).1, (y3, ((x.2.2.set x.2.1.toNat (y2, (x.2.2.getD x.2.1.toNat (Ty.zero tVersion)).2)).getD x.2.1.toNat (Ty.zero tVersion)).2.2))).set x.2.1.toNat ((((x.2.2.set x.2.1.toNat (y2, (x.2.2.getD x.2.1.toNat (Ty.zero tVersion)).2)).set x.2.1.toNat (((x.2.2.set x.2.1.toNat (y2, (x.2.2.getD x.2.1.toNat (Ty.zero tVersion)).2)).getD x.2.1.toNat (Ty.zero tVersion)).1, (y3, ((x.2.2.set x.2.1.toNat (y2, (x.2.2.getD x.2.1.toNat (Ty.zero tVersion)).2)).getD x.2.1.toNat (Ty.zero tVersion)).2.2))).getD x.2.1.toNat (Ty.zero tVersion)).1, ((((x.2.2.set x.2.1.toNat (y2, (x.2.2.getD x.2.1.toNat (Ty.zero tVersion)).2)).set x.2.1.toNat (((x.2.2.set x.2.1.toNat (y2, (x.2.2.getD x.2.1.toNat (Ty.zero tVersion)).2)).getD x.2.1.toNat (Ty.zero tVersion)).1, (y3, ((x.2.2.set x.2.1.toNat (y2, (x.2.2.getD x.2.1.toNat (Ty.zero tVersion)).2)).getD x.2.1.toNat (Ty.zero tVersion)).2.2))).getD x.2.1.toNat (Ty.zero tVersion)).2.1, ((((IntKind.wrap .i64 ((IntKind.wrap .i64 (x.1 + (1 : Int))) + (1 : Int))).tmod (3 : Int)) == (0 : Int)), (((x.2.2.set x.2.1.toNat (y2, (x.2.2.getD x.2.1.toNat (Ty.zero tVersion)).2)).set x.2.1.toNat (((x.2.2.set x.2.1.toNat (y2, (x.2.2.getD x.2.1.toNat (Ty.zero tVersion)).2)).getD x.2.1.toNat (Ty.zero tVersion)).1, (y3, ((x.2.2.set x.2.1.toNat (y2, (x.2.2.getD x.2.1.toNat (Ty.zero tVersion)).2)).getD x.2.1.toNat (Ty.zero tVersion)).2.2))).getD x.2.1.toNat (Ty.zero tVersion)).2.2.2)))).length : Int) then
 k (.inl ((IntKind.wrap .i64 ((IntKind.wrap .i64 ((IntKind.wrap .i64 ((IntKind.wrap .i64 (x.1 + (1 : Int))) + (1 : Int))) + (1 : Int))) + (1 : Int))), (IntKind.wrap .i64 (x.2.1 + (1 : Int))), ((((x.2.2.set x.2.1.toNat (y2, (x.2.2.getD x.2.1.toNat (Ty.zero tVersion)).2)).set x.2.1.toNat (((x.2.2.set x.2.1.toNat (y2, (x.2.2.getD x.2.1.toNat (Ty.zero tVersion)).2)).getD x.2.1.toNat (Ty.zero tVersion)).1, (y3, ((x.2.2.set x.2.1.toNat (y2, (x.2.2.getD x.2.1.toNat (Ty.zero tVersion)).2)).getD x.2.1.toNat (Ty.zero tVersion)).2.2))).set x.2.1.toNat ((((x.2.2.set x.2.1.toNat (y2, (x.2.2.getD x.2.1.toNat (Ty.zero tVersion)).2)).set x.2.1.toNat (((x.2.2.set x.2.1.toNat (y2, (x.2.2.getD x.2.1.toNat (Ty.zero tVersion)).2)).getD x.2.1.toNat (Ty.zero tVersion)).1, (y3, ((x.2.2.set x.2.1.toNat (y2, (x.2.2.getD x.2.1.toNat (Ty.zero tVersion)).2)).getD x.2.1.toNat (Ty.zero tVersion)).2.2))).getD x.2.1.toNat (Ty.zero tVersion)).1, ((((x.2.2.set x.2.1.toNat (y2, (x.2.2.getD x.2.1.toNat (Ty.zero tVersion)).2)).set x.2.1.toNat (((x.2.2.set x.2.1.toNat (y2, (x.2.2.getD x.2.1.toNat (Ty.zero tVersion)).2)).getD x.2.1.toNat (Ty.zero tVersion)).1, (y3, ((x.2.2.set x.2.1.toNat (y2, (x.2.2.getD x.2.1.toNat (Ty.zero tVersion)).2)).getD x.2.1.toNat (Ty.zero tVersion)).2.2))).getD x.2.1.toNat (Ty.zero tVersion)).2.1, ((((IntKind.wrap .i64 ((IntKind.wrap .i64 (x.1 + (1 : Int))) + (1 : Int))).tmod (3 : Int)) == (0 : Int)), (((x.2.2.set x.2.1.toNat (y2, (x.2.2.getD x.2.1.toNat (Ty.zero tVersion)).2)).set x.2.1.toNat (((x.2.2.set x.2.1.toNat (y2, (x.2.2.getD x.2.1.toNat (Ty.zero tVersion)).2)).getD x.2.1.toNat (Ty.zero tVersion)).1, (y3, ((x.2.2.set x.2.1.toNat (y2, (x.2.2.getD x.2.1.toNat (Ty.zero tVersion)).2)).getD x.2.1.toNat (Ty.zero tVersion)).2.2))).getD x.2.1.toNat (Ty.zero tVersion)).2.2.2)))).set x.2.1.toNat (((((x.2.2.set x.2.1.toNat (y2, (x.2.2.getD x.2.1.toNat (Ty.zero tVersion)).2)).set x.2.1.toNat (((x.2.2.set x.2.1.toNat (y2, (x.2.2.getD x.2.1.toNat (Ty.zero tVersion)).2)).getD x.2.1.toNat (Ty.zero tVersion)).1, (y3, ((x.2.2.set x.2.1.toNat (y2, (x.2.2.getD x.2.1.toNat (Ty.zero tVersion)).2)).getD x.2.1.toNat (Ty.zero tVersion)).2.2))).set x.2.1.toNat ((((x.2.2.set x.2.1.toNat (y2, (x.2.2.getD x.2.1.toNat (Ty.zero tVersion)).2)).set x.2.1.toNat (((x.2.2.set x.2.1.toNat (y2, (x.2.2.getD x.2.1.toNat (Ty.zero tVersion)).2)).getD x.2.1.toNat (Ty.zero tVersion)).1, (y3, ((x.2.2.set x.2.1.toNat (y2, (x.2.2.getD x.2.1.toNat (Ty.zero tVersion)).2)).getD x.2.1.toNat (Ty.zero tVersion)).2.2))).getD x.2.1.toNat (Ty.zero tVersion)).1, ((((x.2.2.set x.2.1.toNat (y2, (x.2.2.getD x.2.1.toNat (Ty.zero tVersion)).2)).set x.2.1.toNat (((x.2.2.set x.2.1.toNat (y2, (x.2.2.getD x.2.1.toNat (Ty.zero tVersion)).2)).getD x.2.1.toNat (Ty.zero tVersion)).1, (y3, ((x.2.2.set x.2.1.toNat (y2, (x.2.2.getD x.2.1.toNat (Ty.zero tVersion)).2)).getD x.2.1.toNat (Ty.zero tVersion)).2.2))).getD x.2.1.toNat (Ty.zero tVersion)).2.1, ((((IntKind.wrap .i64 ((IntKind.wrap .i64 (x.1 + (1 : Int))) + (1 : Int))).tmod (3 : Int)) == (0 : Int)), (((x.2.2.set x.2.1.toNat (y2, (x.2.2.getD x.2.1.toNat (Ty.zero tVersion)).2)).set x.2.1.toNat (((x.2.2.set x.2.1.toNat (y2, (x.2.2.getD x.2.1.toNat (Ty.zero tVersion)).2)).getD x.2.1.toNat (Ty.zero tVersion)).1, (y3, ((x.2.2.set x.2.1.toNat (y2, (x.2.2.getD x.2.1.toNat (Ty.zero tVersion)).2)).getD x.2.1.toNat (Ty.zero tVersion)).2.2))).getD x.2.1.toNat (Ty.zero tVersion)).2.2.2)))).getD x.2.1.toNat (Ty.zero tVersion)).1, (((((x.2.2.set x.2.1.toNat (y2, (x.2.2.getD x.2.1.toNat (Ty.zero tVersion)).2)).set x.2.1.toNat (((x.2.2.set x.2.1.toNat (y2, (x.2.2.getD x.2.1.toNat (Ty.zero tVersion)).2)).getD x.2.1.toNat (Ty.zero tVersion)).1, (y3, ((x.2.2.set x.2.1.toNat (y2, (x.2.2.getD x.2.1.toNat (Ty.zero tVersion)).2)).getD x.2.1.toNat (Ty.zero tVersion)).2.2))).set x.2.1.toNat ((((x.2.2.set x.2.1.toNat (y2, (x.2.2.getD x.2.1.toNat (Ty.zero tVersion)).2)).set x.2.1.toNat (((x.2.2.set x.2.1.toNat (y2, (x.2.2.getD x.2.1.toNat (Ty.zero tVersion)).2)).getD x.2.1.toNat (Ty.zero tVersion)).1, (y3, ((x.2.2.set x.2.1.toNat (y2, (x.2.2.getD x.2.1.toNat (Ty.zero tVersion)).2)).getD x.2.1.toNat (Ty.zero tVersion)).2.2))).getD x.2.1.toNat (Ty.zero tVersion)).1, ((((x.2.2.set x.2.1.toNat (y2, (x.2.2.getD x.2.1.toNat (Ty.zero tVersion)).2)).set x.2.1.toNat (((x.2.2.set x.2.1.toNat (y2, (x.2.2.getD x.2.1.toNat (Ty.zero tVersion)).2)).getD x.2.1.toNat (Ty.zero tVersion)).1, (y3, ((x.2.2.set x.2.1.toNat (y2, (x.2.2.getD x.2.1.toNat (Ty.zero tVersion)).2)).getD x.2.1.toNat (Ty.zero tVersion)).2.2))).getD x.2.1.toNat (Ty.zero tVersion)).2.1, ((((IntKind.wrap .i64 ((IntKind.wrap .i64 (x.1 + (1 : Int))) + (1 : Int))).tmod (3 : Int)) == (0 : Int)), (((x.2.2.set x.2.1.toNat (y2, (x.2.2.getD x.2.1.toNat (Ty.zero tVersion)).2)).set x.2.1.toNat (((x.2.2.set x.2.1.toNat (y2, (x.2.2.getD x.2.1.toNat (Ty.zero tVersion)).2)).getD x.2.1.toNat (Ty.zero tVersion)).1, (y3, ((x.2.2.set x.2.1.toNat (y2, (x.2.2.getD x.2.1.toNat (Ty.zero tVersion)).2)).getD x.2.1.toNat (Ty.zero tVersion)).2.2))).getD x.2.1.toNat (Ty.zero tVersion)).2.2.2)))).getD x.2.1.toNat (Ty.zero tVersion)).2.1, (((((x.2.2.set x.2.1.toNat (y2, (x.2.2.getD x.2.1.toNat (Ty.zero tVersion)).2)).set x.2.1.toNat (((x.2.2.set x.2.1.toNat (y2, (x.2.2.getD x.2.1.toNat (Ty.zero tVersion)).2)).getD x.2.1.toNat (Ty.zero tVersion)).1, (y3, ((x.2.2.set x.2.1.toNat (y2, (x.2.2.getD x.2.1.toNat (Ty.zero tVersion)).2)).getD x.2.1.toNat (Ty.zero tVersion)).2.2))).set x.2.1.toNat ((((x.2.2.set x.2.1.toNat (y2, (x.2.2.getD x.2.1.toNat (Ty.zero tVersion)).2)).set x.2.1.toNat (((x.2.2.set x.2.1.toNat (y2, (x.2.2.getD x.2.1.toNat (Ty.zero tVersion)).2)).getD x.2.1.toNat (Ty.zero tVersion)).1, (y3, ((x.2.2.set x.2.1.toNat (y2, (x.2.2.getD x.2.1.toNat (Ty.zero tVersion)).2)).getD x.2.1.toNat (Ty.zero tVersion)).2.2))).getD x.2.1.toNat (Ty.zero tVersion)).1, ((((x.2.2.set x.2.1.toNat (y2, (x.2.2.getD x.2.1.toNat (Ty.zero tVersion)).2)).set x.2.1.toNat (((x.2.2.set x.2.1.toNat (y2, (x.2.2.getD x.2.1.toNat (Ty.zero tVersion)).2)).getD x.2.1.toNat (Ty.zero tVersion)).1, (y3, ((x.2.2.set x.2.1.toNat (y2, (x.2.2.getD x.2.1.toNat (Ty.zero tVersion)).2)).getD x.2.1.toNat (Ty.zero tVersion)).2.2))).getD x.2.1.toNat (Ty.zero tVersion)).2.1, ((((IntKind.wrap .i64 ((IntKind.wrap .i64 (x.1 + (1 : Int))) + (1 : Int))).tmod (3 : Int)) == (0 : Int)), (((x.2.2.set x.2.1.toNat (y2, (x.2.2.getD x.2.1.toNat (Ty.zero tVersion)).2)).set x.2.1.toNat (((x.2.2.set x.2.1.toNat (y2, (x.2.2.getD x.2.1.toNat (Ty.zero tVersion)).2)).getD x.2.1.toNat (Ty.zero tVersion)).1, (y3, ((x.2.2.set x.2.1.toNat (y2, (x.2.2.getD x.2.1.toNat (Ty.zero tVersion)).2)).getD x.2.1.toNat (Ty.zero tVersion)).2.2))).getD x.2.1.toNat (Ty.zero tVersion)).2.2.2)))).getD x.2.1.toNat (Ty.zero tVersion)).2.2.1, (IntKind.wrap .i64 ((IntKind.wrap .i64 ((IntKind.wrap .i64 (x.1 + (1 : Int))) + (1 : Int))) + (1 : Int)))))))))
 else none
 else none
 else none)
 else none)
 else
 k (.inr (x.1, x.2.1, x.2.2))
theorem wc4 (x : (Int × Int × (List vac))) : Par (vlu x) := by
  unfold vlu
  exact (vab ((vix _).bind fun y2 => (vak ((vix _).bind fun y3 => (vak (vak (vak (vaa _) vaf) vaf) vaf)) vaf)) (vaa _))
def we0 (a0 : Int) (a1 : (List vac)) (k : (Int × (List vac)) → Option Res) : Option Res :=
 vai vlu Fuel (a0, (0 : Int), a1) (fun z1 =>
 k (z1.1, z1.2.2))
def v1o := shut we0
theorem wk1 : v1o = we0 := vap _
theorem wsu (a0 : Int) (a1 : (List vac)) : Par (v1o a0 a1) := by
  rw [wk1]
  unfold we0
  exact ((vav wc4 _ _).bind fun z1 => (vaa _))
def vmf (x : (Int × Int × (List van))) (k : (Int × Int × (List van)) ⊕ (Int × Int × (List van)) → Option Res) : Option Res :=
 bif (decide (x.2.1 < (x.2.2.length : Int))) then
 vcp x.1 (fun y2 =>
 if 0 ≤ x.2.1 ∧ x.2.1 < (x.2.2.length : Int) then
 vcp (IntKind.wrap .i64 (x.1 + (1 : Int))) (fun y3 =>
 if 0 ≤ x.2.1 ∧ x.2.1 < ((x.2.2.set x.2.1.toNat (y2, (x.2.2.getD x.2.1.toNat (Ty.zero tRange)).2)).length : Int) then
 k (.inl ((IntKind.wrap .i64 ((IntKind.wrap .i64 (x.1 + (1 : Int))) + (1 : Int))), (IntKind.wrap .i64 (x.2.1 + (1 : Int))), ((x.2.2.set x.2.1.toNat (y2, (x.2.2.getD x.2.1.toNat (Ty.zero tRange)).2)).set x.2.1.toNat (((x.2.2.set x.2.1.toNat (y2, (x.2.2.getD x.2.1.toNat (Ty.zero tRange)).2)).getD x.2.1.toNat (Ty.zero tRange)).1, y3))))
 else none)
 else none)
 else
 k (.inr (x.1, x.2.1, x.2.2))
theorem wfz (x : (Int × Int × (List van))) : Par (vmf x) := by
  unfold vmf
  exact (vab ((vix _).bind fun y2 => (vak ((vix _).bind fun y3 => (vak (vaa _) vaf)) vaf)) (vaa _))
def wd2 (a0 : Int) (a1 : (List van)) (k : (Int × (List van)) → Option Res) : Option Res :=
 vai vmf Fuel (a0, (0 : Int), a1) (fun z1 =>
 k (z1.1, z1.2.2))
def v1x := shut wd2
theorem wmw : v1x = wd2 := vap _
theorem wud (a0 : Int) (a1 : (List van)) : Par (v1x a0 a1) := by
  rw [wmw]
  unfold wd2
  exact ((vav wfz _ _).bind fun z1 => (vaa _))
def vm8 (x : (Int × Int × (List vam))) (k : (Int × Int × (List vam)) ⊕ (Int × Int × (List vam)) → Option Res) : Option Res :=
 bif (decide (x.2.1 < (x.2.2.length : Int))) then
 vcp x.1 (fun y2 =>
 if 0 ≤ x.2.1 ∧ x.2.1 < (x.2.2.length : Int) then
 vcp (IntKind.wrap .i64 (x.1 + (1 : Int))) (fun y3 =>
 if 0 ≤ x.2.1 ∧ x.2.1 < ((x.2.2.set x.2.1.toNat (y2, (x.2.2.getD x.2.1.toNat (Ty.zero tWrite)).2)).length : Int) then
 if 0 ≤ x.2.1 ∧ x.2.1 < (((x.2.2.set x.2.1.toNat (y2, (x.2.2.getD x.2.1.toNat (Ty.zero tWrite)).2)).set x.2.1.toNat (((x.2.2.set x.2.1.toNat (y2, (x.2.2.getD x.2.1.toNat (Ty.zero tWrite)).2)).getD x.2.1.toNat (Ty.zero tWrite)).1, (y3, ((x.2.2.set x.2.1.toNat (y2, (x.2.2.getD x.2.1.toNat (Ty.zero tWrite)).2)).getD x.2.1.toNat (Ty.zero tWrite)).2.2))).length : Int) then
 k (.inl ((IntKind.wrap .i64 ((IntKind.wrap .i64 ((IntKind.wrap .i64 (x.1 + (1 : Int))) + (1 : Int))) + (1 : Int))), (IntKind.wrap .i64 (x.2.1 + (1 : Int))), (((x.2.2.set x.2.1.toNat (y2, (x.2.2.getD x.2.1.toNat (Ty.zero tWrite)).2)).set x.2.1.toNat (((x.2.2.set x.2.1.toNat (y2, (x.2.2.getD x.2.1.toNat (Ty.zero tWrite)).2)).getD x.2.1.toNat (Ty.zero tWrite)).1, (y3, ((x.2.2.set x.2.1.toNat (y2, (x.2.2.getD x.2.1.toNat (Ty.zero tWrite)).2)).getD x.2.1.toNat (Ty.zero tWrite)).2.2))).set x.2.1.toNat ((((x.2.2.set x.2.1.toNat (y2, (x.2.2.getD x.2.1.toNat (Ty.zero tWrite)).2)).set x.2.1.toNat (((x.2.2.set x.2.1.toNat (y2, (x.2.2.getD x.2.1.toNat (Ty.zero tWrite)).2)).getD x.2.1.toNat (Ty.zero tWrite)).1, (y3, ((x.2.2.set x.2.1.toNat (y2, (x.2.2.getD x.2.1.toNat (Ty.zero tWrite)).2)).getD x.2.1.toNat (Ty.zero tWrite)).2.2))).getD x.2.1.toNat (Ty.zero tWrite)).1, ((((x.2.2.set x.2.1.toNat (y2, (x.2.2.getD x.2.1.toNat (Ty.zero tWrite)).2)).set x.2.1.toNat (((x.2.2.set x.2.1.toNat (y2, (x.2.2.getD x.2.1.toNat (Ty.zero tWrite)).2)).getD x.2.1.toNat (Ty.zero tWrite)).1, (y3, ((x.2.2.set x.2.1.toNat (y2, (x.2.2.getD x.2.1.toNat (Ty.zero tWrite)).2)).getD x.2.1.toNat (Ty.zero tWrite)).2.2))).getD x.2.1.toNat (Ty.zero tWrite)).2.1, (((IntKind.wrap .i64 ((IntKind.wrap .i64 (x.1 + (1 : Int))) + (1 : Int))).tmod (3 : Int)) == (0 : Int)))))))
 else none
 else none)
 else none)
 else
 k (.inr (x.1, x.2.1, x.2.2))
theorem wf4 (x : (Int × Int × (List vam))) : Par (vm8 x) := by
  unfold vm8
  exact (vab ((vix _).bind fun y2 => (vak ((vix _).bind fun y3 => (vak (vak (vaa _) vaf) vaf)) vaf)) (vaa _))
def wdu (a0 : Int) (a1 : (List vam)) (k : (Int × (List vam)) → Option Res) : Option Res :=
 vai vm8 Fuel (a0, (0 : Int), a1) (fun z1 =>
 k (z1.1, z1.2.2))
def v14 := shut wdu
theorem wlh : v14 = wdu := vap _
theorem wsz (a0 : Int) (a1 : (List vam)) : Par (v14 a0 a1) := by
  rw [wlh]
  unfold wdu
  exact ((vav wf4 _ _).bind fun z1 => (vaa _))
def vet (x : (Int × Int × (List dTxn))) (k : (Int × Int × (List dTxn)) → Option Res) : Option Res :=
 k (x.1, (IntKind.wrap .i64 (x.2.1 + (1 : Int))), x.2.2)
theorem vp8 (x : (Int × Int × (List dTxn))) : Par (vet x) := by
  unfold vet
  exact (vaa _)
def vef (x : (Int × Int × (List dTxn))) (k : (Int × Int × (List dTxn)) → Option Res) : Option Res :=
 k ((IntKind.wrap .i64 (x.1 + (1 : Int))), x.2.1, x.2.2)
theorem vqk (x : (Int × Int × (List dTxn))) : Par (vef x) := by
  unfold vef
  exact (vaa _)
def ves (x : (Int × Int × (List dTxn))) (k : (Int × Int × (List dTxn)) → Option Res) : Option Res :=
 vcp (IntKind.wrap .i64 (x.1 + (1 : Int))) (fun y10 =>
 if 0 ≤ x.2.1 ∧ x.2.1 < (x.2.2.length : Int) then
 vef ((IntKind.wrap .i64 (x.1 + (1 : Int))), x.2.1, (x.2.2.set x.2.1.toNat ((x.2.2.getD x.2.1.toNat (Ty.zero tTxn)).1, ((x.2.2.getD x.2.1.toNat (Ty.zero tTxn)).2.1, ((x.2.2.getD x.2.1.toNat (Ty.zero tTxn)).2.2.1, ((x.2.2.getD x.2.1.toNat (Ty.zero tTxn)).2.2.2.1, ((x.2.2.getD x.2.1.toNat (Ty.zero tTxn)).2.2.2.2.1, ((x.2.2.getD x.2.1.toNat (Ty.zero tTxn)).2.2.2.2.2.1, ((x.2.2.getD x.2.1.toNat (Ty.zero tTxn)).2.2.2.2.2.2.1, y10))))))))) (fun z11 =>
 k (z11.1, z11.2.1, z11.2.2))
 else none)
theorem vo8 (x : (Int × Int × (List dTxn))) : Par (ves x) := by
  unfold ves
  exact ((vix _).bind fun y10 => (vak ((vqk _).bind fun z11 => (vaa _)) vaf))
def ver (x : (Int × Int × (List dTxn))) (k : (Int × Int × (List dTxn)) → Option Res) : Option Res :=
 if 0 ≤ x.2.1 ∧ x.2.1 < (x.2.2.length : Int) then
 v1x (IntKind.wrap .i64 (x.1 + (1 : Int))) ((x.2.2.getD x.2.1.toNat (Ty.zero tTxn)).2.2.2.2.1) (fun y7 =>
 if 0 ≤ x.2.1 ∧ x.2.1 < ((x.2.2.set x.2.1.toNat ((x.2.2.getD x.2.1.toNat (Ty.zero tTxn)).1, ((x.2.2.getD x.2.1.toNat (Ty.zero tTxn)).2.1, ((x.2.2.getD x.2.1.toNat (Ty.zero tTxn)).2.2.1, ((x.2.2.getD x.2.1.toNat (Ty.zero tTxn)).2.2.2.1, (y7.2, (x.2.2.getD x.2.1.toNat (Ty.zero tTxn)).2.2.2.2.2)))))).length : Int) then
 v14 y7.1 (((x.2.2.set x.2.1.toNat ((x.2.2.getD x.2.1.toNat (Ty.zero tTxn)).1, ((x.2.2.getD x.2.1.toNat (Ty.zero tTxn)).2.1, ((x.2.2.getD x.2.1.toNat (Ty.zero tTxn)).2.2.1, ((x.2.2.getD x.2.1.toNat (Ty.zero tTxn)).2.2.2.1, (y7.2, (x.2.2.getD x.2.1.toNat (Ty.zero tTxn)).2.2.2.2.2)))))).getD x.2.1.toNat (Ty.zero tTxn)).2.2.2.2.2.1) (fun y8 =>
 if 0 ≤ x.2.1 ∧ x.2.1 < (((x.2.2.set x.2.1.toNat ((x.2.2.getD x.2.1.toNat (Ty.zero tTxn)).1, ((x.2.2.getD x.2.1.toNat (Ty.zero tTxn)).2.1, ((x.2.2.getD x.2.1.toNat (Ty.zero tTxn)).2.2.1, ((x.2.2.getD x.2.1.toNat (Ty.zero tTxn)).2.2.2.1, (y7.2, (x.2.2.getD x.2.1.toNat (Ty.zero tTxn)).2.2.2.2.2)))))).set x.2.1.toNat (((x.2.2.set x.2.1.toNat ((x.2.2.getD x.2.1.toNat (Ty.zero tTxn)).1, ((x.2.2.getD x.2.1.toNat (Ty.zero tTxn)).2.1, ((x.2.2.getD x.2.1.toNat (Ty.zero tTxn)).2.2.1, ((x.2.2.getD x.2.1.toNat (Ty.zero tTxn)).2.2.2.1, (y7.2, (x.2.2.getD x.2.1.toNat (Ty.zero tTxn)).2.2.2.2.2)))))).getD x.2.1.toNat (Ty.zero tTxn)).1, (((x.2.2.set x.2.1.toNat ((x.2.2.getD x.2.1.toNat (Ty.zero tTxn)).1, ((x.2.2.getD x.2.1.toNat (Ty.zero tTxn)).2.1, ((x.2.2.getD x.2.1.toNat (Ty.zero tTxn)).2.2.1, ((x.2.2.getD x.2.1.toNat (Ty.zero tTxn)).2.2.2.1, (y7.2, (x.2.2.getD x.2.1.toNat (Ty.zero tTxn)).2.2.2.2.2)))))).getD x.2.1.toNat (Ty.zero tTxn)).2.1, (((x.2.2.set x.2.1.toNat ((x.2.2.getD x.2.1.toNat (Ty.zero tTxn)).1, ((x.2.2.getD x.2.1.toNat (Ty.zero tTxn)).2.1, ((x.2.2.getD x.2.1.toNat (Ty.zero tTxn)).2.2.1, ((x.2.2.getD x.2.1.toNat (Ty.zero tTxn)).2.2.2.1, (y7.2, (x.2.2.getD x.2.1.toNat (Ty.zero tTxn)).2.2.2.2.2)))))).getD x.2.1.toNat (Ty.zero tTxn)).2.2.1, (((x.2.2.set x.2.1.toNat ((x.2.2.getD x.2.1.toNat (Ty.zero tTxn)).1, ((x.2.2.getD x.2.1.toNat (Ty.zero tTxn)).2.1, ((x.2.2.getD x.2.1.toNat (Ty.zero tTxn)).2.2.1, ((x.2.2.getD x.2.1.toNat (Ty.zero tTxn)).2.2.2.1, (y7.2, (x.2.2.getD x.2.1.toNat (Ty.zero tTxn)).2.2.2.2.2)))))).getD x.2.1.toNat (Ty.zero tTxn)).2.2.2.1, (((x.2.2.set x.2.1.toNat ((x.2.2.getD x.2.1.toNat (Ty.zero tTxn)).1, ((x.2.2.getD x.2.1.toNat (Ty.zero tTxn)).2.1, ((x.2.2.getD x.2.1.toNat (Ty.zero tTxn)).2.2.1, ((x.2.2.getD x.2.1.toNat (Ty.zero tTxn)).2.2.2.1, (y7.2, (x.2.2.getD x.2.1.toNat (Ty.zero tTxn)).2.2.2.2.2)))))).getD x.2.1.toNat (Ty.zero tTxn)).2.2.2.2.1, (y8.2, ((x.2.2.set x.2.1.toNat ((x.2.2.getD x.2.1.toNat (Ty.zero tTxn)).1, ((x.2.2.getD x.2.1.toNat (Ty.zero tTxn)).2.1, ((x.2.2.getD x.2.1.toNat (Ty.zero tTxn)).2.2.1, ((x.2.2.getD x.2.1.toNat (Ty.zero tTxn)).2.2.2.1, (y7.2, (x.2.2.getD x.2.1.toNat (Ty.zero tTxn)).2.2.2.2.2)))))).getD x.2.1.toNat (Ty.zero tTxn)).2.2.2.2.2.2))))))).length : Int) then
 ves (y8.1, x.2.1, (((x.2.2.set x.2.1.toNat ((x.2.2.getD x.2.1.toNat (Ty.zero tTxn)).1, ((x.2.2.getD x.2.1.toNat (Ty.zero tTxn)).2.1, ((x.2.2.getD x.2.1.toNat (Ty.zero tTxn)).2.2.1, ((x.2.2.getD x.2.1.toNat (Ty.zero tTxn)).2.2.2.1, (y7.2, (x.2.2.getD x.2.1.toNat (Ty.zero tTxn)).2.2.2.2.2)))))).set x.2.1.toNat (((x.2.2.set x.2.1.toNat ((x.2.2.getD x.2.1.toNat (Ty.zero tTxn)).1, ((x.2.2.getD x.2.1.toNat (Ty.zero tTxn)).2.1, ((x.2.2.getD x.2.1.toNat (Ty.zero tTxn)).2.2.1, ((x.2.2.getD x.2.1.toNat (Ty.zero tTxn)).2.2.2.1, (y7.2, (x.2.2.getD x.2.1.toNat (Ty.zero tTxn)).2.2.2.2.2)))))).getD x.2.1.toNat (Ty.zero tTxn)).1, (((x.2.2.set x.2.1.toNat ((x.2.2.getD x.2.1.toNat (Ty.zero tTxn)).1, ((x.2.2.getD x.2.1.toNat (Ty.zero tTxn)).2.1, ((x.2.2.getD x.2.1.toNat (Ty.zero tTxn)).2.2.1, ((x.2.2.getD x.2.1.toNat (Ty.zero tTxn)).2.2.2.1, (y7.2, (x.2.2.getD x.2.1.toNat (Ty.zero tTxn)).2.2.2.2.2)))))).getD x.2.1.toNat (Ty.zero tTxn)).2.1, (((x.2.2.set x.2.1.toNat ((x.2.2.getD x.2.1.toNat (Ty.zero tTxn)).1, ((x.2.2.getD x.2.1.toNat (Ty.zero tTxn)).2.1, ((x.2.2.getD x.2.1.toNat (Ty.zero tTxn)).2.2.1, ((x.2.2.getD x.2.1.toNat (Ty.zero tTxn)).2.2.2.1, (y7.2, (x.2.2.getD x.2.1.toNat (Ty.zero tTxn)).2.2.2.2.2)))))).getD x.2.1.toNat (Ty.zero tTxn)).2.2.1, (((x.2.2.set x.2.1.toNat ((x.2.2.getD x.2.1.toNat (Ty.zero tTxn)).1, ((x.2.2.getD x.2.1.toNat (Ty.zero tTxn)).2.1, ((x.2.2.getD x.2.1.toNat (Ty.zero tTxn)).2.2.1, ((x.2.2.getD x.2.1.toNat (Ty.zero tTxn)).2.2.2.1, (y7.2, (x.2.2.getD x.2.1.toNat (Ty.zero tTxn)).2.2.2.2.2)))))).getD x.2.1.toNat (Ty.zero tTxn)).2.2.2.1, (((x.2.2.set x.2.1.toNat ((x.2.2.getD x.2.1.toNat (Ty.zero tTxn)).1, ((x.2.2.getD x.2.1.toNat (Ty.zero tTxn)).2.1, ((x.2.2.getD x.2.1.toNat (Ty.zero tTxn)).2.2.1, ((x.2.2.getD x.2.1.toNat (Ty.zero tTxn)).2.2.2.1, (y7.2, (x.2.2.getD x.2.1.toNat (Ty.zero tTxn)).2.2.2.2.2)))))).getD x.2.1.toNat (Ty.zero tTxn)).2.2.2.2.1, (y8.2, ((x.2.2.set x.2.1.toNat ((x.2.2.getD x.2.1.toNat (Ty.zero tTxn)).1, ((x.2.2.getD x.2.1.toNat (Ty.zero tTxn)).2.1, ((x.2.2.getD x.2.1.toNat (Ty.zero tTxn)).2.2.1, ((x.2.2.getD x.2.1.toNat (Ty.zero tTxn)).2.2.2.1, (y7.2, (x.2.2.getD x.2.1.toNat (Ty.zero tTxn)).2.2.2.2.2)))))).getD x.2.1.toNat (Ty.zero tTxn)).2.2.2.2.2.2))))))).set x.2.1.toNat ((((x.2.2.set x.2.1.toNat ((x.2.2.getD x.2.1.toNat (Ty.zero tTxn)).1, ((x.2.2.getD x.2.1.toNat (Ty.zero tTxn)).2.1, ((x.2.2.getD x.2.1.toNat (Ty.zero tTxn)).2.2.1, ((x.2.2.getD x.2.1.toNat (Ty.zero tTxn)).2.2.2.1, (y7.2, (x.2.2.getD x.2.1.toNat (Ty.zero tTxn)).2.2.2.2.2)))))).set x.2.1.toNat (((x.2.2.set x.2.1.toNat ((x.2.2.getD x.2.1.toNat (Ty.zero tTxn)).1, ((x.2.2.getD x.2.1.toNat (Ty.zero tTxn)).2.1, ((x.2.2.getD x.2.1.toNat (Ty.zero tTxn)).2.2.1, ((x.2.2.getD x.2.1.toNat (Ty.zero tTxn)).2.2.2.1, (y7.2, (x.2.2.getD x.2.1.toNat (Ty.zero tTxn)).2.2.2.2.2)))))).getD x.2.1.toNat (Ty.zero tTxn)).1, (((x.2.2.set x.2.1.toNat ((x.2.2.getD x.2.1.toNat (Ty.zero tTxn)).1, ((x.2.2.getD x.2.1.toNat (Ty.zero tTxn)).2.1, ((x.2.2.getD x.2.1.toNat (Ty.zero tTxn)).2.2.1, ((x.2.2.getD x.2.1.toNat (Ty.zero tTxn)).2.2.2.1, (y7.2, (x.2.2.getD x.2.1.toNat (Ty.zero tTxn)).2.2.2.2.2)))))).getD x.2.1.toNat (Ty.zero tTxn)).2.1, (((x.2.2.set x.2.1.toNat ((x.2.2.getD x.2.1.toNat (Ty.zero tTxn)).1, ((x.2.2.getD x.2.1.toNat (Ty.zero tTxn)).2.1, ((x.2.2.getD x.2.1.toNat (Ty.zero tTxn)).2.2.1, ((x.2.2.getD x.2.1.toNat (Ty.zero tTxn)).2.2.2.1, (y7.2, (x.2.2.getD x.2.1.toNat (Ty.zero tTxn)).2.2.2.2.2)))))).getD x.2.1.toNat (Ty.zero tTxn)).2.2.1, (((x.2.2.set x.2.1.toNat ((x.2.2.getD x.2.1.toNat (Ty.zero tTxn)).1, ((x.2.2.getD x.2.1.toNat (Ty.zero tTxn)).2.1, ((x.2.2.getD x.2.1.toNat (Ty.zero tTxn)).2.2.1, ((x.2.2.getD x.2.1.toNat (Ty.zero tTxn)).2.2.2.1, (y7.2, (x.2.2.getD x.2.1.toNat (Ty.zero tTxn)).2.2.2.2.2)))))).getD x.2.1.toNat (Ty.zero tTxn)).2.2.2.1, (((x.2.2.set x.2.1.toNat ((x.2.2.getD x.2.1.toNat (Ty.zero tTxn)).1, ((x.2.2.getD x.2.1.toNat (Ty.zero tTxn)).2.1, ((x.2.2.getD x.2.1.toNat (Ty.zero tTxn)).2.2.1, ((x.2.2.getD x.2.1.toNat (Ty.zero tTxn)).2.2.2.1, (y7.2, (x.2.2.getD x.2.1.toNat (Ty.zero tTxn)).2.2.2.2.2)))))).getD x.2.1.toNat (Ty.zero tTxn)).2.2.2.2.1, (y8.2, ((x.2.2.set x.2.1.toNat ((x.2.2.getD x.2.1.toNat (Ty.zero tTxn)).1, ((x.2.2.getD x.2.1.toNat (Ty.zero tTxn)).2.1, ((x.2.2.getD x.2.1.toNat (Ty.zero tTxn)).2.2.1, ((x.2.2.getD x.2.1.toNat (Ty.zero tTxn)).2.2.2.1, (y7.2, (x.2.2.getD x.2.1.toNat (Ty.zero tTxn)).2.2.2.2.2)))))).getD x.2.1.toNat (Ty.zero tTxn)).2.2.2.2.2.2))))))).getD x.2.1.toNat (Ty.zero tTxn)).1, ((((x.2.2.set x.2.1.toNat ((x.2.2.getD x.2.1.toNat (Ty.zero tTxn)).1, ((x.2.2.getD x.2.1.toNat (Ty.zero tTxn)).2.1, ((x.2.2.getD x.2.1.toNat (Ty.zero tTxn)).2.2.1, ((x.2.2.getD x.2.1.toNat (Ty.zero tTxn)).2.2.2.1, (y7.2, (x.2.2.getD x.2.1.toNat (Ty.zero tTxn)).2.2.2.2.2)))))).set x.2.1.toNat (((x.2.2.set x.2.1.toNat ((x.2.2.getD x.2.1.toNat (Ty.zero tTxn)).1, ((x.2.2.getD x.2.1.toNat (Ty.zero tTxn)).2.1, ((x.2.2.getD x.2.1.toNat (Ty.zero tTxn)).2.2.1, ((x.2.2.getD x.2.1.toNat (Ty.zero tTxn)).2.2.2.1, (y7.2, (x.2.2.getD x.2.1.toNat (Ty.zero tTxn)).2.2.2.2.2)))))).getD x.2.1.toNat (Ty.zero tTxn)).1, (((x.2.2.set x.2.1.toNat ((x.2.2.getD x.2.1.toNat (Ty.zero tTxn)).1, ((x.2.2.getD x.2.1.toNat (Ty.zero tTxn)).2.1, ((x.2.2.getD x.2.1.toNat (Ty.zero tTxn)).2.2.1, ((x.2.2.getD x.2.1.toNat (Ty.zero tTxn)).2.2.2.1, (y7.2, (x.2.2.getD x.2.1.toNat (Ty.zero tTxn)).2.2.2.2.2)))))).getD x.2.1.toNat (Ty.zero tTxn)).2.1, (((x.2.2.set x.2.1.toNat ((x.2.2.getD x.2.1.toNat (Ty.zero tTxn)).1, ((x.2.2.getD x.2.1.toNat (Ty.zero tTxn)).2.1, ((x.2.2.getD x.2.1.toNat (Ty.zero tTxn)).2.2.1, ((x.2.2.getD x.2.1.toNat (Ty.zero tTxn)).2.2.2.1, (y7.2, (x.2.2.getD x.2.1.toNat (Ty.zero tTxn)).2.2.2.2.2)))))).getD x.2.1.toNat (Ty.zero tTxn)).2.2.1, (((x.2.2.set x.2.1.toNat ((x.2.2.getD x.2.1.toNat (Ty.zero tTxn)).1, ((x.2.2.getD x.2.1.toNat (Ty.zero tTxn)).2.1, ((x.2.2.getD x.2.1.toNat (Ty.zero tTxn)).2.2.1, ((x.2.2.getD x.2.1.toNat (Ty.zero tTxn)).2.2.2.1, (y7.2, (x.2.2.getD x.2.1.toNat (Ty.zero tTxn)).2.2.2.2.2)))))).getD x.2.1.toNat (Ty.zero tTxn)).2.2.2.1, (((x.2.2.set x.2.1.toNat ((x.2.2.getD x.2.1.toNat (Ty.zero tTxn)).1, ((x.2.2.getD x.2.1.toNat (Ty.zero tTxn)).2.1, ((x.2.2.getD x.2.1.toNat (Ty.zero tTxn)).2.2.1, ((x.2.2.getD x.2.1.toNat (Ty.zero tTxn)).2.2.2.1, (y7.2, (x.2.2.getD x.2.1.toNat (Ty.zero tTxn)).2.2.2.2.2)))))).getD x.2.1.toNat (Ty.zero tTxn)).2.2.2.2.1, (y8.2, ((x.2.2.set x.2.1.toNat ((x.2.2.getD x.2.1.toNat (Ty.zero tTxn)).1, ((x.2.2.getD x.2.1.toNat (Ty.zero tTxn)).2.1, ((x.2.2.getD x.2.1.toNat (Ty.zero tTxn)).2.2.1, ((x.2.2.getD x.2.1.toNat (Ty.zero tTxn)).2.2.2.1, (y7.2, (x.2.2.getD x.2.1.toNat (Ty.zero tTxn)).2.2.2.2.2)))))).getD x.2.1.toNat (Ty.zero tTxn)).2.2.2.2.2.2))))))).getD x.2.1.toNat (Ty.zero tTxn)).2.1, ((((x.2.2.set x.2.1.toNat ((x.2.2.getD x.2.1.toNat (Ty.zero tTxn)).1, ((x.2.2.getD x.2.1.toNat (Ty.zero tTxn)).2.1, ((x.2.2.getD x.2.1.toNat (Ty.zero tTxn)).2.2.1, ((x.2.2.getD x.2.1.toNat (Ty.zero tTxn)).2.2.2.1, (y7.2, (x.2.2.getD x.2.1.toNat (Ty.zero tTxn)).2.2.2.2.2)))))).set x.2.1.toNat (((x.2.2.set x.2.1.toNat ((x.2.2.getD x.2.1.toNat (Ty.zero tTxn)).1, ((x.2.2.getD x.2.1.toNat (Ty.zero tTxn)).2.1, ((x.2.2.getD x.2.1.toNat (Ty.zero tTxn)).2.2.1, ((x.2.2.getD x.2.1.toNat (Ty.zero tTxn)).2.2.2.1, (y7.2, (x.2.2.getD x.2.1.toNat (Ty.zero tTxn)).2.2.2.2.2)))))).getD x.2.1.toNat (Ty.zero tTxn)).1, (((x.2.2.set x.2.1.toNat ((x.2.2.getD x.2.1.toNat (Ty.zero tTxn)).1, ((x.2.2.getD x.2.1.toNat (Ty.zero tTxn)).2.1, ((x.2.2.getD x.2.1.toNat (Ty.zero tTxn)).2.2.1, ((x.2.2.getD x.2.1.toNat (Ty.zero tTxn)).2.2.2.1, (y7.2, (x.2.2.getD x.2.1.toNat (Ty.zero tTxn)).2.2.2.2.2)))))).getD x.2.1.toNat (Ty.zero tTxn)).2.1, (((x.2.2.set x.2.1.toNat ((x.2.2.getD x.2.1.toNat (Ty.zero tTxn)).1, ((x.2.2.getD x.2.1.toNat (Ty.zero tTxn)).2.1, ((x.2.2.getD x.2.1.toNat (Ty.zero tTxn)).2.2.1, ((x.2.2.getD x.2.1.toNat (Ty.zero tTxn)).2.2.2.1, (y7.2, (x.2.2.getD x.2.1.toNat (Ty.zero tTxn)).2.2.2.2.2)))))).getD x.2.1.toNat (Ty.zero tTxn)).2.2.1, (((x.2.2.set x.2.1.toNat ((x.2.2.getD x.2.1.toNat (Ty.zero tTxn)).1, ((x.2.2.getD x.2.1.toNat (Ty.zero tTxn)).2.1, ((x.2.2.getD x.2.1.toNat (Ty.zero tTxn)).2.2.1, ((x.2.2.getD x.2.1.toNat (Ty.zero tTxn)).2.2.2.1, (y7.2, (x.2.2.getD x.2.1.toNat (Ty.zero tTxn)).2.2.2.2.2)))))).getD x.2.1.toNat (Ty.zero tTxn)).2.2.2.1, (((x.2.2.set x.2.1.toNat ((x.2.2.getD x.2.1.toNat (Ty.zero tTxn)).1, ((x.2.2.getD x.2.1.toNat (Ty.zero tTxn)).2.1, ((x.2.2.getD x.2.1.toNat (Ty.zero tTxn)).2.2.1, ((x.2.2.getD x.2.1.toNat (Ty.zero tTxn)).2.2.2.1, (y7.2, (x.2.2.getD x.2.1.toNat (Ty.zero tTxn)).2.2.2.2.2)))))).getD x.2.1.toNat (Ty.zero tTxn)).2.2.2.2.1, (y8.2, ((x.2.2.set x.2.1.toNat ((x.2.2.getD x.2.1.toNat (Ty.zero tTxn)).1, ((x.2.2.getD x.2.1.toNat (Ty.zero tTxn)).2.1, ((x.2.2.getD x.2.1.toNat (Ty.zero tTxn)).2.2.1, ((x.2.2.getD x.2.1.toNat (Ty.zero tTxn)).2.2.2.1, (y7.2, (x.2.2.getD x.2.1.toNat (Ty.zero tTxn)).2.2.2.2.2)))))).getD x.2.1.toNat (Ty.zero tTxn)).2.2.2.2.2.2))))))).getD x.2.1.toNat (Ty.zero tTxn)).2.2.1, ((((x.2.2.set x.2.1.toNat ((x.2.2.getD x.2.1.toNat (Ty.zero tTxn)).1, ((x.2.2.getD x.2.1.toNat (Ty.zero tTxn)).2.1, ((x.2.2.getD x.2.1.toNat (Ty.zero tTxn)).2.2.1, ((x.2.2.getD x.2.1.toNat (Ty.zero tTxn)).2.2.2.1, (y7.2, (x.2.2.getD x.2.1.toNat (Ty.zero tTxn)).2.2.2.2.2)))))).set x.2.1.toNat (((x.2.2.set x.2.1.toNat ((x.2.2.getD x.2.1.toNat (Ty.zero tTxn)).1, ((x.2.2.getD x.2.1.toNat (Ty.zero tTxn)).2.1, ((x.2.2.getD x.2.1.toNat (Ty.zero tTxn)).2.2.1, ((x.2.2.getD x.2.1.toNat (Ty.zero tTxn)).2.2.2.1, (y7.2, (x.2.2.getD x.2.1.toNat (Ty.zero tTxn)).2.2.2.2.2)))))).getD x.2.1.toNat (Ty.zero tTxn)).1, (((x.2.2.set x.2.1.toNat ((x.2.2.getD x.2.1.toNat (Ty.zero tTxn)).1, ((x.2.2.getD x.2.1.toNat (Ty.zero tTxn)).2.1, ((x.2.2.getD x.2.1.toNat (Ty.zero tTxn)).2.2.1, ((x.2.2.getD x.2.1.toNat (Ty.zero tTxn)).2.2.2.1, (y7.2, (x.2.2.getD x.2.1.toNat (Ty.zero tTxn)).2.2.2.2.2)))))).getD x.2.1.toNat (Ty.zero tTxn)).2.1, (((x.2.2.set x.2.1.toNat ((x.2.2.getD x.2.1.toNat (Ty.zero tTxn)).1, ((x.2.2.getD x.2.1.toNat (Ty.zero tTxn)).2.1, ((x.2.2.getD x.2.1.toNat (Ty.zero tTxn)).2.2.1, ((x.2.2.getD x.2.1.toNat (Ty.zero tTxn)).2.2.2.1, (y7.2, (x.2.2.getD x.2.1.toNat (Ty.zero tTxn)).2.2.2.2.2)))))).getD x.2.1.toNat (Ty.zero tTxn)).2.2.1, (((x.2.2.set x.2.1.toNat ((x.2.2.getD x.2.1.toNat (Ty.zero tTxn)).1, ((x.2.2.getD x.2.1.toNat (Ty.zero tTxn)).2.1, ((x.2.2.getD x.2.1.toNat (Ty.zero tTxn)).2.2.1, ((x.2.2.getD x.2.1.toNat (Ty.zero tTxn)).2.2.2.1, (y7.2, (x.2.2.getD x.2.1.toNat (Ty.zero tTxn)).2.2.2.2.2)))))).getD x.2.1.toNat (Ty.zero tTxn)).2.2.2.1, (((x.2.2.set x.2.1.toNat ((x.2.2.getD x.2.1.toNat (Ty.zero tTxn)).1, ((x.2.2.getD x.2.1.toNat (Ty.zero tTxn)).2.1, ((x.2.2.getD x.2.1.toNat (Ty.zero tTxn)).2.2.1, ((x.2.2.getD x.2.1.toNat (Ty.zero tTxn)).2.2.2.1, (y7.2, (x.2.2.getD x.2.1.toNat (Ty.zero tTxn)).2.2.2.2.2)))))).getD x.2.1.toNat (Ty.zero tTxn)).2.2.2.2.1, (y8.2, ((x.2.2.set x.2.1.toNat ((x.2.2.getD x.2.1.toNat (Ty.zero tTxn)).1, ((x.2.2.getD x.2.1.toNat (Ty.zero tTxn)).2.1, ((x.2.2.getD x.2.1.toNat (Ty.zero tTxn)).2.2.1, ((x.2.2.getD x.2.1.toNat (Ty.zero tTxn)).2.2.2.1, (y7.2, (x.2.2.getD x.2.1.toNat (Ty.zero tTxn)).2.2.2.2.2)))))).getD x.2.1.toNat (Ty.zero tTxn)).2.2.2.2.2.2))))))).getD x.2.1.toNat (Ty.zero tTxn)).2.2.2.1, ((((x.2.2.set x.2.1.toNat ((x.2.2.getD x.2.1.toNat (Ty.zero tTxn)).1, ((x.2.2.getD x.2.1.toNat (Ty.zero tTxn)).2.1, ((x.2.2.getD x.2.1.toNat (Ty.zero tTxn)).2.2.1, ((x.2.2.getD x.2.1.toNat (Ty.zero tTxn)).2.2.2.1, (y7.2, (x.2.2.getD x.2.1.toNat (Ty.zero tTxn)).2.2.2.2.2)))))).set x.2.1.toNat (((x.2.2.set x.2.1.toNat ((x.2.2.getD x.2.1.toNat (Ty.zero tTxn)).1, ((x.2.2.getD x.2.1.toNat (Ty.zero tTxn)).2.1, ((x.2.2.getD x.2.1.toNat (Ty.zero tTxn)).2.2.1, ((x.2.2.getD x.2.1.toNat (Ty.zero tTxn)).2.2.2.1, (y7.2, (x.2.2.getD x.2.1.toNat (Ty.zero tTxn)).2.2.2.2.2)))))).getD x.2.1.toNat (Ty.zero tTxn)).1, (((x.2.2.set x.2.1.toNat ((x.2.2.getD x.2.1.toNat (Ty.zero tTxn)).1, ((x.2.2.getD x.2.1.toNat (Ty.zero tTxn)).2.1, ((x.2.2.getD x.2.1.toNat (Ty.zero tTxn)).2.2.1, ((x.2.2.getD x.2.1.toNat (Ty.zero tTxn)).2.2.2.1, (y7.2, (x.2.2.getD x.2.1.toNat (Ty.zero tTxn)).2.2.2.2.2)))))).getD x.2.1.toNat (Ty.zero tTxn)).2.1, (((x.2.2.set x.2.1.toNat ((x.2.2.getD x.2.1.toNat (Ty.zero tTxn)).1, ((x.2.2.getD x.2.1.toNat (Ty.zero tTxn)).2.1, ((x.2.2.getD x.2.1.toNat (Ty.zero tTxn)).2.2.1, ((x.2.2.getD x.2.1.toNat (Ty.zero tTxn)).2.2.2.1, (y7.2, (x.2.2.getD x.2.1.toNat (Ty.zero tTxn)).2.2.2.2.2)))))).getD x.2.1.toNat (Ty.zero tTxn)).2.2.1, (((x.2.2.set x.2.1.toNat ((x.2.2.getD x.2.1.toNat (Ty.zero tTxn)).1, ((x.2.2.getD x.2.1.toNat (Ty.zero tTxn)).2.1, ((x.2.2.getD x.2.1.toNat (Ty.zero tTxn)).2.2.1, ((x.2.2.getD x.2.1.toNat (Ty.zero tTxn)).2.2.2.1, (y7.2, (x.2.2.getD x.2.1.toNat (Ty.zero tTxn)).2.2.2.2.2)))))).getD x.2.1.toNat (Ty.zero tTxn)).2.2.2.1, (((x.2.2.set x.2.1.toNat ((x.2.2.getD x.2.1.toNat (Ty.zero tTxn)).1, ((x.2.2.getD x.2.1.toNat (Ty.zero tTxn)).2.1, ((x.2.2.getD x.2.1.toNat (Ty.zero tTxn)).2.2.1, ((x.2.2.getD x.2.1.toNat (Ty.zero tTxn)).2.2.2.1, (y7.2, (x.2.2.getD x.2.1.toNat (Ty.zero tTxn)).2.2.2.2.2)))))).getD x.2.1.toNat (Ty.zero tTxn)).2.2.2.2.1, (y8.2, ((x.2.2.set x.2.1.toNat ((x.2.2.getD x.2.1.toNat (Ty.zero tTxn)).1, ((x.2.2.getD x.2.1.toNat (Ty.zero tTxn)).2.1, ((x.2.2.getD x.2.1.toNat (Ty.zero tTxn)).2.2.1, ((x.2.2.getD x.2.1.toNat (Ty.zero tTxn)).2.2.2.1, (y7.2, (x.2.2.getD x.2.1.toNat (Ty.zero tTxn)).2.2.2.2.2)))))).getD x.2.1.toNat (Ty.zero tTxn)).2.2.2.2.2.2))))))).getD x.2.1.toNat (Ty.zero tTxn)).2.2.2.2.1, ((((x.2.2.set x.2.1.toNat ((x.2.2.getD x.2.1.toNat (Ty.zero tTxn)).1, ((x.2.2.getD x.2.1.toNat (Ty.zero tTxn)).2.1, ((x.2.2.getD x.2.1.toNat (Ty.zero tTxn)).2.2.1, ((x.2.2.getD x.2.1.toNat (Ty.zero tTxn)).2.2.2.1, (y7.2, (x.2.2.getD x.2.1.toNat (Ty.zero tTxn)).2.2.2.2.2)))))).set x.2.1.toNat (((x.2.2.set x.2.1.toNat ((x.2.2.getD x.2.1.toNat (Ty.zero tTxn)).1, ((x.2.2.getD x.2.1.toNat (Ty.zero tTxn)).2.1, ((x.2.2.getD x.2.1.toNat (Ty.zero tTxn)).2.2.1, ((x.2.2.getD x.2.1.toNat (Ty.zero tTxn)).2.2.2.1, (y7.2, (x.2.2.getD x.2.1.toNat (Ty.zero tTxn)).2.2.2.2.2)))))).getD x.2.1.toNat (Ty.zero tTxn)).1, (((x.2.2.set x.2.1.toNat ((x.2.2.getD x.2.1.toNat (Ty.zero tTxn)).1, ((x.2.2.getD x.2.1.toNat (Ty.zero tTxn)).2.1, ((x.2.2.getD x.2.1.toNat (Ty.zero tTxn)).2.2.1, ((x.2.2.getD x.2.1.toNat (Ty.zero tTxn)).2.2.2.1, (y7.2, (x.2.2.getD x.2.1.toNat (Ty.zero tTxn)).2.2.2.2.2)))))).getD x.2.1.toNat (Ty.zero tTxn)).2.1, (((x.2.2.set x.2.1.toNat ((x.2.2.getD x.2.1.toNat (Ty.zero tTxn)).1, ((x.2.2.getD x.2.1.toNat (Ty.zero tTxn)).2.1, ((x.2.2.getD x.2.1.toNat (Ty.zero tTxn)).2.2.1, ((x.2.2.getD x.2.1.toNat (Ty.zero tTxn)).2.2.2.1, (y7.2, (x.2.2.getD x.2.1.toNat (Ty.zero tTxn)).2.2.2.2.2)))))).getD x.2.1.toNat (Ty.zero tTxn)).2.2.1, (((x.2.2.set x.2.1.toNat ((x.2.2.getD x.2.1.toNat (Ty.zero tTxn)).1, ((x.2.2.getD x.2.1.toNat (Ty.zero tTxn)).2.1, ((x.2.2.getD x.2.1.toNat (Ty.zero tTxn)).2.2.1, ((x.2.2.getD x.2.1.toNat (Ty.zero tTxn)).2.2.2.1, (y7.2, (x.2.2.getD x.2.1.toNat (Ty.zero tTxn)).2.2.2.2.2)))))).getD x.2.1.toNat (Ty.zero tTxn)).2.2.2.1, (((x.2.2.set x.2.1.toNat ((x.2.2.getD x.2.1.toNat (Ty.zero tTxn)).1, ((x.2.2.getD x.2.1.toNat (Ty.zero tTxn)).2.1, ((x.2.2.getD x.2.1.toNat (Ty.zero tTxn)).2.2.1, ((x.2.2.getD x.2.1.toNat (Ty.zero tTxn)).2.2.2.1, (y7.2, (x.2.2.getD x.2.1.toNat (Ty.zero tTxn)).2.2.2.2.2)))))).getD x.2.1.toNat (Ty.zero tTxn)).2.2.2.2.1, (y8.2, ((x.2.2.set x.2.1.toNat ((x.2.2.getD x.2.1.toNat (Ty.zero tTxn)).1, ((x.2.2.getD x.2.1.toNat (Ty.zero tTxn)).2.1, ((x.2.2.getD x.2.1.toNat (Ty.zero tTxn)).2.2.1, ((x.2.2.getD x.2.1.toNat (Ty.zero tTxn)).2.2.2.1, (y7.2, (x.2.2.getD x.2.1.toNat (Ty.zero tTxn)).2.2.2.2.2)))))).getD x.2.1.toNat (Ty.zero tTxn)).2.2.2.2.2.2))))))).getD x.2.1.toNat (Ty.zero tTxn)).2.2.2.2.2.1, (((y8.1.tmod (3 : Int)) == (0 : Int)), (((x.2.2.set x.2.1.toNat ((x.2.2.getD x.2.1.toNat (Ty.zero tTxn)).1, ((x.2.2.getD x.2.1.toNat (Ty.zero tTxn)).2.1, ((x.2.2.getD x.2.1.toNat (Ty.zero tTxn)).2.2.1, ((x.2.2.getD x.2.1.toNat (Ty.zero tTxn)).2.2.2.1, (y7.2, (x.2.2.getD x.2.1.toNat (Ty.zero tTxn)).2.2.2.2.2)))))).set x.2.1.toNat (((x.2.2.set x.2.1.toNat ((x.2.2.getD x.2.1.toNat (Ty.zero tTxn)).1, ((x.2.2.getD x.2.1.toNat (Ty.zero tTxn)).2.1, ((x.2.2.getD x.2.1.toNat (Ty.zero tTxn)).2.2.1, ((x.2.2.getD x.2.1.toNat (Ty.zero tTxn)).2.2.2.1, (y7.2, (x.2.2.getD x.2.1.toNat (Ty.zero tTxn)).2.2.2.2.2)))))).getD x.2.1.toNat (Ty.zero tTxn)).1, (((x.2.2.set x.2.1.toNat ((x.2.2.getD x.2.1.toNat (Ty.zero tTxn)).1, ((x.2.2.getD x.2.1.toNat (Ty.zero tTxn)).2.1, ((x.2.2.getD x.2.1.toNat (Ty.zero tTxn)).2.2.1, ((x.2.2.getD x.2.1.toNat (Ty.zero tTxn)).2.2.2.1, (y7.2, (x.2.2.getD x.2.1.toNat (Ty.zero tTxn)).2.2.2.2.2)))))).getD x.2.1.toNat (Ty.zero tTxn)).2.1, (((x.2.2.set x.2.1.toNat ((x.2.2.getD x.2.1.toNat (Ty.zero tTxn)).1, ((x.2.2.getD x.2.1.toNat (Ty.zero tTxn)).2.1, ((x.2.2.getD x.2.1.toNat (Ty.zero tTxn)).2.2.1, ((x.2.2.getD x.2.1.toNat (Ty.zero tTxn)).2.2.2.1, (y7.2, (x.2.2.getD x.2.1.toNat (Ty.zero tTxn)).2.2.2.2.2)))))).getD x.2.1.toNat (Ty.zero tTxn)).2.2.1, (((x.2.2.set x.2.1.toNat ((x.2.2.getD x.2.1.toNat (Ty.zero tTxn)).1, ((x.2.2.getD x.2.1.toNat (Ty.zero tTxn)).2.1, ((x.2.2.getD x.2.1.toNat (Ty.zero tTxn)).2.2.1, ((x.2.2.getD x.2.1.toNat (Ty.zero tTxn)).2.2.2.1, (y7.2, (x.2.2.getD x.2.1.toNat (Ty.zero tTxn)).2.2.2.2.2)))))).getD x.2.1.toNat (Ty.zero tTxn)).2.2.2.1, (((x.2.2.set x.2.1.toNat ((x.2.2.getD x.2.1.toNat (Ty.zero tTxn)).1, ((x.2.2.getD x.2.1.toNat (Ty.zero tTxn)).2.1, ((x.2.2.getD x.2.1.toNat (Ty.zero tTxn)).2.2.1, ((x.2.2.getD x.2.1.toNat (Ty.zero tTxn)).2.2.2.1, (y7.2, (x.2.2.getD x.2.1.toNat (Ty.zero tTxn)).2.2.2.2.2)))))).getD x.2.1.toNat (Ty.zero tTxn)).2.2.2.2.1, (y8.2, ((x.2.2.set x.2.1.toNat ((x.2.2.getD x.2.1.toNat (Ty.zero tTxn)).1, ((x.2.2.getD x.2.1.toNat (Ty.zero tTxn)).2.1, ((x.2.2.getD x.2.1.toNat (Ty.zero tTxn)).2.2.1, ((x.2.2.getD x.2.1.toNat (Ty.zero tTxn)).2.2.2.1, (y7.2, (x.2.2.getD x.2.1.toNat (Ty.zero tTxn)).2.2.2.2.2)))))).getD x.2.1.toNat (Ty.zero tTxn)).2.2.2.2.2.2))))))).getD x.2.1.toNat (Ty.zero tTxn)).2.2.2.2.2.2.2))))))))) (fun z9 =>
 k (z9.1, z9.2.1, z9.2.2))
 else none)
 else none)
 else none
theorem vp0 (x : (Int × Int × (List dTxn))) : Par (ver x) := by
  unfold ver
  exact (vak ((wud _ _).bind fun y7 => (vak ((wsz _ _).bind fun y8 => (vak ((vo8 _).bind fun z9 => (vaa _)) vaf)) vaf)) vaf)
def vea (x : (Int × Int × (List dTxn))) (k : (Int × Int × (List dTxn)) → Option Res) : Option Res :=
 if 0 ≤ x.2.1 ∧ x.2.1 < (x.2.2.length : Int) then
 ver ((IntKind.wrap .i64 (x.1 + (1 : Int))), x.2.1, (x.2.2.set x.2.1.toNat ((x.2.2.getD x.2.1.toNat (Ty.zero tTxn)).1, ((x.2.2.getD x.2.1.toNat (Ty.zero tTxn)).2.1, ((x.2.2.getD x.2.1.toNat (Ty.zero tTxn)).2.2.1, ((IntKind.wrap .i64 (x.1 + (1 : Int))), (x.2.2.getD x.2.1.toNat (Ty.zero tTxn)).2.2.2.2)))))) (fun z6 =>
 k (z6.1, z6.2.1, z6.2.2))
 else none
theorem vp5 (x : (Int × Int × (List dTxn))) : Par (vea x) := by
  unfold vea
  exact (vak ((vp0 _).bind fun z6 => (vaa _)) vaf)
def ven (x : (Int × Int × (List dTxn))) (k : (Int × Int × (List dTxn)) → Option Res) : Option Res :=
 if 0 ≤ x.2.1 ∧ x.2.1 < (x.2.2.length : Int) then
 vea ((IntKind.wrap .i64 (x.1 + (1 : Int))), x.2.1, (x.2.2.set x.2.1.toNat ((x.2.2.getD x.2.1.toNat (Ty.zero tTxn)).1, ((x.2.2.getD x.2.1.toNat (Ty.zero tTxn)).2.1, ((IntKind.wrap .i64 (x.1 + (1 : Int))), (x.2.2.getD x.2.1.toNat (Ty.zero tTxn)).2.2.2))))) (fun z5 =>
 k (z5.1, z5.2.1, z5.2.2))
 else none
theorem vp6 (x : (Int × Int × (List dTxn))) : Par (ven x) := by
  unfold ven
  exact (vak ((vp5 _).bind fun z5 => (vaa _)) vaf)
def vem (x : (Int × Int × (List dTxn))) (k : (Int × Int × (List dTxn)) → Option Res) : Option Res :=
 if 0 ≤ x.2.1 ∧ x.2.1 < (x.2.2.length : Int) then
 ven ((IntKind.wrap .i64 (x.1 + (1 : Int))), x.2.1, (x.2.2.set x.2.1.toNat ((x.2.2.getD x.2.1.toNat (Ty.zero tTxn)).1, ((IntKind.wrap .i64 (x.1 + (1 : Int))), (x.2.2.getD x.2.1.toNat (Ty.zero tTxn)).2.2)))) (fun z4 =>
 k (z4.1, z4.2.1, z4.2.2))
 else none
theorem vqy (x : (Int × Int × (List dTxn))) : Par (vem x) := by
  unfold vem
  exact (vak ((vp6 _).bind fun z4 => (vaa _)) vaf)
def vll (x : (Int × Int × (List dTxn))) (k : (Int × Int × (List dTxn)) ⊕ (Int × Int × (List dTxn)) → Option Res) : Option Res :=
 bif (decide (x.2.1 < (x.2.2.length : Int))) then
 if 0 ≤ x.2.1 ∧ x.2.1 < (x.2.2.length : Int) then
 vem (x.1, x.2.1, (x.2.2.set x.2.1.toNat (x.1, (x.2.2.getD x.2.1.toNat (Ty.zero tTxn)).2))) (fun z2 =>
 vet (z2.1, z2.2.1, z2.2.2) (fun z3 =>
 k (.inl (z3.1, z3.2.1, z3.2.2))))
 else none
 else
 k (.inr (x.1, x.2.1, x.2.2))
theorem wek (x : (Int × Int × (List dTxn))) : Par (vll x) := by
  unfold vll
  exact (vab (vak ((vqy _).bind fun z2 => ((vp8 _).bind fun z3 => (vaa _))) vaf) (vaa _))
def wef (a0 : Int) (a1 : (List dTxn)) (k : (Int × (List dTxn)) → Option Res) : Option Res :=
 vai vll Fuel (a0, (0 : Int), a1) (fun z1 =>
 k (z1.1, z1.2.2))
def vwa := shut wef
theorem wkz : vwa = wef := vap _
theorem wk4 (a0 : Int) (a1 : (List dTxn)) : Par (vwa a0 a1) := by
  rw [wkz]
  unfold wef
  exact ((vav wek _ _).bind fun z1 => (vaa _))
def wfy (a0 : Int) (a1 : Int) (a2 : Int) (a3 : (List vac)) (a4 : (List dTxn)) (a5 : (List dTxn)) (k : q37T → Option Res) : Option Res :=
 v1o a2 a3 (fun y1 =>
 vwa y1.1 a4 (fun y2 =>
 vwa y2.1 a5 (fun y3 =>
 k (y3.1, y1.2, y2.2, y3.2))))
def vu3 := shut wfy
theorem wke : vu3 = wfy := vap _
theorem wnt (a0 : Int) (a1 : Int) (a2 : Int) (a3 : (List vac)) (a4 : (List dTxn)) (a5 : (List dTxn)) : Par (vu3 a0 a1 a2 a3 a4 a5) := by
  rw [wke]
  unfold wfy
  exact ((wsu _ _).bind fun y1 => ((wk4 _ _).bind fun y2 => ((wk4 _ _).bind fun y3 => (vaa _))))
def vkk (x : q11T) (k : q11T ⊕ (q11T ⊕ q11T) → Option Res) : Option Res :=
 bif (decide (x.2.2.2 < (x.1.length : Int))) then
 if 0 ≤ x.2.2.2 ∧ x.2.2.2 < (x.1.length : Int) then
 vcp x.2.1 (fun y3 =>
 bif (!(va9 ((rd (Ty.zero tVersion) x.1 x.2.2.2).1) y3)) then
 k (.inr (.inl (x.1, x.2.1, (-1 : Int), x.2.2.2)))
 else
 if 0 ≤ x.2.2.2 ∧ x.2.2.2 < (x.1.length : Int) then
 vcp (IntKind.wrap .i64 (x.2.1 + (1 : Int))) (fun y4 =>
 bif (!(va9 ((rd (Ty.zero tVersion) x.1 x.2.2.2).2.1) y4)) then
 k (.inr (.inl (x.1, (IntKind.wrap .i64 (x.2.1 + (1 : Int))), (-1 : Int), x.2.2.2)))
 else
 if 0 ≤ x.2.2.2 ∧ x.2.2.2 < (x.1.length : Int) then
 bif (!((rd (Ty.zero tVersion) x.1 x.2.2.2).2.2.1 == (((IntKind.wrap .i64 ((IntKind.wrap .i64 (x.2.1 + (1 : Int))) + (1 : Int))).tmod (3 : Int)) == (0 : Int)))) then
 k (.inr (.inl (x.1, (IntKind.wrap .i64 ((IntKind.wrap .i64 (x.2.1 + (1 : Int))) + (1 : Int))), (-1 : Int), x.2.2.2)))
 else
 if 0 ≤ x.2.2.2 ∧ x.2.2.2 < (x.1.length : Int) then
 bif ((rd (Ty.zero tVersion) x.1 x.2.2.2).2.2.2 != (IntKind.wrap .i64 ((IntKind.wrap .i64 ((IntKind.wrap .i64 (x.2.1 + (1 : Int))) + (1 : Int))) + (1 : Int)))) then
 k (.inr (.inl (x.1, (IntKind.wrap .i64 ((IntKind.wrap .i64 ((IntKind.wrap .i64 (x.2.1 + (1 : Int))) + (1 : Int))) + (1 : Int))), (-1 : Int), x.2.2.2)))
 else
 k (.inl (x.1, (IntKind.wrap .i64 ((IntKind.wrap .i64 ((IntKind.wrap .i64 ((IntKind.wrap .i64 (x.2.1 + (1 : Int))) + (1 : Int))) + (1 : Int))) + (1 : Int))), x.2.2.1, (IntKind.wrap .i64 (x.2.2.2 + (1 : Int)))))
 else none
 else none)
 else none)
 else none
 else
 k (.inr (.inr (x.1, x.2.1, x.2.2.1, x.2.2.2)))
theorem wd9 (x : q11T) : Par (vkk x) := by
  unfold vkk
  exact (vab (vak ((vix _).bind fun y3 => (vab (vaa _) (vak ((vix _).bind fun y4 => (vab (vaa _) (vak (vab (vaa _) (vak (vab (vaa _) (vaa _)) vaf)) vaf))) vaf))) vaf) (vaa _))
def wfg (a0 : (List vac)) (a1 : Int) (k : Int → Option Res) : Option Res :=
 vai vkk Fuel (a0, a1, (0 : Int), (0 : Int)) (Sum.elim (fun z1 =>
 k z1.2.2.1) (fun z2 =>
 k z2.2.1))
def vwf := shut wfg
theorem wi2 : vwf = wfg := vap _
theorem wt6 (a0 : (List vac)) (a1 : Int) : Par (vwf a0 a1) := by
  rw [wi2]
  unfold wfg
  exact ((vav wd9 _ _).bind2 (fun z1 => (vaa _)) (fun z2 => (vaa _)))
def vkw (x : q3T) (k : q3T ⊕ (q3T ⊕ q3T) → Option Res) : Option Res :=
 bif (decide (x.2.2.2 < (x.1.length : Int))) then
 if 0 ≤ x.2.2.2 ∧ x.2.2.2 < (x.1.length : Int) then
 vcp x.2.1 (fun y3 =>
 bif (!(va9 ((rd (Ty.zero tRange) x.1 x.2.2.2).1) y3)) then
 k (.inr (.inl (x.1, x.2.1, (-1 : Int), x.2.2.2)))
 else
 if 0 ≤ x.2.2.2 ∧ x.2.2.2 < (x.1.length : Int) then
 vcp (IntKind.wrap .i64 (x.2.1 + (1 : Int))) (fun y4 =>
 bif (!(va9 ((rd (Ty.zero tRange) x.1 x.2.2.2).2) y4)) then
 k (.inr (.inl (x.1, (IntKind.wrap .i64 (x.2.1 + (1 : Int))), (-1 : Int), x.2.2.2)))
 else
 k (.inl (x.1, (IntKind.wrap .i64 ((IntKind.wrap .i64 (x.2.1 + (1 : Int))) + (1 : Int))), x.2.2.1, (IntKind.wrap .i64 (x.2.2.2 + (1 : Int))))))
 else none)
 else none
 else
 k (.inr (.inr (x.1, x.2.1, x.2.2.1, x.2.2.2)))
theorem wdv (x : q3T) : Par (vkw x) := by
  unfold vkw
  exact (vab (vak ((vix _).bind fun y3 => (vab (vaa _) (vak ((vix _).bind fun y4 => (vab (vaa _) (vaa _))) vaf))) vaf) (vaa _))
def wcz (a0 : (List van)) (a1 : Int) (k : Int → Option Res) : Option Res :=
 vai vkw Fuel (a0, a1, (0 : Int), (0 : Int)) (Sum.elim (fun z1 =>
 k z1.2.2.1) (fun z2 =>
 k z2.2.1))
def vvl := shut wcz
theorem wlr : vvl = wcz := vap _
theorem wub (a0 : (List van)) (a1 : Int) : Par (vvl a0 a1) := by
  rw [wlr]
  unfold wcz
  exact ((vav wdv _ _).bind2 (fun z1 => (vaa _)) (fun z2 => (vaa _)))
def vkj (x : q14T) (k : q14T ⊕ (q14T ⊕ q14T) → Option Res) : Option Res :=
 bif (decide (x.2.2.2 < (x.1.length : Int))) then
 if 0 ≤ x.2.2.2 ∧ x.2.2.2 < (x.1.length : Int) then
 vcp x.2.1 (fun y3 =>
 bif (!(va9 ((rd (Ty.zero tWrite) x.1 x.2.2.2).1) y3)) then
 k (.inr (.inl (x.1, x.2.1, (-1 : Int), x.2.2.2)))
 else
 if 0 ≤ x.2.2.2 ∧ x.2.2.2 < (x.1.length : Int) then
 vcp (IntKind.wrap .i64 (x.2.1 + (1 : Int))) (fun y4 =>
 bif (!(va9 ((rd (Ty.zero tWrite) x.1 x.2.2.2).2.1) y4)) then
 k (.inr (.inl (x.1, (IntKind.wrap .i64 (x.2.1 + (1 : Int))), (-1 : Int), x.2.2.2)))
 else
 if 0 ≤ x.2.2.2 ∧ x.2.2.2 < (x.1.length : Int) then
 bif (!((rd (Ty.zero tWrite) x.1 x.2.2.2).2.2 == (((IntKind.wrap .i64 ((IntKind.wrap .i64 (x.2.1 + (1 : Int))) + (1 : Int))).tmod (3 : Int)) == (0 : Int)))) then
 k (.inr (.inl (x.1, (IntKind.wrap .i64 ((IntKind.wrap .i64 (x.2.1 + (1 : Int))) + (1 : Int))), (-1 : Int), x.2.2.2)))
 else
 k (.inl (x.1, (IntKind.wrap .i64 ((IntKind.wrap .i64 ((IntKind.wrap .i64 (x.2.1 + (1 : Int))) + (1 : Int))) + (1 : Int))), x.2.2.1, (IntKind.wrap .i64 (x.2.2.2 + (1 : Int)))))
 else none)
 else none)
 else none
 else
 k (.inr (.inr (x.1, x.2.1, x.2.2.1, x.2.2.2)))
theorem wdk (x : q14T) : Par (vkj x) := by
  unfold vkj
  exact (vab (vak ((vix _).bind fun y3 => (vab (vaa _) (vak ((vix _).bind fun y4 => (vab (vaa _) (vak (vab (vaa _) (vaa _)) vaf))) vaf))) vaf) (vaa _))
def wff (a0 : (List vam)) (a1 : Int) (k : Int → Option Res) : Option Res :=
 vai vkj Fuel (a0, a1, (0 : Int), (0 : Int)) (Sum.elim (fun z1 =>
 k z1.2.2.1) (fun z2 =>
 k z2.2.1))
def vvk := shut wff
theorem wng : vvk = wff := vap _
theorem wtn (a0 : (List vam)) (a1 : Int) : Par (vvk a0 a1) := by
  rw [wng]
  unfold wff
  exact ((vav wdk _ _).bind2 (fun z1 => (vaa _)) (fun z2 => (vaa _)))
def vkz (x : q7T) (k : q7T ⊕ (q7T ⊕ q7T) → Option Res) : Option Res :=
 bif (decide (x.2.2.2 < (x.1.length : Int))) then
 if 0 ≤ x.2.2.2 ∧ x.2.2.2 < (x.1.length : Int) then
 bif ((rd (Ty.zero tTxn) x.1 x.2.2.2).1 != x.2.1) then
 k (.inr (.inl (x.1, x.2.1, (-1 : Int), x.2.2.2)))
 else
 if 0 ≤ x.2.2.2 ∧ x.2.2.2 < (x.1.length : Int) then
 bif ((rd (Ty.zero tTxn) x.1 x.2.2.2).2.1 != (IntKind.wrap .i64 (x.2.1 + (1 : Int)))) then
 k (.inr (.inl (x.1, (IntKind.wrap .i64 (x.2.1 + (1 : Int))), (-1 : Int), x.2.2.2)))
 else
 if 0 ≤ x.2.2.2 ∧ x.2.2.2 < (x.1.length : Int) then
 bif ((rd (Ty.zero tTxn) x.1 x.2.2.2).2.2.1 != (IntKind.wrap .i64 ((IntKind.wrap .i64 (x.2.1 + (1 : Int))) + (1 : Int)))) then
 k (.inr (.inl (x.1, (IntKind.wrap .i64 ((IntKind.wrap .i64 (x.2.1 + (1 : Int))) + (1 : Int))), (-1 : Int), x.2.2.2)))
 else
 if 0 ≤ x.2.2.2 ∧ x.2.2.2 < (x.1.length : Int) then
 bif ((rd (Ty.zero tTxn) x.1 x.2.2.2).2.2.2.1 != (IntKind.wrap .i64 ((IntKind.wrap .i64 ((IntKind.wrap .i64 (x.2.1 + (1 : Int))) + (1 : Int))) + (1 : Int)))) then
 k (.inr (.inl (x.1, (IntKind.wrap .i64 ((IntKind.wrap .i64 ((IntKind.wrap .i64 (x.2.1 + (1 : Int))) + (1 : Int))) + (1 : Int))), (-1 : Int), x.2.2.2)))
 else
 if 0 ≤ x.2.2.2 ∧ x.2.2.2 < (x.1.length : Int) then
 vvl ((rd (Ty.zero tTxn) x.1 x.2.2.2).2.2.2.2.1) (IntKind.wrap .i64 ((IntKind.wrap .i64 ((IntKind.wrap .i64 ((IntKind.wrap .i64 (x.2.1 + (1 : Int))) + (1 : Int))) + (1 : Int))) + (1 : Int))) (fun y3 =>
 bif (decide (y3 < (0 : Int))) then
 k (.inr (.inl (x.1, y3, (-1 : Int), x.2.2.2)))
 else
 if 0 ≤ x.2.2.2 ∧ x.2.2.2 < (x.1.length : Int) then
 vvk ((rd (Ty.zero tTxn) x.1 x.2.2.2).2.2.2.2.2.1) y3 (fun y4 =>
 bif (decide (y4 < (0 : Int))) then
 k (.inr (.inl (x.1, y4, (-1 : Int), x.2.2.2)))
 else
 if 0 ≤ x.2.2.2 ∧ x.2.2.2 < (x.1.length : Int) then
 bif (!((rd (Ty.zero tTxn) x.1 x.2.2.2).2.2.2.2.2.2.1 == ((y4.tmod (3 : Int)) == (0 : Int)))) then
 k (.inr (.inl (x.1, y4, (-1 : Int), x.2.2.2)))
 else
 if 0 ≤ x.2.2.2 ∧ x.2.2.2 < (x.1.length : Int) then
 vcp (IntKind.wrap .i64 (y4 + (1 : Int))) (fun y5 =>
 bif (!(va9 ((rd (Ty.zero tTxn) x.1 x.2.2.2).2.2.2.2.2.2.2) y5)) then
 k (.inr (.inl (x.1, (IntKind.wrap .i64 (y4 + (1 : Int))), (-1 : Int), x.2.2.2)))
 else
 k (.inl (x.1, (IntKind.wrap .i64 ((IntKind.wrap .i64 (y4 + (1 : Int))) + (1 : Int))), x.2.2.1, (IntKind.wrap .i64 (x.2.2.2 + (1 : Int))))))
 else none
 else none)
 else none)
 else none
 else none
 else none
 else none
 else none
 else
 k (.inr (.inr (x.1, x.2.1, x.2.2.1, x.2.2.2)))
theorem wc3 (x : q7T) : Par (vkz x) := by
  unfold vkz
  exact (vab (vak (vab (vaa _) (vak (vab (vaa _) (vak (vab (vaa _) (vak (vab (vaa _) (vak ((wub _ _).bind fun y3 => (vab (vaa _) (vak ((wtn _ _).bind fun y4 => (vab (vaa _) (vak (vab (vaa _) (vak ((vix _).bind fun y5 => (vab (vaa _) (vaa _))) vaf)) vaf))) vaf))) vaf)) vaf)) vaf)) vaf)) vaf) (vaa _))
def wdd (a0 : (List dTxn)) (a1 : Int) (k : Int → Option Res) : Option Res :=
 vai vkz Fuel (a0, a1, (0 : Int), (0 : Int)) (Sum.elim (fun z1 =>
 k z1.2.2.1) (fun z2 =>
 k z2.2.1))
def vuz := shut wdd
theorem wls : vuz = wdd := vap _
theorem wm0 (a0 : (List dTxn)) (a1 : Int) : Par (vuz a0 a1) := by
  rw [wls]
  unfold wdd
  exact ((vav wc3 _ _).bind2 (fun z1 => (vaa _)) (fun z2 => (vaa _)))
def wb7 (a0 : vn7) (a1 : Int) (k : Int → Option Res) : Option Res :=
 vwf a0.1 a1 (fun y1 =>
 bif (decide (y1 < (0 : Int))) then
 k (-1 : Int)
 else
 vuz a0.2.1 y1 (fun y2 =>
 bif (decide (y2 < (0 : Int))) then
 k (-1 : Int)
 else
 vuz a0.2.2.1 y2 (fun y3 =>
 bif (decide (y3 < (0 : Int))) then
 k (-1 : Int)
 else
 k y3)))
def vr3 := shut wb7
theorem wm5 : vr3 = wb7 := vap _
theorem wew (a0 : vn7) (a1 : Int) : Par (vr3 a0 a1) := by
  rw [wm5]
  unfold wb7
  exact ((wt6 _ _).bind fun y1 => (vab (vaa _) ((wm0 _ _).bind fun y2 => (vab (vaa _) ((wm0 _ _).bind fun y3 => (vab (vaa _) (vaa _)))))))
def vcr (x : q24T) (k : q24T → Option Res) : Option Res :=
 vr3 (x.2.2.2.2.1, (x.2.2.2.2.2.1, (x.2.2.2.2.2.2, (x.2.2.1, x.2.2.2.1)))) (1 : Int) (fun y23 =>
 bif (decide (y23 < (0 : Int))) then
 k (false, x.2.1, x.2.2.1, x.2.2.2.1, x.2.2.2.2.1, x.2.2.2.2.2.1, x.2.2.2.2.2.2)
 else
 bif (y23 != x.2.1) then
 k (false, x.2.1, x.2.2.1, x.2.2.2.1, x.2.2.2.2.1, x.2.2.2.2.2.1, x.2.2.2.2.2.2)
 else
 k (true, x.2.1, x.2.2.1, x.2.2.2.1, x.2.2.2.2.1, x.2.2.2.2.2.1, x.2.2.2.2.2.2))
theorem vjm (x : q24T) : Par (vcr x) := by
  unfold vcr
  exact ((wew _ _).bind fun y23 => (vab (vaa _) (vab (vaa _) (vaa _))))
def vbx (x : (q29T ⊕ q29T)) (k : (q29T ⊕ (q29T ⊕ q23T)) → Option Res) : Option Res :=
 (Sum.elim (fun x =>
 vu3 x.2.2.2.2.2.2.2.1 x.2.2.2.2.2.2.2.2.1 (1 : Int) x.2.2.2.2.2.2.2.2.2.2.2.2.1 x.2.2.2.2.2.2.2.2.2.2.2.2.2.1 x.2.2.2.2.2.2.2.2.2.2.2.2.2.2 (fun y13 =>
 vr3 (y13.2.1, (y13.2.2.1, (y13.2.2.2, (x.2.2.2.2.2.2.2.1, x.2.2.2.2.2.2.2.2.1)))) (1 : Int) (fun y14 =>
 bif (decide (y14 < (0 : Int))) then
 k (.inl (x.1, x.2.1, false, x.2.2.2.1, x.2.2.2.2.1, x.2.2.2.2.2.1, x.2.2.2.2.2.2.1, x.2.2.2.2.2.2.2.1, x.2.2.2.2.2.2.2.2.1, x.2.2.2.2.2.2.2.2.2.1, x.2.2.2.2.2.2.2.2.2.2.1, x.2.2.2.2.2.2.2.2.2.2.2.1, y13.2.1, y13.2.2.1, y13.2.2.2))
 else
 bif (y14 != y13.1) then
 k (.inl (x.1, x.2.1, false, x.2.2.2.1, x.2.2.2.2.1, x.2.2.2.2.2.1, x.2.2.2.2.2.2.1, x.2.2.2.2.2.2.2.1, x.2.2.2.2.2.2.2.2.1, x.2.2.2.2.2.2.2.2.2.1, x.2.2.2.2.2.2.2.2.2.2.1, x.2.2.2.2.2.2.2.2.2.2.2.1, y13.2.1, y13.2.2.1, y13.2.2.2))
 else
 vnq x.1 x.2.1 (fun y15 =>
 vl5 (y15.2.2.2.2.1, (y15.2.2.2.2.2.1, (y15.2.2.2.2.2.2, (y15.1, y15.2.1)))) (x.2.2.2.2.2.2.2.2.2.1, (x.2.2.2.2.2.2.2.2.2.2.1, (x.2.2.2.2.2.2.2.2.2.2.2.1, (x.2.2.2.2.2.1, x.2.2.2.2.2.2.1)))) (fun y16 =>
 bif (!y16) then
 k (.inl (x.1, x.2.1, false, x.2.2.2.1, x.2.2.2.2.1, x.2.2.2.2.2.1, x.2.2.2.2.2.2.1, x.2.2.2.2.2.2.2.1, x.2.2.2.2.2.2.2.2.1, x.2.2.2.2.2.2.2.2.2.1, x.2.2.2.2.2.2.2.2.2.2.1, x.2.2.2.2.2.2.2.2.2.2.2.1, y13.2.1, y13.2.2.1, y13.2.2.2))
 else
 bif (y15.2.2.1 != x.2.2.2.1) then
 k (.inl (x.1, x.2.1, false, x.2.2.2.1, x.2.2.2.2.1, x.2.2.2.2.2.1, x.2.2.2.2.2.2.1, x.2.2.2.2.2.2.2.1, x.2.2.2.2.2.2.2.2.1, x.2.2.2.2.2.2.2.2.2.1, x.2.2.2.2.2.2.2.2.2.2.1, x.2.2.2.2.2.2.2.2.2.2.2.1, y13.2.1, y13.2.2.1, y13.2.2.2))
 else
 bif (!(y15.2.2.2.1 == x.2.2.2.2.1)) then
 k (.inl (x.1, x.2.1, false, x.2.2.2.1, x.2.2.2.2.1, x.2.2.2.2.2.1, x.2.2.2.2.2.2.1, x.2.2.2.2.2.2.2.1, x.2.2.2.2.2.2.2.2.1, x.2.2.2.2.2.2.2.2.2.1, x.2.2.2.2.2.2.2.2.2.2.1, x.2.2.2.2.2.2.2.2.2.2.2.1, y13.2.1, y13.2.2.1, y13.2.2.2))
 else
 vcr (x.2.2.1, y13.1, x.2.2.2.2.2.2.2.1, x.2.2.2.2.2.2.2.2.1, y13.2.1, y13.2.2.1, y13.2.2.2) (fun z17 =>
 k (.inr (.inr (z17.1, z17.2.2.1, z17.2.2.2.1, z17.2.2.2.2.1, z17.2.2.2.2.2.1, z17.2.2.2.2.2.2))))))))) (fun x =>
 vu3 x.2.2.2.2.2.2.2.1 x.2.2.2.2.2.2.2.2.1 (1 : Int) x.2.2.2.2.2.2.2.2.2.2.2.2.1 x.2.2.2.2.2.2.2.2.2.2.2.2.2.1 x.2.2.2.2.2.2.2.2.2.2.2.2.2.2 (fun y18 =>
 vr3 (y18.2.1, (y18.2.2.1, (y18.2.2.2, (x.2.2.2.2.2.2.2.1, x.2.2.2.2.2.2.2.2.1)))) (1 : Int) (fun y19 =>
 bif (decide (y19 < (0 : Int))) then
 k (.inr (.inl (x.1, x.2.1, false, x.2.2.2.1, x.2.2.2.2.1, x.2.2.2.2.2.1, x.2.2.2.2.2.2.1, x.2.2.2.2.2.2.2.1, x.2.2.2.2.2.2.2.2.1, x.2.2.2.2.2.2.2.2.2.1, x.2.2.2.2.2.2.2.2.2.2.1, x.2.2.2.2.2.2.2.2.2.2.2.1, y18.2.1, y18.2.2.1, y18.2.2.2)))
 else
 bif (y19 != y18.1) then
 k (.inr (.inl (x.1, x.2.1, false, x.2.2.2.1, x.2.2.2.2.1, x.2.2.2.2.2.1, x.2.2.2.2.2.2.1, x.2.2.2.2.2.2.2.1, x.2.2.2.2.2.2.2.2.1, x.2.2.2.2.2.2.2.2.2.1, x.2.2.2.2.2.2.2.2.2.2.1, x.2.2.2.2.2.2.2.2.2.2.2.1, y18.2.1, y18.2.2.1, y18.2.2.2)))
 else
 vnq x.1 x.2.1 (fun y20 =>
 vl5 (y20.2.2.2.2.1, (y20.2.2.2.2.2.1, (y20.2.2.2.2.2.2, (y20.1, y20.2.1)))) (x.2.2.2.2.2.2.2.2.2.1, (x.2.2.2.2.2.2.2.2.2.2.1, (x.2.2.2.2.2.2.2.2.2.2.2.1, (x.2.2.2.2.2.1, x.2.2.2.2.2.2.1)))) (fun y21 =>
 bif (!y21) then
 k (.inr (.inl (x.1, x.2.1, false, x.2.2.2.1, x.2.2.2.2.1, x.2.2.2.2.2.1, x.2.2.2.2.2.2.1, x.2.2.2.2.2.2.2.1, x.2.2.2.2.2.2.2.2.1, x.2.2.2.2.2.2.2.2.2.1, x.2.2.2.2.2.2.2.2.2.2.1, x.2.2.2.2.2.2.2.2.2.2.2.1, y18.2.1, y18.2.2.1, y18.2.2.2)))
 else
 bif (y20.2.2.1 != x.2.2.2.1) then
 k (.inr (.inl (x.1, x.2.1, false, x.2.2.2.1, x.2.2.2.2.1, x.2.2.2.2.2.1, x.2.2.2.2.2.2.1, x.2.2.2.2.2.2.2.1, x.2.2.2.2.2.2.2.2.1, x.2.2.2.2.2.2.2.2.2.1, x.2.2.2.2.2.2.2.2.2.2.1, x.2.2.2.2.2.2.2.2.2.2.2.1, y18.2.1, y18.2.2.1, y18.2.2.2)))
 else
 bif (!(y20.2.2.2.1 == x.2.2.2.2.1)) then
 k (.inr (.inl (x.1, x.2.1, false, x.2.2.2.1, x.2.2.2.2.1, x.2.2.2.2.2.1, x.2.2.2.2.2.2.1, x.2.2.2.2.2.2.2.1, x.2.2.2.2.2.2.2.2.1, x.2.2.2.2.2.2.2.2.2.1, x.2.2.2.2.2.2.2.2.2.2.1, x.2.2.2.2.2.2.2.2.2.2.2.1, y18.2.1, y18.2.2.1, y18.2.2.2)))
 else
 vcr (x.2.2.1, y18.1, x.2.2.2.2.2.2.2.1, x.2.2.2.2.2.2.2.2.1, y18.2.1, y18.2.2.1, y18.2.2.2) (fun z22 =>
 k (.inr (.inr (z22.1, z22.2.2.1, z22.2.2.2.1, z22.2.2.2.2.1, z22.2.2.2.2.2.1, z22.2.2.2.2.2.2)))))))))) x
theorem vhi (x : (q29T ⊕ q29T)) : Par (vbx x) := by
  unfold vbx
  rcases x with x | x
  · simp only [Sum.elim_inl]
    exact ((wnt _ _ _ _ _ _).bind fun y13 => ((wew _ _).bind fun y14 => (vab (vaa _) (vab (vaa _) ((v59 _ _).bind fun y15 => ((v52 _ _).bind fun y16 => (vab (vaa _) (vab (vaa _) (vab (vaa _) ((vjm _).bind fun z17 => (vaa _)))))))))))
  · simp only [Sum.elim_inr]
    exact ((wnt _ _ _ _ _ _).bind fun y18 => ((wew _ _).bind fun y19 => (vab (vaa _) (vab (vaa _) ((v59 _ _).bind fun y20 => ((v52 _ _).bind fun y21 => (vab (vaa _) (vab (vaa _) (vab (vaa _) ((vjm _).bind fun z22 => (vaa _)))))))))))
def we7 (a0 : ByteArray) (a1 : Int) (k : Bool → Option Res) : Option Res :=
 bif (decide ((a0.size : Int) > (1048576 : Int))) then
 k true
 else
 vx9 a0 a1 (Sum.elim (fun y1 =>
 vnq a0 a1 (fun y2 =>
 vl5 (y2.2.2.2.2.1, (y2.2.2.2.2.2.1, (y2.2.2.2.2.2.2, (y2.1, y2.2.1)))) (y1.2.2.2.2.1, (y1.2.2.2.2.2.1, (y1.2.2.2.2.2.2, (y1.1, y1.2.1)))) (fun y3 =>
 bif (!y3) then
 k false
 else
 bif (y2.2.2.1 != y1.2.2.1) then
 k false
 else
 bif (!(y2.2.2.2.1 == y1.2.2.2.1)) then
 k false
 else
 vbx (.inl (a0, a1, false, y1.2.2.1, y1.2.2.2.1, y1.1, y1.2.1, y2.1, y2.2.1, y1.2.2.2.2.1, y1.2.2.2.2.2.1, y1.2.2.2.2.2.2, y2.2.2.2.2.1, y2.2.2.2.2.2.1, y2.2.2.2.2.2.2)) (Sum.elim (fun z4 =>
 k z4.2.2.1) (Sum.elim (fun z5 =>
 k z5.2.2.1) (fun z6 =>
 k z6.1)))))) (fun y7 =>
 vnq a0 a1 (fun y8 =>
 vl5 (y8.2.2.2.2.1, (y8.2.2.2.2.2.1, (y8.2.2.2.2.2.2, (y8.1, y8.2.1)))) (y7.2.2.2.2.1, (y7.2.2.2.2.2.1, (y7.2.2.2.2.2.2, (y7.1, y7.2.1)))) (fun y9 =>
 bif (!y9) then
 k false
 else
 bif (y8.2.2.1 != y7.2.2.1) then
 k false
 else
 bif (!(y8.2.2.2.1 == y7.2.2.2.1)) then
 k false
 else
 vbx (.inr (a0, a1, false, y7.2.2.1, y7.2.2.2.1, y7.1, y7.2.1, y8.1, y8.2.1, y7.2.2.2.2.1, y7.2.2.2.2.2.1, y7.2.2.2.2.2.2, y8.2.2.2.2.1, y8.2.2.2.2.2.1, y8.2.2.2.2.2.2)) (Sum.elim (fun z10 =>
 k z10.2.2.1) (Sum.elim (fun z11 =>
 k z11.2.2.1) (fun z12 =>
 k z12.1)))))))
def v0t := shut we7
theorem wm1 : v0t = we7 := vap _
theorem w1o (a0 : ByteArray) (a1 : Int) : Par (v0t a0 a1) := by
  rw [wm1]
  unfold we7
  exact (vab (vaa _) ((wtj _ _).bind2 (fun y1 => ((v59 _ _).bind fun y2 => ((v52 _ _).bind fun y3 => (vab (vaa _) (vab (vaa _) (vab (vaa _) ((vhi _).bind2 (fun z4 => (vaa _)) (fun q => wct (fun z5 => (vaa _)) (fun z6 => (vaa _)) q)))))))) (fun y7 => ((v59 _ _).bind fun y8 => ((v52 _ _).bind fun y9 => (vab (vaa _) (vab (vaa _) (vab (vaa _) ((vhi _).bind2 (fun z10 => (vaa _)) (fun q => wct (fun z11 => (vaa _)) (fun z12 => (vaa _)) q))))))))))
def wit (args : List AV) (st : St) (k : K1) : Option Res :=
 vaj [.int .i64, .int .i64, .int .i64] [] args st (fun p q => vdx p.1 p.2.1 p.2.2.1 (fun (y : Bool) => k (.bool y) []))
 (none)
def wlo (args : List AV) (st : St) (k : K1) : Option Res :=
 vaj [.int .i64] [] args st (fun p q => v0u p.1 (fun (y : ByteArray) => k (.str y) []))
 (none)
def wjy (args : List AV) (st : St) (k : K1) : Option Res :=
 vaj [.str, .int .i64] [] args st (fun p q => vxn p.1 p.2.1 (fun (y : (Int × Int × Bool)) => k (.tup [.int .i64 y.1, .int .i64 y.2.1, .bool y.2.2]) []))
 (none)
def wk8 (args : List AV) (st : St) (k : K1) : Option Res :=
 vaj [.bp 0 0] [.box [.str, .int .i64, .bool]] args st (fun p q => vh0 q.1.1 q.1.2.1 q.1.2.2.1 (fun (y : (Int × ByteArray × Int × Bool)) => k (.int .i64 y.1) [.box [.str y.2.1, .int .i64 y.2.2.1, .bool y.2.2.2]]))
 (none)
def whm (args : List AV) (st : St) (k : K1) : Option Res :=
 vaj [.str, .int .i64] [] args st (fun p q => v18 p.1 p.2.1 (fun (y : (ByteArray × Int × Bool)) => k (.tup [.str y.1, .int .i64 y.2.1, .bool y.2.2]) []))
 (none)
def wih (args : List AV) (st : St) (k : K1) : Option Res :=
 vaj [.bp 0 0] [.box [.str, .int .i64, .bool]] args st (fun p q => vl7 q.1.1 q.1.2.1 q.1.2.2.1 (fun (y : q27T) => k (.str y.1) [.box [.str y.2.1, .int .i64 y.2.2.1, .bool y.2.2.2]]))
 (none)
def wnp (args : List AV) (st : St) (k : K1) : Option Res :=
 vaj [.bp 0 0] [.box [.str, .int .i64, .bool]] args st (fun p q => vu5 q.1.1 q.1.2.1 q.1.2.2.1 (fun (y : q19T) => k (.bool y.1) [.box [.str y.2.1, .int .i64 y.2.2.1, .bool y.2.2.2]]))
 (none)
def wlm (args : List AV) (st : St) (k : K1) : Option Res :=
 vaj [.str] [] args st (fun p q => vjz p.1 (fun (y : Bool) => k (.bool y) []))
 (none)
def wis (args : List AV) (st : St) (k : K1) : Option Res :=
 vaj [.agg [.str, .str, .bool]] [] args st (fun p q => vxy (p.1.1, (p.1.2.1, p.1.2.2.1)) (fun (y : Bool) => k (.bool y) []))
 (none)
def wmh (args : List AV) (st : St) (k : K1) : Option Res :=
 vaj [.lst tWrite] [] args st (fun p q => vve p.1 (fun (y : Bool) => k (.bool y) []))
 (none)
def wm4 (args : List AV) (st : St) (k : K1) : Option Res :=
 vaj [.agg [.str, .str]] [] args st (fun p q => vxq (p.1.1, p.1.2.1) (fun (y : Bool) => k (.bool y) []))
 (none)
def wma (args : List AV) (st : St) (k : K1) : Option Res :=
 vaj [.agg [.int .i64, .int .i64, .int .i64, .int .i64, .lst tRange, .lst tWrite, .bool, .str]] [] args st (fun p q => vmx (p.1.1, (p.1.2.1, (p.1.2.2.1, (p.1.2.2.2.1, (p.1.2.2.2.2.1, (p.1.2.2.2.2.2.1, (p.1.2.2.2.2.2.2.1, p.1.2.2.2.2.2.2.2.1))))))) (fun (y : Bool) => k (.bool y) []))
 (none)
end
end Go.VE
