/- The statement FnExactStoreNewSaid is proved: for every input the law FnExactStoreNew hands back true, and its arguments read as they did. Conditions: none beyond the statement. -/
import Derived.Test.YtpmahbmokfaflaaStoreNewS1
import Derived.Test.YtpmahbmokfaflaaStoreNewR2
import Derived.Test.YtpmahbmokfaflaaV26
import Derived.Test.YtpmahbmokfaflaaRows
import Derived.ProofKit
namespace Go.Proofs.Ytpmahbmokfaflaa
open Go.ChangeShapes Go.WideShapes Go.ChangeAt Go.RowKit Go.VE

theorem Try.own : ownKnob Try.prog.godebug = none := by kernel_rfl
theorem Try.laidOut : laidOutB Try.prog = true := by kernel_rfl

theorem FnExactStoreNew_g_law   : laws_FnExactStoreNew_g [] [] (fun v s => some ⟨.ret, [v], s⟩) = some ⟨.ret, [.bool true], []⟩ :=
  Eq.trans (by kernel_rfl) (law_FnExactStoreNew   (fun b => some ⟨.ret, [.bool b], []⟩))

set_option maxRecDepth 100000 in
theorem FnExactStoreNew_lifted (os : Os) (started : os.Started) (H : Type) (enc : TypeId × Value → H) :
    ReturnsInHanded {} Try.checked os 7 .any (Rows.fnExactStoreNewSpec.pre6 enc Try.prog Try.f7 Rows.fnExactStoreNewRow.domain false) (Rows.fnExactStoreNewSpec.post enc Try.prog Try.f7 false true false false) := by
  refine returnsInHanded_of_change (C := Try.checked) Try.own started (by kernel_rfl) Try.func7
    (ChangeSpec.witness6 (enc := enc) (C := Try.checked) false ⟨#[], #[], []⟩ 8 (by kernel_rfl) (by kernel_rfl) (by kernel_rfl) (by kernel_rfl)) ?_
  intro W base args ds gs before hval0 hW hcnd _
  have hval : ∀ (j : Nat) t v, Try.f7.params[j]? = some t → args[j]? = some v → Value.okWide Try.prog W .any base t v := hval0
  have hW' := hW
  obtain ⟨p, q, hA0, hV, rfl, hfz, hnd⟩ := hW
  have hA : DataW.TrodAll enc Try.prog W 0 (fun _ => true) true Try.f7.params.toList args.toList ds p := hA0
  rw [show Try.f7.params.toList = [] from by kernel_rfl] at hA
  obtain ⟨rfl, rfl, rfl⟩ := trodAll_none hA
  obtain ⟨rfl, rfl⟩ := trodVars_none hV
  have hc := row_call (W := W) laws_FnExactStoreNew_c (FnExactStoreNew_g_law  ) (cargs := []) (by simp only [RVs])
  refine hc.mono fun e W' ⟨⟨cv, he, μ', X, hcv⟩, hb⟩ => ?_
  simp only [RV] at hcv
  subst hcv
  subst he
  exact ⟨_, rfl, row_end hW' rfl rfl (t := 4) (by kernel_rfl) (by kernel_rfl) Try.laidOut (by intro u hu; rw [show Try.f7.params.toList = [] from by kernel_rfl] at hu; simp at hu) hb⟩

theorem FnExactStoreNew_j0 : mapsRowed Try.prog = true := by kernel_rfl
theorem FnExactStoreNew_j1 : (Rows.fnExactStoreNewRow.inPlace == Try.prog.inPlace 7) = true := by kernel_rfl
theorem FnExactStoreNew_j2 : (Rows.fnExactStoreNewRow.unfollowed == Try.prog.unfollowed 7) = true := by kernel_rfl
theorem FnExactStoreNew_j3 : (Rows.fnExactStoreNewRow.recurses == Try.prog.recurses 7) = true := by kernel_rfl
theorem FnExactStoreNew_j4 : (Rows.fnExactStoreNewRow.named == Try.prog.varsNamed 7) = true := by kernel_rfl
theorem FnExactStoreNew_j5 : (Rows.fnExactStoreNewRow.lifted == Try.prog.liftsFinal) = true := by kernel_rfl
theorem FnExactStoreNew_j6 : Try.prog.stopsHeard = true := by kernel_rfl
theorem FnExactStoreNew_j7 : Try.prog.mayEnter = true := by kernel_rfl
theorem FnExactStoreNew_j8 : (Rows.fnExactStoreNewRow.wf (OpenSpec.ofChange Rows.fnExactStoreNewSpec)) = true := by kernel_rfl
theorem andB {a b : Bool} (ha : a = true) (hb : b = true) : (a && b) = true := by rw [ha, hb]; rfl

theorem FnExactStoreNew_closed : joinedFacts Try.prog 7 Try.f7 Rows.fnExactStoreNewSpec Rows.fnExactStoreNewRow = true := by
  unfold joinedFacts
  exact (andB (andB (andB (andB (andB (andB (andB (andB (andB (andB (andB (andB (andB (andB (andB (andB (andB (andB (andB (andB (andB (andB (andB (andB (andB (andB (andB (andB (andB (andB (andB FnExactStoreNew_j8 Try.laidOut) FnExactStoreNew_j0) (by kernel_rfl)) (by kernel_rfl)) (by kernel_rfl)) (by kernel_rfl)) (by kernel_rfl)) (by kernel_rfl)) FnExactStoreNew_j1) FnExactStoreNew_j2) FnExactStoreNew_j3) FnExactStoreNew_j4) (by kernel_rfl)) (by kernel_rfl)) (by kernel_rfl)) (by kernel_rfl)) (by kernel_rfl)) (by kernel_rfl)) (by kernel_rfl)) (by kernel_rfl)) (by kernel_rfl)) (by kernel_rfl)) (by kernel_rfl)) FnExactStoreNew_j6) FnExactStoreNew_j7) FnExactStoreNew_j5) (by kernel_rfl)) (by kernel_rfl)) (by kernel_rfl)) (by kernel_rfl)) (by kernel_rfl))

theorem FnExactStoreNew_holds : Rows.FnExactStoreNewSaid :=
  OpenClaim.holds_of_wide 7 Try.f7 rfl rfl rfl rfl rfl rfl rfl ⟨rfl, rfl, rfl, rfl, rfl⟩ rfl rfl rfl rfl rfl (by kernel_rfl) Try.func7 FnExactStoreNew_closed
    (of_decide_eq_true (by kernel_rfl)) (by unfold Func.isWrapper; first | (rw [if_pos (by decide +kernel)]; kernel_rfl) | (rw [if_neg (by decide +kernel)]; exact ⟨rfl, rfl⟩))
    (fun os started H enc _ => FnExactStoreNew_lifted os started H enc)

end Go.Proofs.Ytpmahbmokfaflaa
