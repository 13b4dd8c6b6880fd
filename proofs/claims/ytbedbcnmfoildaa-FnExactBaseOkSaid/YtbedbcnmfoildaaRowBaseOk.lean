/- The statement FnExactBaseOkSaid is proved: for every input the law FnExactBaseOk hands back true, and its arguments read as they did. Conditions: none beyond the statement. -/
import Derived.Test.YtbedbcnmfoildaaBaseOkS1
import Derived.Test.YtbedbcnmfoildaaBaseOkR2
import Derived.Test.YtbedbcnmfoildaaV26
import Derived.Test.YtbedbcnmfoildaaRows
import Derived.ProofKit
namespace Go.Proofs.Ytbedbcnmfoildaa
open Go.ChangeShapes Go.WideShapes Go.ChangeAt Go.RowKit Go.VE

theorem Try.own : ownKnob Try.prog.godebug = none := by kernel_rfl
theorem Try.laidOut : laidOutB Try.prog = true := by kernel_rfl

theorem FnExactBaseOk_g_law (x0 : (tBase : Ty).D) (h0 : (tBase : Ty).wf x0) : laws_FnExactBaseOk_g [(tBase : Ty).toAV true x0] [] (fun v s => some ⟨.ret, [v], s⟩) = some ⟨.ret, [.bool true], []⟩ :=
  Eq.trans (by kernel_rfl) (law_FnExactBaseOk x0 h0 (fun b => some ⟨.ret, [.bool b], []⟩))

set_option maxRecDepth 100000 in
theorem FnExactBaseOk_lifted (os : Os) (started : os.Started) (H : Type) (enc : TypeId × Value → H) :
    ReturnsInHanded {} Try.checked os 11 .any (Rows.fnExactBaseOkSpec.pre6 enc Try.prog Try.f11 Rows.fnExactBaseOkRow.domain false) (Rows.fnExactBaseOkSpec.post enc Try.prog Try.f11 false true false false) := by
  refine returnsInHanded_of_change (C := Try.checked) Try.own started (by kernel_rfl) Try.func11
    (ChangeSpec.witness6 (enc := enc) (C := Try.checked) false ⟨#[], #[.agg #[.slice none 0 0, .slice none 0 0, .slice none 0 0, .int .i64 0, .int .i64 0]], []⟩ 8 (by kernel_rfl) (by kernel_rfl) (by kernel_rfl) (by kernel_rfl)) ?_
  intro W base args ds gs before hval0 hW hcnd _
  have hval : ∀ (j : Nat) t v, Try.f11.params[j]? = some t → args[j]? = some v → Value.okWide Try.prog W .any base t v := hval0
  have hW' := hW
  obtain ⟨p, q, hA0, hV, rfl, hfz, hnd⟩ := hW
  have hA : DataW.TrodAll enc Try.prog W 0 (fun _ => true) true Try.f11.params.toList args.toList ds p := hA0
  rw [Try.params11] at hA hval
  obtain ⟨v0, d0, rfl, rfl, g0⟩ := trodAll_one hA
  obtain ⟨rfl, rfl⟩ := trodVars_none hV
  obtain ⟨x0, w0, r0⟩ := arg_rv (n := 8) (T := (tBase : Ty)) (ag := true) (by kernel_rfl) (by kernel_rfl) (hval 0 25 v0 rfl rfl) g0
  have hc := row_call (W := W) laws_FnExactBaseOk_c (FnExactBaseOk_g_law x0 w0) (cargs := [v0]) (by simp only [RVs]; exact ⟨v0, _, rfl, r0 _ _, rfl⟩)
  refine hc.mono fun e W' ⟨⟨cv, he, μ', X, hcv⟩, hb⟩ => ?_
  simp only [RV] at hcv
  subst hcv
  subst he
  exact ⟨_, rfl, row_end hW' rfl rfl (t := 4) (by kernel_rfl) (by kernel_rfl) Try.laidOut (by rw [Try.params11]; intro u hu; simp at hu; subst hu; exact ⟨by kernel_rfl, of_decide_eq_true (by kernel_rfl)⟩) hb⟩

theorem FnExactBaseOk_j0 : mapsRowed Try.prog = true := by kernel_rfl
theorem FnExactBaseOk_j1 : (Rows.fnExactBaseOkRow.inPlace == Try.prog.inPlace 11) = true := by kernel_rfl
theorem FnExactBaseOk_j2 : (Rows.fnExactBaseOkRow.unfollowed == Try.prog.unfollowed 11) = true := by kernel_rfl
theorem FnExactBaseOk_j3 : (Rows.fnExactBaseOkRow.recurses == Try.prog.recurses 11) = true := by kernel_rfl
theorem FnExactBaseOk_j4 : (Rows.fnExactBaseOkRow.named == Try.prog.varsNamed 11) = true := by kernel_rfl
theorem FnExactBaseOk_j5 : (Rows.fnExactBaseOkRow.lifted == Try.prog.liftsFinal) = true := by kernel_rfl
theorem FnExactBaseOk_j6 : Try.prog.stopsHeard = true := by kernel_rfl
theorem FnExactBaseOk_j7 : Try.prog.mayEnter = true := by kernel_rfl
theorem FnExactBaseOk_j8 : (Rows.fnExactBaseOkRow.wf (OpenSpec.ofChange Rows.fnExactBaseOkSpec)) = true := by kernel_rfl
theorem andB {a b : Bool} (ha : a = true) (hb : b = true) : (a && b) = true := by rw [ha, hb]; rfl

theorem FnExactBaseOk_closed : joinedFacts Try.prog 11 Try.f11 Rows.fnExactBaseOkSpec Rows.fnExactBaseOkRow = true := by
  unfold joinedFacts
  exact (andB (andB (andB (andB (andB (andB (andB (andB (andB (andB (andB (andB (andB (andB (andB (andB (andB (andB (andB (andB (andB (andB (andB (andB (andB (andB (andB (andB (andB (andB (andB FnExactBaseOk_j8 Try.laidOut) FnExactBaseOk_j0) (by kernel_rfl)) (by kernel_rfl)) (by kernel_rfl)) (by kernel_rfl)) (by kernel_rfl)) (by kernel_rfl)) FnExactBaseOk_j1) FnExactBaseOk_j2) FnExactBaseOk_j3) FnExactBaseOk_j4) (by kernel_rfl)) (by kernel_rfl)) (by kernel_rfl)) (by kernel_rfl)) (by kernel_rfl)) (by kernel_rfl)) (by kernel_rfl)) (by kernel_rfl)) (by kernel_rfl)) (by kernel_rfl)) (by kernel_rfl)) FnExactBaseOk_j6) FnExactBaseOk_j7) FnExactBaseOk_j5) (by kernel_rfl)) (by kernel_rfl)) (by kernel_rfl)) (by kernel_rfl)) (by kernel_rfl))

theorem FnExactBaseOk_holds : Rows.FnExactBaseOkSaid :=
  OpenClaim.holds_of_wide 11 Try.f11 rfl rfl rfl rfl rfl rfl rfl ⟨rfl, rfl, rfl, rfl, rfl⟩ rfl rfl rfl rfl rfl (by kernel_rfl) Try.func11 FnExactBaseOk_closed
    (of_decide_eq_true (by kernel_rfl)) (by unfold Func.isWrapper; first | (rw [if_pos (by decide +kernel)]; kernel_rfl) | (rw [if_neg (by decide +kernel)]; exact ⟨rfl, rfl⟩))
    (fun os started H enc _ => FnExactBaseOk_lifted os started H enc)

end Go.Proofs.Ytbedbcnmfoildaa
