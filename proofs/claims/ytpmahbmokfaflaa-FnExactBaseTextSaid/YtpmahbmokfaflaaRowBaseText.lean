/- The statement FnExactBaseTextSaid is proved: for every input the law FnExactBaseText hands back true, and its arguments read as they did. Conditions: none beyond the statement. -/
import Derived.Test.YtpmahbmokfaflaaBaseTextS2
import Derived.Test.YtpmahbmokfaflaaBaseTextR2
import Derived.Test.YtpmahbmokfaflaaV26
import Derived.Test.YtpmahbmokfaflaaRows
import Derived.ProofKit
namespace Go.Proofs.Ytpmahbmokfaflaa
open Go.ChangeShapes Go.WideShapes Go.ChangeAt Go.RowKit Go.VE

theorem Try.own : ownKnob Try.prog.godebug = none := by kernel_rfl
theorem Try.laidOut : laidOutB Try.prog = true := by kernel_rfl

theorem FnExactBaseText_g_law (x0 : (tBase : Ty).D) (h0 : (tBase : Ty).wf x0) : laws_FnExactBaseText_g [(tBase : Ty).toAV true x0] [] (fun v s => some ⟨.ret, [v], s⟩) = some ⟨.ret, [.bool true], []⟩ :=
  Eq.trans (by kernel_rfl) (law_FnExactBaseText x0 h0 (fun b => some ⟨.ret, [.bool b], []⟩))

set_option maxRecDepth 100000 in
theorem FnExactBaseText_lifted (os : Os) (started : os.Started) (H : Type) (enc : TypeId × Value → H) :
    ReturnsInHanded {} Try.checked os 9 .any (Rows.fnExactBaseTextSpec.pre6 enc Try.prog Try.f9 Rows.fnExactBaseTextRow.domain false) (Rows.fnExactBaseTextSpec.post enc Try.prog Try.f9 false true false false) := by
  refine returnsInHanded_of_change (C := Try.checked) Try.own started (by kernel_rfl) Try.func9
    (ChangeSpec.witness6 (enc := enc) (C := Try.checked) false ⟨#[], #[.agg #[.slice none 0 0, .slice none 0 0, .slice none 0 0, .int .i64 0, .int .i64 0]], []⟩ 8 (by kernel_rfl) (by kernel_rfl) (by kernel_rfl) (by kernel_rfl)) ?_
  intro W base args ds gs before hval0 hW hcnd _
  have hval : ∀ (j : Nat) t v, Try.f9.params[j]? = some t → args[j]? = some v → Value.okWide Try.prog W .any base t v := hval0
  have hW' := hW
  obtain ⟨p, q, hA0, hV, rfl, hfz, hnd⟩ := hW
  have hA : DataW.TrodAll enc Try.prog W 0 (fun _ => true) true Try.f9.params.toList args.toList ds p := hA0
  rw [Try.params9] at hA hval
  obtain ⟨v0, d0, rfl, rfl, g0⟩ := trodAll_one hA
  obtain ⟨rfl, rfl⟩ := trodVars_none hV
  obtain ⟨x0, w0, r0⟩ := arg_rv (n := 8) (T := (tBase : Ty)) (ag := true) (by kernel_rfl) (by kernel_rfl) (hval 0 25 v0 rfl rfl) g0
  have hc := row_call (W := W) laws_FnExactBaseText_c (FnExactBaseText_g_law x0 w0) (cargs := [v0]) (by simp only [RVs]; exact ⟨v0, _, rfl, r0 _ _, rfl⟩)
  refine hc.mono fun e W' ⟨⟨cv, he, μ', X, hcv⟩, hb⟩ => ?_
  simp only [RV] at hcv
  subst hcv
  subst he
  exact ⟨_, rfl, row_end hW' rfl rfl (t := 4) (by kernel_rfl) (by kernel_rfl) Try.laidOut (by rw [Try.params9]; intro u hu; simp at hu; subst hu; exact ⟨by kernel_rfl, of_decide_eq_true (by kernel_rfl)⟩) hb⟩

theorem FnExactBaseText_j0 : mapsRowed Try.prog = true := by kernel_rfl
theorem FnExactBaseText_j1 : (Rows.fnExactBaseTextRow.inPlace == Try.prog.inPlace 9) = true := by kernel_rfl
theorem FnExactBaseText_j2 : (Rows.fnExactBaseTextRow.unfollowed == Try.prog.unfollowed 9) = true := by kernel_rfl
theorem FnExactBaseText_j3 : (Rows.fnExactBaseTextRow.recurses == Try.prog.recurses 9) = true := by kernel_rfl
theorem FnExactBaseText_j4 : (Rows.fnExactBaseTextRow.named == Try.prog.varsNamed 9) = true := by kernel_rfl
theorem FnExactBaseText_j5 : (Rows.fnExactBaseTextRow.lifted == Try.prog.liftsFinal) = true := by kernel_rfl
theorem FnExactBaseText_j6 : Try.prog.stopsHeard = true := by kernel_rfl
theorem FnExactBaseText_j7 : Try.prog.mayEnter = true := by kernel_rfl
theorem FnExactBaseText_j8 : (Rows.fnExactBaseTextRow.wf (OpenSpec.ofChange Rows.fnExactBaseTextSpec)) = true := by kernel_rfl
theorem andB {a b : Bool} (ha : a = true) (hb : b = true) : (a && b) = true := by rw [ha, hb]; rfl

theorem FnExactBaseText_closed : joinedFacts Try.prog 9 Try.f9 Rows.fnExactBaseTextSpec Rows.fnExactBaseTextRow = true := by
  unfold joinedFacts
  exact (andB (andB (andB (andB (andB (andB (andB (andB (andB (andB (andB (andB (andB (andB (andB (andB (andB (andB (andB (andB (andB (andB (andB (andB (andB (andB (andB (andB (andB (andB (andB FnExactBaseText_j8 Try.laidOut) FnExactBaseText_j0) (by kernel_rfl)) (by kernel_rfl)) (by kernel_rfl)) (by kernel_rfl)) (by kernel_rfl)) (by kernel_rfl)) FnExactBaseText_j1) FnExactBaseText_j2) FnExactBaseText_j3) FnExactBaseText_j4) (by kernel_rfl)) (by kernel_rfl)) (by kernel_rfl)) (by kernel_rfl)) (by kernel_rfl)) (by kernel_rfl)) (by kernel_rfl)) (by kernel_rfl)) (by kernel_rfl)) (by kernel_rfl)) (by kernel_rfl)) FnExactBaseText_j6) FnExactBaseText_j7) FnExactBaseText_j5) (by kernel_rfl)) (by kernel_rfl)) (by kernel_rfl)) (by kernel_rfl)) (by kernel_rfl))

theorem FnExactBaseText_holds : Rows.FnExactBaseTextSaid :=
  OpenClaim.holds_of_wide 9 Try.f9 rfl rfl rfl rfl rfl rfl rfl ⟨rfl, rfl, rfl, rfl, rfl⟩ rfl rfl rfl rfl rfl (by kernel_rfl) Try.func9 FnExactBaseText_closed
    (of_decide_eq_true (by kernel_rfl)) (by unfold Func.isWrapper; first | (rw [if_pos (by decide +kernel)]; kernel_rfl) | (rw [if_neg (by decide +kernel)]; exact ⟨rfl, rfl⟩))
    (fun os started H enc _ => FnExactBaseText_lifted os started H enc)

end Go.Proofs.Ytpmahbmokfaflaa
