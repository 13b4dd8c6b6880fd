/- The statement FnExactLikeBaseSaid is proved: for every input the law FnExactLikeBase hands back true, and its arguments read as they did. Conditions: none beyond the statement. -/
import Derived.Test.YteolgjmeigifbaaLikeBaseS1
import Derived.Test.YteolgjmeigifbaaLikeBaseR2
import Derived.Test.YteolgjmeigifbaaV26
import Derived.Test.YteolgjmeigifbaaRows
import Derived.ProofKit
namespace Go.Proofs.Yteolgjmeigifbaa
open Go.ChangeShapes Go.WideShapes Go.ChangeAt Go.RowKit Go.VE

theorem Try.own : ownKnob Try.prog.godebug = none := by kernel_rfl
theorem Try.laidOut : laidOutB Try.prog = true := by kernel_rfl

theorem FnExactLikeBase_g_law (x0 : (tBase : Ty).D) (x1 : (tBase : Ty).D) (h0 : (tBase : Ty).wf x0) (h1 : (tBase : Ty).wf x1) : laws_FnExactLikeBase_g [(tBase : Ty).toAV true x0, (tBase : Ty).toAV true x1] [] (fun v s => some ⟨.ret, [v], s⟩) = some ⟨.ret, [.bool true], []⟩ :=
  Eq.trans (by kernel_rfl) (law_FnExactLikeBase x0 x1 h0 h1 (fun b => some ⟨.ret, [.bool b], []⟩))

set_option maxRecDepth 100000 in
theorem FnExactLikeBase_lifted (os : Os) (started : os.Started) (H : Type) (enc : TypeId × Value → H) :
    ReturnsInHanded {} Try.checked os 8 .any (Rows.fnExactLikeBaseSpec.pre6 enc Try.prog Try.f8 Rows.fnExactLikeBaseRow.domain false) (Rows.fnExactLikeBaseSpec.post enc Try.prog Try.f8 false true false false) := by
  refine returnsInHanded_of_change (C := Try.checked) Try.own started (by kernel_rfl) Try.func8
    (ChangeSpec.witness6 (enc := enc) (C := Try.checked) false ⟨#[], #[.agg #[.slice none 0 0, .slice none 0 0, .slice none 0 0, .int .i64 0, .int .i64 0], .agg #[.slice none 0 0, .slice none 0 0, .slice none 0 0, .int .i64 0, .int .i64 0]], []⟩ 8 (by kernel_rfl) (by kernel_rfl) (by kernel_rfl) (by kernel_rfl)) ?_
  intro W base args ds gs before hval0 hW hcnd _
  have hval : ∀ (j : Nat) t v, Try.f8.params[j]? = some t → args[j]? = some v → Value.okWide Try.prog W .any base t v := hval0
  have hW' := hW
  obtain ⟨p, q, hA0, hV, rfl, hfz, hnd⟩ := hW
  have hA : DataW.TrodAll enc Try.prog W 0 (fun _ => true) true Try.f8.params.toList args.toList ds p := hA0
  rw [Try.params8] at hA hval
  obtain ⟨v0, v1, d0, d1, p0, p1, rfl, rfl, rfl, g0, g1⟩ := trodAll_two hA
  obtain ⟨rfl, rfl⟩ := trodVars_none hV
  obtain ⟨x0, w0, r0⟩ := arg_rv (n := 8) (T := (tBase : Ty)) (ag := true) (by kernel_rfl) (by kernel_rfl) (hval 0 52 v0 rfl rfl) g0
  obtain ⟨x1, w1, r1⟩ := arg_rv (n := 8) (T := (tBase : Ty)) (ag := true) (by kernel_rfl) (by kernel_rfl) (hval 1 52 v1 rfl rfl) g1
  have hc := row_call (W := W) laws_FnExactLikeBase_c (FnExactLikeBase_g_law x0 x1 w0 w1) (cargs := [v0, v1]) (by simp only [RVs]; exact ⟨v0, _, rfl, r0 _ _, v1, _, rfl, r1 _ _, rfl⟩)
  refine hc.mono fun e W' ⟨⟨cv, he, μ', X, hcv⟩, hb⟩ => ?_
  simp only [RV] at hcv
  subst hcv
  subst he
  exact ⟨_, rfl, row_end hW' rfl rfl (t := 4) (by kernel_rfl) (by kernel_rfl) Try.laidOut (by rw [Try.params8]; intro u hu; simp at hu; subst hu; exact ⟨by kernel_rfl, of_decide_eq_true (by kernel_rfl)⟩) hb⟩

theorem FnExactLikeBase_j0 : mapsRowed Try.prog = true := by kernel_rfl
theorem FnExactLikeBase_j1 : (Rows.fnExactLikeBaseRow.inPlace == Try.prog.inPlace 8) = true := by kernel_rfl
theorem FnExactLikeBase_j2 : (Rows.fnExactLikeBaseRow.unfollowed == Try.prog.unfollowed 8) = true := by kernel_rfl
theorem FnExactLikeBase_j3 : (Rows.fnExactLikeBaseRow.recurses == Try.prog.recurses 8) = true := by kernel_rfl
theorem FnExactLikeBase_j4 : (Rows.fnExactLikeBaseRow.named == Try.prog.varsNamed 8) = true := by kernel_rfl
theorem FnExactLikeBase_j5 : (Rows.fnExactLikeBaseRow.lifted == Try.prog.liftsFinal) = true := by kernel_rfl
theorem FnExactLikeBase_j6 : Try.prog.stopsHeard = true := by kernel_rfl
theorem FnExactLikeBase_j7 : Try.prog.mayEnter = true := by kernel_rfl
theorem FnExactLikeBase_j8 : (Rows.fnExactLikeBaseRow.wf (OpenSpec.ofChange Rows.fnExactLikeBaseSpec)) = true := by kernel_rfl
theorem andB {a b : Bool} (ha : a = true) (hb : b = true) : (a && b) = true := by rw [ha, hb]; rfl

theorem FnExactLikeBase_closed : joinedFacts Try.prog 8 Try.f8 Rows.fnExactLikeBaseSpec Rows.fnExactLikeBaseRow = true := by
  unfold joinedFacts
  exact (andB (andB (andB (andB (andB (andB (andB (andB (andB (andB (andB (andB (andB (andB (andB (andB (andB (andB (andB (andB (andB (andB (andB (andB (andB (andB (andB (andB (andB (andB (andB FnExactLikeBase_j8 Try.laidOut) FnExactLikeBase_j0) (by kernel_rfl)) (by kernel_rfl)) (by kernel_rfl)) (by kernel_rfl)) (by kernel_rfl)) (by kernel_rfl)) FnExactLikeBase_j1) FnExactLikeBase_j2) FnExactLikeBase_j3) FnExactLikeBase_j4) (by kernel_rfl)) (by kernel_rfl)) (by kernel_rfl)) (by kernel_rfl)) (by kernel_rfl)) (by kernel_rfl)) (by kernel_rfl)) (by kernel_rfl)) (by kernel_rfl)) (by kernel_rfl)) (by kernel_rfl)) FnExactLikeBase_j6) FnExactLikeBase_j7) FnExactLikeBase_j5) (by kernel_rfl)) (by kernel_rfl)) (by kernel_rfl)) (by kernel_rfl)) (by kernel_rfl))

theorem FnExactLikeBase_holds : Rows.FnExactLikeBaseSaid :=
  OpenClaim.holds_of_wide 8 Try.f8 rfl rfl rfl rfl rfl rfl rfl ⟨rfl, rfl, rfl, rfl, rfl⟩ rfl rfl rfl rfl rfl (by kernel_rfl) Try.func8 FnExactLikeBase_closed
    (of_decide_eq_true (by kernel_rfl)) (by unfold Func.isWrapper; first | (rw [if_pos (by decide +kernel)]; kernel_rfl) | (rw [if_neg (by decide +kernel)]; exact ⟨rfl, rfl⟩))
    (fun os started H enc _ => FnExactLikeBase_lifted os started H enc)

end Go.Proofs.Yteolgjmeigifbaa
