/- The statement FnExactOpenAtSaid is proved: for every input the law FnExactOpenAt hands back true, and its arguments read as they did. Conditions: none beyond the statement. -/
import Derived.Test.YtbedbcnmfoildaaOpenAtS1
import Derived.Test.YtbedbcnmfoildaaOpenAtR2
import Derived.Test.YtbedbcnmfoildaaV26
import Derived.Test.YtbedbcnmfoildaaRows
import Derived.ProofKit
namespace Go.Proofs.Ytbedbcnmfoildaa
open Go.ChangeShapes Go.WideShapes Go.ChangeAt Go.RowKit Go.VE

theorem Try.own : ownKnob Try.prog.godebug = none := by kernel_rfl
theorem Try.laidOut : laidOutB Try.prog = true := by kernel_rfl

theorem FnExactOpenAt_g_law (x0 : (tEngine : Ty).D) (x1 : ((.int .i64) : Ty).D) (h0 : (tEngine : Ty).wf x0) (h1 : ((.int .i64) : Ty).wf x1) : laws_FnExactOpenAt_g [(tEngine : Ty).toAV true x0, ((.int .i64) : Ty).toAV false x1] [] (fun v s => some ⟨.ret, [v], s⟩) = some ⟨.ret, [.bool true], []⟩ :=
  Eq.trans (by kernel_rfl) (law_FnExactOpenAt x0 x1 h0 h1 (fun b => some ⟨.ret, [.bool b], []⟩))

set_option maxRecDepth 100000 in
theorem FnExactOpenAt_lifted (os : Os) (started : os.Started) (H : Type) (enc : TypeId × Value → H) :
    ReturnsInHanded {} Try.checked os 7 .any (Rows.fnExactOpenAtSpec.pre6 enc Try.prog Try.f7 Rows.fnExactOpenAtRow.domain false) (Rows.fnExactOpenAtSpec.post enc Try.prog Try.f7 false true false false) := by
  refine returnsInHanded_of_change (C := Try.checked) Try.own started (by kernel_rfl) Try.func7
    (ChangeSpec.witness6 (enc := enc) (C := Try.checked) false ⟨#[], #[.agg #[.slice none 0 0, .slice none 0 0, .slice none 0 0, .int .i64 0, .int .i64 0, .slice none 0 0], .int .i64 0], []⟩ 8 (by kernel_rfl) (by kernel_rfl) (by kernel_rfl) (by kernel_rfl)) ?_
  intro W base args ds gs before hval0 hW hcnd _
  have hval : ∀ (j : Nat) t v, Try.f7.params[j]? = some t → args[j]? = some v → Value.okWide Try.prog W .any base t v := hval0
  have hW' := hW
  obtain ⟨p, q, hA0, hV, rfl, hfz, hnd⟩ := hW
  have hA : DataW.TrodAll enc Try.prog W 0 (fun _ => true) true Try.f7.params.toList args.toList ds p := hA0
  rw [Try.params7] at hA hval
  obtain ⟨v0, v1, d0, d1, p0, p1, rfl, rfl, rfl, g0, g1⟩ := trodAll_two hA
  obtain ⟨rfl, rfl⟩ := trodVars_none hV
  obtain ⟨x0, w0, r0⟩ := arg_rv (n := 8) (T := (tEngine : Ty)) (ag := true) (by kernel_rfl) (by kernel_rfl) (hval 0 65 v0 rfl rfl) g0
  obtain ⟨x1, w1, r1⟩ := arg_rv (n := 8) (T := ((.int .i64) : Ty)) (ag := false) (by kernel_rfl) (by kernel_rfl) (hval 1 3 v1 rfl rfl) g1
  have hc := row_call (W := W) laws_FnExactOpenAt_c (FnExactOpenAt_g_law x0 x1 w0 w1) (cargs := [v0, v1]) (by simp only [RVs]; exact ⟨v0, _, rfl, r0 _ _, v1, _, rfl, r1 _ _, rfl⟩)
  refine hc.mono fun e W' ⟨⟨cv, he, μ', X, hcv⟩, hb⟩ => ?_
  simp only [RV] at hcv
  subst hcv
  subst he
  exact ⟨_, rfl, row_end hW' rfl rfl (t := 4) (by kernel_rfl) (by kernel_rfl) Try.laidOut (by rw [Try.params7]; intro u hu; simp at hu; rcases hu with rfl | rfl <;> exact ⟨by kernel_rfl, of_decide_eq_true (by kernel_rfl)⟩) hb⟩

theorem FnExactOpenAt_holds : Rows.FnExactOpenAtSaid :=
  OpenClaim.holds_of_wide 7 Try.f7 rfl rfl rfl rfl rfl rfl rfl ⟨rfl, rfl, rfl, rfl, rfl⟩ rfl rfl rfl rfl rfl (by kernel_rfl) Try.func7 (by kernel_rfl)
    (of_decide_eq_true (by kernel_rfl)) (by unfold Func.isWrapper; first | (rw [if_pos (by decide +kernel)]; kernel_rfl) | (rw [if_neg (by decide +kernel)]; exact ⟨rfl, rfl⟩))
    (fun os started H enc _ => FnExactOpenAt_lifted os started H enc)

end Go.Proofs.Ytbedbcnmfoildaa
