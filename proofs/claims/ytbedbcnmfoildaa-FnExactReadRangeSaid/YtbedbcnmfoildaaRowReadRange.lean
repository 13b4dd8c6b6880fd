/- The statement FnExactReadRangeSaid is proved: for every input the law FnExactReadRange hands back true, and its arguments read as they did. Conditions: none beyond the statement. -/
import Derived.Test.YtbedbcnmfoildaaReadRangeS1
import Derived.Test.YtbedbcnmfoildaaReadRangeR2
import Derived.Test.YtbedbcnmfoildaaV26
import Derived.Test.YtbedbcnmfoildaaRows
import Derived.ProofKit
namespace Go.Proofs.Ytbedbcnmfoildaa
open Go.ChangeShapes Go.WideShapes Go.ChangeAt Go.RowKit Go.VE

theorem Try.own : ownKnob Try.prog.godebug = none := by kernel_rfl
theorem Try.laidOut : laidOutB Try.prog = true := by kernel_rfl

theorem FnExactReadRange_g_law (x0 : (tTxn : Ty).D) (x1 : (tRange : Ty).D) (h0 : (tTxn : Ty).wf x0) (h1 : (tRange : Ty).wf x1) : laws_FnExactReadRange_g [(tTxn : Ty).toAV true x0, (tRange : Ty).toAV true x1] [] (fun v s => some ⟨.ret, [v], s⟩) = some ⟨.ret, [.bool true], []⟩ :=
  Eq.trans (by kernel_rfl) (law_FnExactReadRange x0 x1 h0 h1 (fun b => some ⟨.ret, [.bool b], []⟩))

set_option maxRecDepth 100000 in
theorem FnExactReadRange_lifted (os : Os) (started : os.Started) (H : Type) (enc : TypeId × Value → H) :
    ReturnsInHanded {} Try.checked os 8 .any (Rows.fnExactReadRangeSpec.pre6 enc Try.prog Try.f8 Rows.fnExactReadRangeRow.domain false) (Rows.fnExactReadRangeSpec.post enc Try.prog Try.f8 false true false false) := by
  refine returnsInHanded_of_change (C := Try.checked) Try.own started (by kernel_rfl) Try.func8
    (ChangeSpec.witness6 (enc := enc) (C := Try.checked) false ⟨#[], #[.agg #[.int .i64 0, .int .i64 0, .int .i64 0, .int .i64 0, .slice none 0 0, .slice none 0 0, .bool false, .string ⟨#[]⟩], .agg #[.string ⟨#[]⟩, .string ⟨#[]⟩]], []⟩ 8 (by kernel_rfl) (by kernel_rfl) (by kernel_rfl) (by kernel_rfl)) ?_
  intro W base args ds gs before hval0 hW hcnd _
  have hval : ∀ (j : Nat) t v, Try.f8.params[j]? = some t → args[j]? = some v → Value.okWide Try.prog W .any base t v := hval0
  have hW' := hW
  obtain ⟨p, q, hA0, hV, rfl, hfz, hnd⟩ := hW
  have hA : DataW.TrodAll enc Try.prog W 0 (fun _ => true) true Try.f8.params.toList args.toList ds p := hA0
  rw [Try.params8] at hA hval
  obtain ⟨v0, v1, d0, d1, p0, p1, rfl, rfl, rfl, g0, g1⟩ := trodAll_two hA
  obtain ⟨rfl, rfl⟩ := trodVars_none hV
  obtain ⟨x0, w0, r0⟩ := arg_rv (n := 8) (T := (tTxn : Ty)) (ag := true) (by kernel_rfl) (by kernel_rfl) (hval 0 38 v0 rfl rfl) g0
  obtain ⟨x1, w1, r1⟩ := arg_rv (n := 8) (T := (tRange : Ty)) (ag := true) (by kernel_rfl) (by kernel_rfl) (hval 1 74 v1 rfl rfl) g1
  have hc := row_call (W := W) laws_FnExactReadRange_c (FnExactReadRange_g_law x0 x1 w0 w1) (cargs := [v0, v1]) (by simp only [RVs]; exact ⟨v0, _, rfl, r0 _ _, v1, _, rfl, r1 _ _, rfl⟩)
  refine hc.mono fun e W' ⟨⟨cv, he, μ', X, hcv⟩, hb⟩ => ?_
  simp only [RV] at hcv
  subst hcv
  subst he
  exact ⟨_, rfl, row_end hW' rfl rfl (t := 4) (by kernel_rfl) (by kernel_rfl) Try.laidOut (by rw [Try.params8]; intro u hu; simp at hu; rcases hu with rfl | rfl <;> exact ⟨by kernel_rfl, of_decide_eq_true (by kernel_rfl)⟩) hb⟩

theorem FnExactReadRange_holds : Rows.FnExactReadRangeSaid :=
  OpenClaim.holds_of_wide 8 Try.f8 rfl rfl rfl rfl rfl rfl rfl ⟨rfl, rfl, rfl, rfl, rfl⟩ rfl rfl rfl rfl rfl (by kernel_rfl) Try.func8 (by kernel_rfl)
    (of_decide_eq_true (by kernel_rfl)) (by unfold Func.isWrapper; first | (rw [if_pos (by decide +kernel)]; kernel_rfl) | (rw [if_neg (by decide +kernel)]; exact ⟨rfl, rfl⟩))
    (fun os started H enc _ => FnExactReadRange_lifted os started H enc)

end Go.Proofs.Ytbedbcnmfoildaa
