/- The statement FnExactReadTxnSaid is proved: for every input the law FnExactReadTxn hands back true, and its arguments read as they did. Conditions: none beyond the statement. -/
import Derived.Test.YtbedbcnmfoildaaReadTxnS1
import Derived.Test.YtbedbcnmfoildaaReadTxnR2
import Derived.Test.YtbedbcnmfoildaaV26
import Derived.Test.YtbedbcnmfoildaaRows
import Derived.ProofKit
namespace Go.Proofs.Ytbedbcnmfoildaa
open Go.ChangeShapes Go.WideShapes Go.ChangeAt Go.RowKit Go.VE

theorem Try.own : ownKnob Try.prog.godebug = none := by kernel_rfl
theorem Try.laidOut : laidOutB Try.prog = true := by kernel_rfl

theorem FnExactReadTxn_g_law (x0 : (.str : Ty).D) (x1 : ((.int .i64) : Ty).D) (h0 : (.str : Ty).wf x0) (h1 : ((.int .i64) : Ty).wf x1) : laws_FnExactReadTxn_g [(.str : Ty).toAV false x0, ((.int .i64) : Ty).toAV false x1] [] (fun v s => some ⟨.ret, [v], s⟩) = some ⟨.ret, [.bool true], []⟩ :=
  Eq.trans (by kernel_rfl) (law_FnExactReadTxn x0 x1 h0 h1 (fun b => some ⟨.ret, [.bool b], []⟩))

set_option maxRecDepth 100000 in
theorem FnExactReadTxn_lifted (os : Os) (started : os.Started) (H : Type) (enc : TypeId × Value → H) :
    ReturnsInHanded {} Try.checked os 9 .any (Rows.fnExactReadTxnSpec.pre6 enc Try.prog Try.f9 Rows.fnExactReadTxnRow.domain false) (Rows.fnExactReadTxnSpec.post enc Try.prog Try.f9 false true false false) := by
  refine returnsInHanded_of_change (C := Try.checked) Try.own started (by kernel_rfl) Try.func9
    (ChangeSpec.witness6 (enc := enc) (C := Try.checked) false ⟨#[], #[.string ⟨#[]⟩, .int .i64 0], []⟩ 8 (by kernel_rfl) (by kernel_rfl) (by kernel_rfl) (by kernel_rfl)) ?_
  intro W base args ds gs before hval0 hW hcnd _
  have hval : ∀ (j : Nat) t v, Try.f9.params[j]? = some t → args[j]? = some v → Value.okWide Try.prog W .any base t v := hval0
  have hW' := hW
  obtain ⟨p, q, hA0, hV, rfl, hfz, hnd⟩ := hW
  have hA : DataW.TrodAll enc Try.prog W 0 (fun _ => true) true Try.f9.params.toList args.toList ds p := hA0
  rw [Try.params9] at hA hval
  obtain ⟨v0, v1, d0, d1, p0, p1, rfl, rfl, rfl, g0, g1⟩ := trodAll_two hA
  obtain ⟨rfl, rfl⟩ := trodVars_none hV
  obtain ⟨x0, w0, r0⟩ := arg_rv (n := 8) (T := (.str : Ty)) (ag := false) (by kernel_rfl) (by kernel_rfl) (hval 0 9 v0 rfl rfl) g0
  obtain ⟨x1, w1, r1⟩ := arg_rv (n := 8) (T := ((.int .i64) : Ty)) (ag := false) (by kernel_rfl) (by kernel_rfl) (hval 1 3 v1 rfl rfl) g1
  have hc := row_call (W := W) laws_FnExactReadTxn_c (FnExactReadTxn_g_law x0 x1 w0 w1) (cargs := [v0, v1]) (by simp only [RVs]; exact ⟨v0, _, rfl, r0 _ _, v1, _, rfl, r1 _ _, rfl⟩)
  refine hc.mono fun e W' ⟨⟨cv, he, μ', X, hcv⟩, hb⟩ => ?_
  simp only [RV] at hcv
  subst hcv
  subst he
  exact ⟨_, rfl, row_end hW' rfl rfl (t := 4) (by kernel_rfl) (by kernel_rfl) Try.laidOut (by rw [Try.params9]; intro u hu; simp at hu; rcases hu with rfl | rfl <;> exact ⟨by kernel_rfl, of_decide_eq_true (by kernel_rfl)⟩) hb⟩

theorem FnExactReadTxn_j0 : mapsRowed Try.prog = true := by kernel_rfl
theorem FnExactReadTxn_j1 : (Rows.fnExactReadTxnRow.inPlace == Try.prog.inPlace 9) = true := by kernel_rfl
theorem FnExactReadTxn_j2 : (Rows.fnExactReadTxnRow.unfollowed == Try.prog.unfollowed 9) = true := by kernel_rfl
theorem FnExactReadTxn_j3 : (Rows.fnExactReadTxnRow.recurses == Try.prog.recurses 9) = true := by kernel_rfl
theorem FnExactReadTxn_j4 : (Rows.fnExactReadTxnRow.named == Try.prog.varsNamed 9) = true := by kernel_rfl
theorem FnExactReadTxn_j5 : (Rows.fnExactReadTxnRow.lifted == Try.prog.liftsFinal) = true := by kernel_rfl
theorem FnExactReadTxn_j6 : Try.prog.stopsHeard = true := by kernel_rfl
theorem FnExactReadTxn_j7 : Try.prog.mayEnter = true := by kernel_rfl
theorem FnExactReadTxn_j8 : (Rows.fnExactReadTxnRow.wf (OpenSpec.ofChange Rows.fnExactReadTxnSpec)) = true := by kernel_rfl
theorem andB {a b : Bool} (ha : a = true) (hb : b = true) : (a && b) = true := by rw [ha, hb]; rfl

theorem FnExactReadTxn_closed : joinedFacts Try.prog 9 Try.f9 Rows.fnExactReadTxnSpec Rows.fnExactReadTxnRow = true := by
  unfold joinedFacts
  exact (andB (andB (andB (andB (andB (andB (andB (andB (andB (andB (andB (andB (andB (andB (andB (andB (andB (andB (andB (andB (andB (andB (andB (andB (andB (andB (andB (andB (andB (andB (andB FnExactReadTxn_j8 Try.laidOut) FnExactReadTxn_j0) (by kernel_rfl)) (by kernel_rfl)) (by kernel_rfl)) (by kernel_rfl)) (by kernel_rfl)) (by kernel_rfl)) FnExactReadTxn_j1) FnExactReadTxn_j2) FnExactReadTxn_j3) FnExactReadTxn_j4) (by kernel_rfl)) (by kernel_rfl)) (by kernel_rfl)) (by kernel_rfl)) (by kernel_rfl)) (by kernel_rfl)) (by kernel_rfl)) (by kernel_rfl)) (by kernel_rfl)) (by kernel_rfl)) (by kernel_rfl)) FnExactReadTxn_j6) FnExactReadTxn_j7) FnExactReadTxn_j5) (by kernel_rfl)) (by kernel_rfl)) (by kernel_rfl)) (by kernel_rfl)) (by kernel_rfl))

theorem FnExactReadTxn_holds : Rows.FnExactReadTxnSaid :=
  OpenClaim.holds_of_wide 9 Try.f9 rfl rfl rfl rfl rfl rfl rfl ⟨rfl, rfl, rfl, rfl, rfl⟩ rfl rfl rfl rfl rfl (by kernel_rfl) Try.func9 FnExactReadTxn_closed
    (of_decide_eq_true (by kernel_rfl)) (by unfold Func.isWrapper; first | (rw [if_pos (by decide +kernel)]; kernel_rfl) | (rw [if_neg (by decide +kernel)]; exact ⟨rfl, rfl⟩))
    (fun os started H enc _ => FnExactReadTxn_lifted os started H enc)

end Go.Proofs.Ytbedbcnmfoildaa
