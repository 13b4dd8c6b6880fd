/- The statement FnExactRecordTextSaid is proved: for every input the law FnExactRecordText hands back true, and its arguments read as they did. Conditions: none beyond the statement. -/
import Derived.Test.YteolgjmeigifbaaRecordTextS2
import Derived.Test.YteolgjmeigifbaaRecordTextR2
import Derived.Test.YteolgjmeigifbaaV26
import Derived.Test.YteolgjmeigifbaaRows
import Derived.ProofKit
namespace Go.Proofs.Yteolgjmeigifbaa
open Go.ChangeShapes Go.WideShapes Go.ChangeAt Go.RowKit Go.VE

theorem Try.own : ownKnob Try.prog.godebug = none := by kernel_rfl
theorem Try.laidOut : laidOutB Try.prog = true := by kernel_rfl

theorem FnExactRecordText_g_law (x0 : (tRecord : Ty).D) (h0 : (tRecord : Ty).wf x0) : laws_FnExactRecordText_g [(tRecord : Ty).toAV true x0] [] (fun v s => some ⟨.ret, [v], s⟩) = some ⟨.ret, [.bool true], []⟩ :=
  Eq.trans (by kernel_rfl) (law_FnExactRecordText x0 h0 (fun b => some ⟨.ret, [.bool b], []⟩))

set_option maxRecDepth 100000 in
theorem FnExactRecordText_lifted (os : Os) (started : os.Started) (H : Type) (enc : TypeId × Value → H) :
    ReturnsInHanded {} Try.checked os 4 .any (Rows.fnExactRecordTextSpec.pre6 enc Try.prog Try.f4 Rows.fnExactRecordTextRow.domain false) (Rows.fnExactRecordTextSpec.post enc Try.prog Try.f4 false true false false) := by
  refine returnsInHanded_of_change (C := Try.checked) Try.own started (by kernel_rfl) Try.func4
    (ChangeSpec.witness6 (enc := enc) (C := Try.checked) false ⟨#[], #[.agg #[.int .i64 0, .int .i64 0, .int .i64 0, .int .i64 0, .int .i64 0, .slice none 0 0, .slice none 0 0, .bool false, .string ⟨#[]⟩, .string ⟨#[]⟩, .bool false, .slice none 0 0, .slice none 0 0, .slice none 0 0, .int .i64 0, .int .i64 0]], []⟩ 8 (by kernel_rfl) (by kernel_rfl) (by kernel_rfl) (by kernel_rfl)) ?_
  intro W base args ds gs before hval0 hW hcnd _
  have hval : ∀ (j : Nat) t v, Try.f4.params[j]? = some t → args[j]? = some v → Value.okWide Try.prog W .any base t v := hval0
  have hW' := hW
  obtain ⟨p, q, hA0, hV, rfl, hfz, hnd⟩ := hW
  have hA : DataW.TrodAll enc Try.prog W 0 (fun _ => true) true Try.f4.params.toList args.toList ds p := hA0
  rw [Try.params4] at hA hval
  obtain ⟨v0, d0, rfl, rfl, g0⟩ := trodAll_one hA
  obtain ⟨rfl, rfl⟩ := trodVars_none hV
  obtain ⟨x0, w0, r0⟩ := arg_rv (n := 8) (T := (tRecord : Ty)) (ag := true) (by kernel_rfl) (by kernel_rfl) (hval 0 54 v0 rfl rfl) g0
  have hc := row_call (W := W) laws_FnExactRecordText_c (FnExactRecordText_g_law x0 w0) (cargs := [v0]) (by simp only [RVs]; exact ⟨v0, _, rfl, r0 _ _, rfl⟩)
  refine hc.mono fun e W' ⟨⟨cv, he, μ', X, hcv⟩, hb⟩ => ?_
  simp only [RV] at hcv
  subst hcv
  subst he
  exact ⟨_, rfl, row_end hW' rfl rfl (t := 4) (by kernel_rfl) (by kernel_rfl) Try.laidOut (by rw [Try.params4]; intro u hu; simp at hu; subst hu; exact ⟨by kernel_rfl, of_decide_eq_true (by kernel_rfl)⟩) hb⟩

theorem FnExactRecordText_j0 : mapsRowed Try.prog = true := by kernel_rfl
theorem FnExactRecordText_j1 : (Rows.fnExactRecordTextRow.inPlace == Try.prog.inPlace 4) = true := by kernel_rfl
theorem FnExactRecordText_j2 : (Rows.fnExactRecordTextRow.unfollowed == Try.prog.unfollowed 4) = true := by kernel_rfl
theorem FnExactRecordText_j3 : (Rows.fnExactRecordTextRow.recurses == Try.prog.recurses 4) = true := by kernel_rfl
theorem FnExactRecordText_j4 : (Rows.fnExactRecordTextRow.named == Try.prog.varsNamed 4) = true := by kernel_rfl
theorem FnExactRecordText_j5 : (Rows.fnExactRecordTextRow.lifted == Try.prog.liftsFinal) = true := by kernel_rfl
theorem FnExactRecordText_j6 : Try.prog.stopsHeard = true := by kernel_rfl
theorem FnExactRecordText_j7 : Try.prog.mayEnter = true := by kernel_rfl
theorem FnExactRecordText_j8 : (Rows.fnExactRecordTextRow.wf (OpenSpec.ofChange Rows.fnExactRecordTextSpec)) = true := by kernel_rfl
theorem andB {a b : Bool} (ha : a = true) (hb : b = true) : (a && b) = true := by rw [ha, hb]; rfl

theorem FnExactRecordText_closed : joinedFacts Try.prog 4 Try.f4 Rows.fnExactRecordTextSpec Rows.fnExactRecordTextRow = true := by
  unfold joinedFacts
  exact (andB (andB (andB (andB (andB (andB (andB (andB (andB (andB (andB (andB (andB (andB (andB (andB (andB (andB (andB (andB (andB (andB (andB (andB (andB (andB (andB (andB (andB (andB (andB FnExactRecordText_j8 Try.laidOut) FnExactRecordText_j0) (by kernel_rfl)) (by kernel_rfl)) (by kernel_rfl)) (by kernel_rfl)) (by kernel_rfl)) (by kernel_rfl)) FnExactRecordText_j1) FnExactRecordText_j2) FnExactRecordText_j3) FnExactRecordText_j4) (by kernel_rfl)) (by kernel_rfl)) (by kernel_rfl)) (by kernel_rfl)) (by kernel_rfl)) (by kernel_rfl)) (by kernel_rfl)) (by kernel_rfl)) (by kernel_rfl)) (by kernel_rfl)) (by kernel_rfl)) FnExactRecordText_j6) FnExactRecordText_j7) FnExactRecordText_j5) (by kernel_rfl)) (by kernel_rfl)) (by kernel_rfl)) (by kernel_rfl)) (by kernel_rfl))

theorem FnExactRecordText_holds : Rows.FnExactRecordTextSaid :=
  OpenClaim.holds_of_wide 4 Try.f4 rfl rfl rfl rfl rfl rfl rfl ⟨rfl, rfl, rfl, rfl, rfl⟩ rfl rfl rfl rfl rfl (by kernel_rfl) Try.func4 FnExactRecordText_closed
    (of_decide_eq_true (by kernel_rfl)) (by unfold Func.isWrapper; first | (rw [if_pos (by decide +kernel)]; kernel_rfl) | (rw [if_neg (by decide +kernel)]; exact ⟨rfl, rfl⟩))
    (fun os started H enc _ => FnExactRecordText_lifted os started H enc)

end Go.Proofs.Yteolgjmeigifbaa
