/- The statement FnExactInDoubtSaid is proved: for every input the law FnExactInDoubt hands back true, and its arguments read as they did. Conditions: none beyond the statement. -/
import Derived.Test.YtpmahbmokfaflaaInDoubtS1
import Derived.Test.YtpmahbmokfaflaaInDoubtR2
import Derived.Test.YtpmahbmokfaflaaU26
import Derived.Test.YtpmahbmokfaflaaRows
import Derived.ProofKit
namespace Go.Proofs.Ytpmahbmokfaflaa
open Go.ChangeShapes Go.WideShapes Go.ChangeAt Go.RowKit Go.VE

theorem Try.own : ownKnob Try.prog.godebug = none := by kernel_rfl
theorem Try.laidOut : laidOutB Try.prog = true := by kernel_rfl

theorem FnExactInDoubt_g_law (x0 : (tStore : Ty).D) (h0 : (tStore : Ty).wf x0) : laws_FnExactInDoubt_g [(tStore : Ty).toAV true x0] [] (fun v s => some ⟨.ret, [v], s⟩) = some ⟨.ret, [.bool true], []⟩ :=
  Eq.trans (by kernel_rfl) (law_FnExactInDoubt x0 h0 (fun b => some ⟨.ret, [.bool b], []⟩))

set_option maxRecDepth 100000 in
theorem FnExactInDoubt_lifted (os : Os) (started : os.Started) (H : Type) (enc : TypeId × Value → H) :
    ReturnsInHanded {} Try.checked os 3 .any (Rows.fnExactInDoubtSpec.pre6 enc Try.prog Try.f3 Rows.fnExactInDoubtRow.domain false) (Rows.fnExactInDoubtSpec.post enc Try.prog Try.f3 false true false false) := by
  refine returnsInHanded_of_change (C := Try.checked) Try.own started (by kernel_rfl) Try.func3
    (ChangeSpec.witness6 (enc := enc) (C := Try.checked) false ⟨#[], #[.agg #[.slice none 0 0, .slice none 0 0, .slice none 0 0, .int .i64 0, .int .i64 0, .slice none 0 0, .slice none 0 0, .slice none 0 0]], []⟩ 8 (by kernel_rfl) (by kernel_rfl) (by kernel_rfl) (by kernel_rfl)) ?_
  intro W base args ds gs before hval0 hW hcnd _
  have hval : ∀ (j : Nat) t v, Try.f3.params[j]? = some t → args[j]? = some v → Value.okWide Try.prog W .any base t v := hval0
  have hW' := hW
  obtain ⟨p, q, hA0, hV, rfl, hfz, hnd⟩ := hW
  have hA : DataW.TrodAll enc Try.prog W 0 (fun _ => true) true Try.f3.params.toList args.toList ds p := hA0
  rw [Try.params3] at hA hval
  obtain ⟨v0, d0, rfl, rfl, g0⟩ := trodAll_one hA
  obtain ⟨rfl, rfl⟩ := trodVars_none hV
  obtain ⟨x0, w0, r0⟩ := arg_rv (n := 8) (T := (tStore : Ty)) (ag := true) (by kernel_rfl) (by kernel_rfl) (hval 0 33 v0 rfl rfl) g0
  have hc := row_call (W := W) laws_FnExactInDoubt_c (FnExactInDoubt_g_law x0 w0) (cargs := [v0]) (by simp only [RVs]; exact ⟨v0, _, rfl, r0 _ _, rfl⟩)
  refine hc.mono fun e W' ⟨⟨cv, he, μ', X, hcv⟩, hb⟩ => ?_
  simp only [RV] at hcv
  subst hcv
  subst he
  exact ⟨_, rfl, row_end hW' rfl rfl (t := 4) (by kernel_rfl) (by kernel_rfl) Try.laidOut (by rw [Try.params3]; intro u hu; simp at hu; subst hu; exact ⟨by kernel_rfl, of_decide_eq_true (by kernel_rfl)⟩) hb⟩

theorem FnExactInDoubt_j0 : mapsRowed Try.prog = true := by kernel_rfl
theorem FnExactInDoubt_j1 : (Rows.fnExactInDoubtRow.inPlace == Try.prog.inPlace 3) = true := by kernel_rfl
theorem FnExactInDoubt_j2 : (Rows.fnExactInDoubtRow.unfollowed == Try.prog.unfollowed 3) = true := by kernel_rfl
theorem FnExactInDoubt_j3 : (Rows.fnExactInDoubtRow.recurses == Try.prog.recurses 3) = true := by kernel_rfl
theorem FnExactInDoubt_j4 : (Rows.fnExactInDoubtRow.named == Try.prog.varsNamed 3) = true := by kernel_rfl
theorem FnExactInDoubt_j5 : (Rows.fnExactInDoubtRow.lifted == Try.prog.liftsFinal) = true := by kernel_rfl
theorem FnExactInDoubt_j6 : Try.prog.stopsHeard = true := by kernel_rfl
theorem FnExactInDoubt_j7 : Try.prog.mayEnter = true := by kernel_rfl
theorem FnExactInDoubt_j8 : (Rows.fnExactInDoubtRow.wf (OpenSpec.ofChange Rows.fnExactInDoubtSpec)) = true := by kernel_rfl
theorem andB {a b : Bool} (ha : a = true) (hb : b = true) : (a && b) = true := by rw [ha, hb]; rfl

theorem FnExactInDoubt_closed : joinedFacts Try.prog 3 Try.f3 Rows.fnExactInDoubtSpec Rows.fnExactInDoubtRow = true := by
  unfold joinedFacts
  exact (andB (andB (andB (andB (andB (andB (andB (andB (andB (andB (andB (andB (andB (andB (andB (andB (andB (andB (andB (andB (andB (andB (andB (andB (andB (andB (andB (andB (andB (andB (andB FnExactInDoubt_j8 Try.laidOut) FnExactInDoubt_j0) (by kernel_rfl)) (by kernel_rfl)) (by kernel_rfl)) (by kernel_rfl)) (by kernel_rfl)) (by kernel_rfl)) FnExactInDoubt_j1) FnExactInDoubt_j2) FnExactInDoubt_j3) FnExactInDoubt_j4) (by kernel_rfl)) (by kernel_rfl)) (by kernel_rfl)) (by kernel_rfl)) (by kernel_rfl)) (by kernel_rfl)) (by kernel_rfl)) (by kernel_rfl)) (by kernel_rfl)) (by kernel_rfl)) (by kernel_rfl)) FnExactInDoubt_j6) FnExactInDoubt_j7) FnExactInDoubt_j5) (by kernel_rfl)) (by kernel_rfl)) (by kernel_rfl)) (by kernel_rfl)) (by kernel_rfl))

theorem FnExactInDoubt_holds : Rows.FnExactInDoubtSaid :=
  OpenClaim.holds_of_wide 3 Try.f3 rfl rfl rfl rfl rfl rfl rfl ⟨rfl, rfl, rfl, rfl, rfl⟩ rfl rfl rfl rfl rfl (by kernel_rfl) Try.func3 FnExactInDoubt_closed
    (of_decide_eq_true (by kernel_rfl)) (by unfold Func.isWrapper; first | (rw [if_pos (by decide +kernel)]; kernel_rfl) | (rw [if_neg (by decide +kernel)]; exact ⟨rfl, rfl⟩))
    (fun os started H enc _ => FnExactInDoubt_lifted os started H enc)

end Go.Proofs.Ytpmahbmokfaflaa
