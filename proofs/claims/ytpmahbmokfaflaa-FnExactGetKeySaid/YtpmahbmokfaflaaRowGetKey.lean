/- The statement FnExactGetKeySaid is proved: for every input the law FnExactGetKey hands back true, and its arguments read as they did. Conditions: none beyond the statement. -/
import Derived.Test.YtpmahbmokfaflaaGetKeyS1
import Derived.Test.YtpmahbmokfaflaaGetKeyR2
import Derived.Test.YtpmahbmokfaflaaU26
import Derived.Test.YtpmahbmokfaflaaRows
import Derived.ProofKit
namespace Go.Proofs.Ytpmahbmokfaflaa
open Go.ChangeShapes Go.WideShapes Go.ChangeAt Go.RowKit Go.VE

theorem Try.own : ownKnob Try.prog.godebug = none := by kernel_rfl
theorem Try.laidOut : laidOutB Try.prog = true := by kernel_rfl

theorem FnExactGetKey_g_law (x0 : (tEngine : Ty).D) (x1 : ((.int .i64) : Ty).D) (x2 : (.str : Ty).D) (h0 : (tEngine : Ty).wf x0) (h1 : ((.int .i64) : Ty).wf x1) (h2 : (.str : Ty).wf x2) : n20n_g [(tEngine : Ty).toAV true x0, ((.int .i64) : Ty).toAV false x1, (.str : Ty).toAV false x2] [] (fun v s => some ⟨.ret, [v], s⟩) = some ⟨.ret, [.bool true], []⟩ :=
  Eq.trans (by kernel_rfl) (law_FnExactGetKey x0 x1 x2 h0 h1 h2 (fun b => some ⟨.ret, [.bool b], []⟩))

set_option maxRecDepth 100000 in
theorem FnExactGetKey_lifted (os : Os) (started : os.Started) (H : Type) (enc : TypeId × Value → H) :
    ReturnsInHanded {} Try.checked os 13 .any (Rows.fnExactGetKeySpec.pre6 enc Try.prog Try.f13 Rows.fnExactGetKeyRow.domain false) (Rows.fnExactGetKeySpec.post enc Try.prog Try.f13 false true false false) := by
  refine returnsInHanded_of_change (C := Try.checked) Try.own started (by kernel_rfl) Try.func13
    (ChangeSpec.witness6 (enc := enc) (C := Try.checked) false ⟨#[], #[.agg #[.slice none 0 0, .slice none 0 0, .slice none 0 0, .int .i64 0, .int .i64 0, .slice none 0 0], .int .i64 0, .string ⟨#[]⟩], []⟩ 8 (by kernel_rfl) (by kernel_rfl) (by kernel_rfl) (by kernel_rfl)) ?_
  intro W base args ds gs before hval0 hW hcnd _
  have hval : ∀ (j : Nat) t v, Try.f13.params[j]? = some t → args[j]? = some v → Value.okWide Try.prog W .any base t v := hval0
  have hW' := hW
  obtain ⟨p, q, hA0, hV, rfl, hfz, hnd⟩ := hW
  have hA : DataW.TrodAll enc Try.prog W 0 (fun _ => true) true Try.f13.params.toList args.toList ds p := hA0
  rw [Try.params13] at hA hval
  obtain ⟨v0, v1, v2, d0, d1, d2, p0, p1, p2, rfl, rfl, rfl, g0, g1, g2⟩ := trodAll_three hA
  obtain ⟨rfl, rfl⟩ := trodVars_none hV
  obtain ⟨x0, w0, r0⟩ := arg_rv (n := 8) (T := (tEngine : Ty)) (ag := true) (by kernel_rfl) (by kernel_rfl) (hval 0 27 v0 rfl rfl) g0
  obtain ⟨x1, w1, r1⟩ := arg_rv (n := 8) (T := ((.int .i64) : Ty)) (ag := false) (by kernel_rfl) (by kernel_rfl) (hval 1 3 v1 rfl rfl) g1
  obtain ⟨x2, w2, r2⟩ := arg_rv (n := 8) (T := (.str : Ty)) (ag := false) (by kernel_rfl) (by kernel_rfl) (hval 2 9 v2 rfl rfl) g2
  have hc := row_call (W := W) n20n_c (FnExactGetKey_g_law x0 x1 x2 w0 w1 w2) (cargs := [v0, v1, v2]) (by simp only [RVs]; exact ⟨v0, _, rfl, r0 _ _, v1, _, rfl, r1 _ _, v2, _, rfl, r2 _ _, rfl⟩)
  refine hc.mono fun e W' ⟨⟨cv, he, μ', X, hcv⟩, hb⟩ => ?_
  simp only [RV] at hcv
  subst hcv
  subst he
  exact ⟨_, rfl, row_end hW' rfl rfl (t := 4) (by kernel_rfl) (by kernel_rfl) Try.laidOut (by rw [Try.params13]; intro u hu; simp at hu; rcases hu with rfl | rfl | rfl <;> exact ⟨by kernel_rfl, of_decide_eq_true (by kernel_rfl)⟩) hb⟩

theorem FnExactGetKey_j0 : mapsRowed Try.prog = true := by kernel_rfl
theorem FnExactGetKey_j1 : (Rows.fnExactGetKeyRow.inPlace == Try.prog.inPlace 13) = true := by kernel_rfl
theorem FnExactGetKey_j2 : (Rows.fnExactGetKeyRow.unfollowed == Try.prog.unfollowed 13) = true := by kernel_rfl
theorem FnExactGetKey_j3 : (Rows.fnExactGetKeyRow.recurses == Try.prog.recurses 13) = true := by kernel_rfl
theorem FnExactGetKey_j4 : (Rows.fnExactGetKeyRow.named == Try.prog.varsNamed 13) = true := by kernel_rfl
theorem FnExactGetKey_j5 : (Rows.fnExactGetKeyRow.lifted == Try.prog.liftsFinal) = true := by kernel_rfl
theorem FnExactGetKey_j6 : Try.prog.stopsHeard = true := by kernel_rfl
theorem FnExactGetKey_j7 : Try.prog.mayEnter = true := by kernel_rfl
theorem FnExactGetKey_j8 : (Rows.fnExactGetKeyRow.wf (OpenSpec.ofChange Rows.fnExactGetKeySpec)) = true := by kernel_rfl
theorem andB {a b : Bool} (ha : a = true) (hb : b = true) : (a && b) = true := by rw [ha, hb]; rfl

theorem FnExactGetKey_closed : joinedFacts Try.prog 13 Try.f13 Rows.fnExactGetKeySpec Rows.fnExactGetKeyRow = true := by
  unfold joinedFacts
  exact (andB (andB (andB (andB (andB (andB (andB (andB (andB (andB (andB (andB (andB (andB (andB (andB (andB (andB (andB (andB (andB (andB (andB (andB (andB (andB (andB (andB (andB (andB (andB FnExactGetKey_j8 Try.laidOut) FnExactGetKey_j0) (by kernel_rfl)) (by kernel_rfl)) (by kernel_rfl)) (by kernel_rfl)) (by kernel_rfl)) (by kernel_rfl)) FnExactGetKey_j1) FnExactGetKey_j2) FnExactGetKey_j3) FnExactGetKey_j4) (by kernel_rfl)) (by kernel_rfl)) (by kernel_rfl)) (by kernel_rfl)) (by kernel_rfl)) (by kernel_rfl)) (by kernel_rfl)) (by kernel_rfl)) (by kernel_rfl)) (by kernel_rfl)) (by kernel_rfl)) FnExactGetKey_j6) FnExactGetKey_j7) FnExactGetKey_j5) (by kernel_rfl)) (by kernel_rfl)) (by kernel_rfl)) (by kernel_rfl)) (by kernel_rfl))

theorem FnExactGetKey_holds : Rows.FnExactGetKeySaid :=
  OpenClaim.holds_of_wide 13 Try.f13 rfl rfl rfl rfl rfl rfl rfl ⟨rfl, rfl, rfl, rfl, rfl⟩ rfl rfl rfl rfl rfl (by kernel_rfl) Try.func13 FnExactGetKey_closed
    (of_decide_eq_true (by kernel_rfl)) (by unfold Func.isWrapper; first | (rw [if_pos (by decide +kernel)]; kernel_rfl) | (rw [if_neg (by decide +kernel)]; exact ⟨rfl, rfl⟩))
    (fun os started H enc _ => FnExactGetKey_lifted os started H enc)

end Go.Proofs.Ytpmahbmokfaflaa
