/- The statement FnExactReadBaseSaid is proved: for every input the law FnExactReadBase hands back true, and its arguments read as they did. Conditions: none beyond the statement. -/
import Derived.Test.YtpmahbmokfaflaaReadBaseS2
import Derived.Test.YtpmahbmokfaflaaReadBaseR2
import Derived.Test.YtpmahbmokfaflaaU26
import Derived.Test.YtpmahbmokfaflaaRows
import Derived.ProofKit
namespace Go.Proofs.Ytpmahbmokfaflaa
open Go.ChangeShapes Go.WideShapes Go.ChangeAt Go.RowKit Go.VE
theorem Try.own : ownKnob Try.prog.godebug = none := by kernel_rfl
theorem Try.laidOut : laidOutB Try.prog = true := by kernel_rfl
theorem vmr (x0 : (.str : Ty).D) (x1 : ((.int .i64) : Ty).D) (h0 : (.str : Ty).wf x0) (h1 : ((.int .i64) : Ty).wf x1) : wen [(.str : Ty).toAV false x0, ((.int .i64) : Ty).toAV false x1] [] (fun v s => some ⟨.ret, [v], s⟩) = some ⟨.ret, [.bool true], []⟩ :=
  Eq.trans (by kernel_rfl) (vrb x0 x1 h0 h1 (fun b => some ⟨.ret, [.bool b], []⟩))
set_option maxRecDepth 100000 in
theorem vma (os : Os) (started : os.Started) (H : Type) (enc : TypeId × Value → H) :
    ReturnsInHanded {} Try.checked os 12 .any (Rows.fnExactReadBaseSpec.pre6 enc Try.prog Try.f12 Rows.fnExactReadBaseRow.domain false) (Rows.fnExactReadBaseSpec.post enc Try.prog Try.f12 false true false false) := by
  refine returnsInHanded_of_change (C := Try.checked) Try.own started (by kernel_rfl) Try.func12
    (ChangeSpec.witness6 (enc := enc) (C := Try.checked) false ⟨#[], #[.string ⟨#[]⟩, .int .i64 0], []⟩ 8 (by kernel_rfl) (by kernel_rfl) (by kernel_rfl) (by kernel_rfl)) ?_
  intro W base args ds gs before hval0 hW hcnd _
  have hval : ∀ (j : Nat) t v, Try.f12.params[j]? = some t → args[j]? = some v → Value.okWide Try.prog W .any base t v := hval0
  have hW' := hW
  obtain ⟨p, q, hA0, hV, rfl, hfz, hnd⟩ := hW
  have hA : DataW.TrodAll enc Try.prog W 0 (fun _ => true) true Try.f12.params.toList args.toList ds p := hA0
  rw [Try.params12] at hA hval
  obtain ⟨v0, v1, d0, d1, p0, p1, rfl, rfl, rfl, g0, g1⟩ := trodAll_two hA
  obtain ⟨rfl, rfl⟩ := trodVars_none hV
  obtain ⟨x0, w0, r0⟩ := wuh (n := 8) (T := (.str : Ty)) (ag := false) (by kernel_rfl) (by kernel_rfl) (hval 0 9 v0 rfl rfl) g0
  obtain ⟨x1, w1, r1⟩ := wuh (n := 8) (T := ((.int .i64) : Ty)) (ag := false) (by kernel_rfl) (by kernel_rfl) (hval 1 3 v1 rfl rfl) g1
  have hc := wpe (W := W) wug (vmr x0 x1 w0 w1) (cargs := [v0, v1]) (by simp only [RVs]; exact ⟨v0, _, rfl, r0 _ _, v1, _, rfl, r1 _ _, rfl⟩)
  refine hc.mono fun e W' ⟨⟨cv, he, μ', X, hcv⟩, hb⟩ => ?_
  simp only [RV] at hcv
  subst hcv
  subst he
  exact ⟨_, rfl, wu6 hW' rfl rfl (t := 4) (by kernel_rfl) (by kernel_rfl) Try.laidOut (by rw [Try.params12]; intro u hu; simp at hu; rcases hu with rfl | rfl <;> exact ⟨by kernel_rfl, of_decide_eq_true (by kernel_rfl)⟩) hb⟩
theorem vr8 : mapsRowed Try.prog = true := by kernel_rfl
theorem vsa : (Rows.fnExactReadBaseRow.inPlace == Try.prog.inPlace 12) = true := by kernel_rfl
theorem vrv : (Rows.fnExactReadBaseRow.unfollowed == Try.prog.unfollowed 12) = true := by kernel_rfl
theorem vsb : (Rows.fnExactReadBaseRow.recurses == Try.prog.recurses 12) = true := by kernel_rfl
theorem vso : (Rows.fnExactReadBaseRow.named == Try.prog.varsNamed 12) = true := by kernel_rfl
theorem vse : (Rows.fnExactReadBaseRow.lifted == Try.prog.liftsFinal) = true := by kernel_rfl
theorem vr4 : Try.prog.stopsHeard = true := by kernel_rfl
theorem vr5 : Try.prog.mayEnter = true := by kernel_rfl
theorem vsn : (Rows.fnExactReadBaseRow.wf (OpenSpec.ofChange Rows.fnExactReadBaseSpec)) = true := by kernel_rfl
theorem andB {a b : Bool} (ha : a = true) (hb : b = true) : (a && b) = true := by rw [ha, hb]; rfl
theorem vmb : joinedFacts Try.prog 12 Try.f12 Rows.fnExactReadBaseSpec Rows.fnExactReadBaseRow = true := by
  unfold joinedFacts
  exact (andB (andB (andB (andB (andB (andB (andB (andB (andB (andB (andB (andB (andB (andB (andB (andB (andB (andB (andB (andB (andB (andB (andB (andB (andB (andB (andB (andB (andB (andB (andB vsn Try.laidOut) vr8) (by kernel_rfl)) (by kernel_rfl)) (by kernel_rfl)) (by kernel_rfl)) (by kernel_rfl)) (by kernel_rfl)) vsa) vrv) vsb) vso) (by kernel_rfl)) (by kernel_rfl)) (by kernel_rfl)) (by kernel_rfl)) (by kernel_rfl)) (by kernel_rfl)) (by kernel_rfl)) (by kernel_rfl)) (by kernel_rfl)) (by kernel_rfl)) (by kernel_rfl)) vr4) vr5) vse) (by kernel_rfl)) (by kernel_rfl)) (by kernel_rfl)) (by kernel_rfl)) (by kernel_rfl))
theorem FnExactReadBase_holds : Rows.FnExactReadBaseSaid :=
  OpenClaim.holds_of_wide 12 Try.f12 rfl rfl rfl rfl rfl rfl rfl ⟨rfl, rfl, rfl, rfl, rfl⟩ rfl rfl rfl rfl rfl (by kernel_rfl) Try.func12 vmb
    (of_decide_eq_true (by kernel_rfl)) (by unfold Func.isWrapper; first | (rw [if_pos (by decide +kernel)]; kernel_rfl) | (rw [if_neg (by decide +kernel)]; exact ⟨rfl, rfl⟩))
    (fun os started H enc _ => vma os started H enc)
end Go.Proofs.Ytpmahbmokfaflaa
