/- The statement FnTidySaid is proved: for every input the law FnTidy hands back true, and its arguments read as they did. Conditions: none beyond the statement. -/
import Derived.Test.YtpljjegocfmbeaaGreatQS2
import Derived.Test.YtpljjegocfmbeaaGreatLA2
import Derived.Test.YtpljjegocfmbeaaGreatV26
import Derived.Test.YtpljjegocfmbeaaGreatRows
import Derived.ProofKit
namespace Go.Proofs.YtpljjegocfmbeaaGreat
open Go.ChangeShapes Go.WideShapes Go.ChangeAt Go.RowKit Go.VE

theorem Tryz.own : ownKnob Tryz.prog.godebug = none := by kernel_rfl
theorem Tryz.laidOut : laidOutB Tryz.prog = true := by kernel_rfl

theorem An.law {β : Type} {m : (β → Option Res) → Option Res} {y : β} (h : An m fun z => z = y) (k : β → Option Res) : m k = k y := by
  obtain ⟨z, rfl, h⟩ := h
  exact h k

theorem FnTidy_g_law (x0 : ((.slice (.int .u8)) : Ty).D) : g185.G.call 4 [((.slice (.int .u8)) : Ty).toAV false x0] [] (fun v s => some ⟨.ret, [v], s⟩) = some ⟨.ret, [.bool true], []⟩ :=
  Eq.trans (by kernel_rfl) (An.law (law_FnTidy x0) fun b => some ⟨.ret, [.bool b], []⟩)

set_option maxRecDepth 100000 in
theorem FnTidy_lifted (os : Os) (started : os.Started) (H : Type) (enc : TypeId × Value → H) :
    ReturnsInHanded {} Tryz.checked os 4 .any (Rows.fnTidySpec.pre6 enc Tryz.prog Tryz.f4 Rows.fnTidyRow.domain false) (Rows.fnTidySpec.post enc Tryz.prog Tryz.f4 false true false false) := by
  refine returnsInHanded_of_change (C := Tryz.checked) Tryz.own started (by kernel_rfl) Tryz.func4
    (ChangeSpec.witness6 (enc := enc) (C := Tryz.checked) false ⟨#[], #[.slice none 0 0], []⟩ 8 (by kernel_rfl) (by kernel_rfl) (by kernel_rfl) (by kernel_rfl)) ?_
  intro W base args ds gs before hval0 hW hcnd _
  have hval : ∀ (j : Nat) t v, Tryz.f4.params[j]? = some t → args[j]? = some v → Value.okWide Tryz.prog W .any base t v := hval0
  have hW' := hW
  obtain ⟨p, q, hA0, hV, rfl, hfz, hnd⟩ := hW
  have hA : DataW.TrodAll enc Tryz.prog W 0 (fun _ => true) true Tryz.f4.params.toList args.toList ds p := hA0
  rw [Tryz.params4] at hA hval
  obtain ⟨v0, d0, rfl, rfl, g0⟩ := trodAll_one hA
  obtain ⟨rfl, rfl⟩ := trodVars_none hV
  obtain ⟨x0, w0, r0⟩ := arg_rv (n := 8) (T := ((.slice (.int .u8)) : Ty)) (ag := false) (by kernel_rfl) (by kernel_rfl) (hval 0 22 v0 rfl rfl) g0
  have hc := row_call (W := W) (g185.at (FnTidy_g_law x0)) (FnTidy_g_law x0) (cargs := [v0]) (by simp only [RVs]; exact ⟨v0, _, rfl, r0 _ _, rfl⟩)
  refine hc.mono fun e W' ⟨⟨cv, he, μ', X, hcv⟩, hb⟩ => ?_
  simp only [RV] at hcv
  subst hcv
  subst he
  exact ⟨_, rfl, row_end hW' rfl rfl (t := 4) (by kernel_rfl) (by kernel_rfl) Tryz.laidOut (by rw [Tryz.params4]; intro u hu; simp at hu; subst hu; exact ⟨by kernel_rfl, of_decide_eq_true (by kernel_rfl)⟩) hb⟩

theorem FnTidy_j0 : mapsRowed Tryz.prog = true := by kernel_rfl
theorem FnTidy_j1 : (Rows.fnTidyRow.inPlace == Tryz.prog.inPlace 4) = true := by kernel_rfl
theorem FnTidy_j2 : (Rows.fnTidyRow.unfollowed == Tryz.prog.unfollowed 4) = true := by kernel_rfl
theorem FnTidy_j3 : (Rows.fnTidyRow.recurses == Tryz.prog.recurses 4) = true := by kernel_rfl
theorem FnTidy_j4 : (Rows.fnTidyRow.named == Tryz.prog.varsNamed 4) = true := by kernel_rfl
theorem FnTidy_j5 : (Rows.fnTidyRow.lifted == Tryz.prog.liftsFinal) = true := by kernel_rfl
theorem FnTidy_j6 : Tryz.prog.stopsHeard = true := by kernel_rfl
theorem FnTidy_j7 : Tryz.prog.mayEnter = true := by kernel_rfl
theorem FnTidy_j8 : (Rows.fnTidyRow.wf (OpenSpec.ofChange Rows.fnTidySpec)) = true := by kernel_rfl
theorem andB {a b : Bool} (ha : a = true) (hb : b = true) : (a && b) = true := by rw [ha, hb]; rfl

theorem FnTidy_closed : joinedFacts Tryz.prog 4 Tryz.f4 Rows.fnTidySpec Rows.fnTidyRow = true := by
  unfold joinedFacts
  exact (andB (andB (andB (andB (andB (andB (andB (andB (andB (andB (andB (andB (andB (andB (andB (andB (andB (andB (andB (andB (andB (andB (andB (andB (andB (andB (andB (andB (andB (andB (andB FnTidy_j8 Tryz.laidOut) FnTidy_j0) (by kernel_rfl)) (by kernel_rfl)) (by kernel_rfl)) (by kernel_rfl)) (by kernel_rfl)) (by kernel_rfl)) FnTidy_j1) FnTidy_j2) FnTidy_j3) FnTidy_j4) (by kernel_rfl)) (by kernel_rfl)) (by kernel_rfl)) (by kernel_rfl)) (by kernel_rfl)) (by kernel_rfl)) (by kernel_rfl)) (by kernel_rfl)) (by kernel_rfl)) (by kernel_rfl)) (by kernel_rfl)) FnTidy_j6) FnTidy_j7) FnTidy_j5) (by kernel_rfl)) (by kernel_rfl)) (by kernel_rfl)) (by kernel_rfl)) (by kernel_rfl))

theorem FnTidy_holds : Rows.FnTidySaid :=
  OpenClaim.holds_of_wide 4 Tryz.f4 rfl rfl rfl rfl rfl rfl rfl ⟨rfl, rfl, rfl, rfl, rfl⟩ rfl rfl rfl rfl rfl (by kernel_rfl) Tryz.func4 FnTidy_closed
    (of_decide_eq_true (by kernel_rfl)) (by unfold Func.isWrapper; first | (rw [if_pos (by decide +kernel)]; kernel_rfl) | (rw [if_neg (by decide +kernel)]; exact ⟨rfl, rfl⟩))
    (fun os started H enc _ => FnTidy_lifted os started H enc)

end Go.Proofs.YtpljjegocfmbeaaGreat
