/- The statement FnThroughSaid is proved: for every input the law FnThrough hands back true, and its arguments read as they did. Conditions: none beyond the statement. -/
import Derived.Test.YtpljjegocfmbeaaGreatQS2
import Derived.Test.YtpljjegocfmbeaaGreatLA1
import Derived.Test.YtpljjegocfmbeaaGreatV26
import Derived.Test.YtpljjegocfmbeaaGreatRows
import Derived.ProofKit
namespace Go.Proofs.YtpljjegocfmbeaaGreat
open Go.ChangeShapes Go.WideShapes Go.ChangeAt Go.RowKit Go.VE

theorem Tryz.own : ownKnob Tryz.prog.godebug = none := by kernel_rfl
theorem Tryz.laidOut : laidOutB Tryz.prog = true := by kernel_rfl

theorem An.law {β : Type} {m : (β → Option Res) → Option Res} {y : β} (h : An m fun z => z = y) (k : β → Option Res) : m k = k y := by
  obtain ⟨z, rfl, h⟩ := h
  exact h k

theorem FnThrough_g_law (x0 : ((.slice (.int .u8)) : Ty).D) : g177.G.call 5 [((.slice (.int .u8)) : Ty).toAV false x0] [] (fun v s => some ⟨.ret, [v], s⟩) = some ⟨.ret, [.bool true], []⟩ :=
  Eq.trans (by kernel_rfl) (An.law (law_FnThrough x0) fun b => some ⟨.ret, [.bool b], []⟩)

set_option maxRecDepth 100000 in
theorem FnThrough_lifted (os : Os) (started : os.Started) (H : Type) (enc : TypeId × Value → H) :
    ReturnsInHanded {} Tryz.checked os 5 .any (Rows.fnThroughSpec.pre6 enc Tryz.prog Tryz.f5 Rows.fnThroughRow.domain false) (Rows.fnThroughSpec.post enc Tryz.prog Tryz.f5 false true false false) := by
  refine returnsInHanded_of_change (C := Tryz.checked) Tryz.own started (by kernel_rfl) Tryz.func5
    (ChangeSpec.witness6 (enc := enc) (C := Tryz.checked) false ⟨#[], #[.slice none 0 0], []⟩ 8 (by kernel_rfl) (by kernel_rfl) (by kernel_rfl) (by kernel_rfl)) ?_
  intro W base args ds gs before hval0 hW hcnd _
  have hval : ∀ (j : Nat) t v, Tryz.f5.params[j]? = some t → args[j]? = some v → Value.okWide Tryz.prog W .any base t v := hval0
  have hW' := hW
  obtain ⟨p, q, hA0, hV, rfl, hfz, hnd⟩ := hW
  have hA : DataW.TrodAll enc Tryz.prog W 0 (fun _ => true) true Tryz.f5.params.toList args.toList ds p := hA0
  rw [Tryz.params5] at hA hval
  obtain ⟨v0, d0, rfl, rfl, g0⟩ := trodAll_one hA
  obtain ⟨rfl, rfl⟩ := trodVars_none hV
  obtain ⟨x0, w0, r0⟩ := arg_rv (n := 8) (T := ((.slice (.int .u8)) : Ty)) (ag := false) (by kernel_rfl) (by kernel_rfl) (hval 0 22 v0 rfl rfl) g0
  have hc := row_call (W := W) (g177.at (FnThrough_g_law x0)) (FnThrough_g_law x0) (cargs := [v0]) (by simp only [RVs]; exact ⟨v0, _, rfl, r0 _ _, rfl⟩)
  refine hc.mono fun e W' ⟨⟨cv, he, μ', X, hcv⟩, hb⟩ => ?_
  simp only [RV] at hcv
  subst hcv
  subst he
  exact ⟨_, rfl, row_end hW' rfl rfl (t := 4) (by kernel_rfl) (by kernel_rfl) Tryz.laidOut (by rw [Tryz.params5]; intro u hu; simp at hu; subst hu; exact ⟨by kernel_rfl, of_decide_eq_true (by kernel_rfl)⟩) hb⟩

theorem FnThrough_j0 : mapsRowed Tryz.prog = true := by kernel_rfl
theorem FnThrough_j1 : (Rows.fnThroughRow.inPlace == Tryz.prog.inPlace 5) = true := by kernel_rfl
theorem FnThrough_j2 : (Rows.fnThroughRow.unfollowed == Tryz.prog.unfollowed 5) = true := by kernel_rfl
theorem FnThrough_j3 : (Rows.fnThroughRow.recurses == Tryz.prog.recurses 5) = true := by kernel_rfl
theorem FnThrough_j4 : (Rows.fnThroughRow.named == Tryz.prog.varsNamed 5) = true := by kernel_rfl
theorem FnThrough_j5 : (Rows.fnThroughRow.lifted == Tryz.prog.liftsFinal) = true := by kernel_rfl
theorem FnThrough_j6 : Tryz.prog.stopsHeard = true := by kernel_rfl
theorem FnThrough_j7 : Tryz.prog.mayEnter = true := by kernel_rfl
theorem FnThrough_j8 : (Rows.fnThroughRow.wf (OpenSpec.ofChange Rows.fnThroughSpec)) = true := by kernel_rfl
theorem andB {a b : Bool} (ha : a = true) (hb : b = true) : (a && b) = true := by rw [ha, hb]; rfl

theorem FnThrough_closed : joinedFacts Tryz.prog 5 Tryz.f5 Rows.fnThroughSpec Rows.fnThroughRow = true := by
  unfold joinedFacts
  exact (andB (andB (andB (andB (andB (andB (andB (andB (andB (andB (andB (andB (andB (andB (andB (andB (andB (andB (andB (andB (andB (andB (andB (andB (andB (andB (andB (andB (andB (andB (andB FnThrough_j8 Tryz.laidOut) FnThrough_j0) (by kernel_rfl)) (by kernel_rfl)) (by kernel_rfl)) (by kernel_rfl)) (by kernel_rfl)) (by kernel_rfl)) FnThrough_j1) FnThrough_j2) FnThrough_j3) FnThrough_j4) (by kernel_rfl)) (by kernel_rfl)) (by kernel_rfl)) (by kernel_rfl)) (by kernel_rfl)) (by kernel_rfl)) (by kernel_rfl)) (by kernel_rfl)) (by kernel_rfl)) (by kernel_rfl)) (by kernel_rfl)) FnThrough_j6) FnThrough_j7) FnThrough_j5) (by kernel_rfl)) (by kernel_rfl)) (by kernel_rfl)) (by kernel_rfl)) (by kernel_rfl))

theorem FnThrough_holds : Rows.FnThroughSaid :=
  OpenClaim.holds_of_wide 5 Tryz.f5 rfl rfl rfl rfl rfl rfl rfl ⟨rfl, rfl, rfl, rfl, rfl⟩ rfl rfl rfl rfl rfl (by kernel_rfl) Tryz.func5 FnThrough_closed
    (of_decide_eq_true (by kernel_rfl)) (by unfold Func.isWrapper; first | (rw [if_pos (by decide +kernel)]; kernel_rfl) | (rw [if_neg (by decide +kernel)]; exact ⟨rfl, rfl⟩))
    (fun os started H enc _ => FnThrough_lifted os started H enc)

end Go.Proofs.YtpljjegocfmbeaaGreat
