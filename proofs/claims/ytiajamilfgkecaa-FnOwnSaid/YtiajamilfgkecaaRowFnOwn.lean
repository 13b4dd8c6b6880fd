/- The statement FnOwnSaid is proved: for every input the law FnOwn hands back true, and its arguments read as they did. Conditions: none beyond the statement. -/
import Derived.Test.YtiajamilfgkecaaFnOwnS1
import Derived.Test.YtiajamilfgkecaaFnOwnR
import Derived.Test.YtiajamilfgkecaaU26
import Derived.Test.YtiajamilfgkecaaRows
import Derived.ProofKit
namespace Go.Proofs.Ytiajamilfgkecaa
open Go.ChangeShapes Go.WideShapes Go.ChangeAt Go.RowKit Go.VE
theorem Try.own : ownKnob Try.prog.godebug = none := by kernel_rfl
theorem Try.laidOut : laidOutB Try.prog = true := by kernel_rfl
theorem vux (x0 : ((.slice (.int .u8)) : Ty).D) (h0 : ((.slice (.int .u8)) : Ty).wf x0) : vy2 [((.slice (.int .u8)) : Ty).toAV false x0] [] (fun v s => some ⟨.ret, [v], s⟩) = some ⟨.ret, [.bool true], []⟩ :=
  Eq.trans (by kernel_rfl) (vzt x0 h0 (fun b => some ⟨.ret, [.bool b], []⟩))
set_option maxRecDepth 100000 in
theorem vrg (os : Os) (started : os.Started) (H : Type) (enc : TypeId × Value → H) :
    ReturnsInHanded {} Try.checked os 8 .any (Rows.fnOwnSpec.pre6 enc Try.prog Try.f8 Rows.fnOwnRow.domain false) (Rows.fnOwnSpec.post enc Try.prog Try.f8 false true false false) := by
  refine returnsInHanded_of_change (C := Try.checked) Try.own started (by kernel_rfl) Try.func8
    (ChangeSpec.witness6 (enc := enc) (C := Try.checked) false ⟨#[], #[.slice none 0 0], []⟩ 8 (by kernel_rfl) (by kernel_rfl) (by kernel_rfl) (by kernel_rfl)) ?_
  intro W base args ds gs before hval0 hW hcnd _
  have hval : ∀ (j : Nat) t v, Try.f8.params[j]? = some t → args[j]? = some v → Value.okWide Try.prog W .any base t v := hval0
  have hW' := hW
  obtain ⟨p, q, hA0, hV, rfl, hfz, hnd⟩ := hW
  have hA : DataW.TrodAll enc Try.prog W 0 (fun _ => true) true Try.f8.params.toList args.toList ds p := hA0
  rw [Try.params8] at hA hval
  obtain ⟨v0, d0, rfl, rfl, g0⟩ := trodAll_one hA
  obtain ⟨rfl, rfl⟩ := trodVars_none hV
  obtain ⟨x0, w0, r0⟩ := v7b (n := 8) (T := ((.slice (.int .u8)) : Ty)) (ag := false) (by kernel_rfl) (by kernel_rfl) (hval 0 83 v0 rfl rfl) g0
  have hc := v2e (W := W) v42 (vux x0 w0) (cargs := [v0]) (by simp only [RVs]; exact ⟨v0, _, rfl, r0 _ _, rfl⟩)
  refine hc.mono fun e W' ⟨⟨cv, he, μ', X, hcv⟩, hb⟩ => ?_
  simp only [RV] at hcv
  subst hcv
  subst he
  exact ⟨_, rfl, v5l hW' rfl rfl (t := 4) (by kernel_rfl) (by kernel_rfl) Try.laidOut (by rw [Try.params8]; intro u hu; simp at hu; subst hu; exact ⟨by kernel_rfl, of_decide_eq_true (by kernel_rfl)⟩) hb⟩
theorem v3g : mapsRowed Try.prog = true := by kernel_rfl
theorem v3i : (Rows.fnOwnRow.inPlace == Try.prog.inPlace 8) = true := by kernel_rfl
theorem v1p : (Rows.fnOwnRow.unfollowed == Try.prog.unfollowed 8) = true := by kernel_rfl
theorem v3s : (Rows.fnOwnRow.recurses == Try.prog.recurses 8) = true := by kernel_rfl
theorem v3b : (Rows.fnOwnRow.named == Try.prog.varsNamed 8) = true := by kernel_rfl
theorem v30 : (Rows.fnOwnRow.lifted == Try.prog.liftsFinal) = true := by kernel_rfl
theorem v1n : Try.prog.stopsHeard = true := by kernel_rfl
theorem v36 : Try.prog.mayEnter = true := by kernel_rfl
theorem v1r : (Rows.fnOwnRow.wf (OpenSpec.ofChange Rows.fnOwnSpec)) = true := by kernel_rfl
theorem andB {a b : Bool} (ha : a = true) (hb : b = true) : (a && b) = true := by rw [ha, hb]; rfl
theorem vqz : joinedFacts Try.prog 8 Try.f8 Rows.fnOwnSpec Rows.fnOwnRow = true := by
  unfold joinedFacts
  exact (andB (andB (andB (andB (andB (andB (andB (andB (andB (andB (andB (andB (andB (andB (andB (andB (andB (andB (andB (andB (andB (andB (andB (andB (andB (andB (andB (andB (andB (andB (andB v1r Try.laidOut) v3g) (by kernel_rfl)) (by kernel_rfl)) (by kernel_rfl)) (by kernel_rfl)) (by kernel_rfl)) (by kernel_rfl)) v3i) v1p) v3s) v3b) (by kernel_rfl)) (by kernel_rfl)) (by kernel_rfl)) (by kernel_rfl)) (by kernel_rfl)) (by kernel_rfl)) (by kernel_rfl)) (by kernel_rfl)) (by kernel_rfl)) (by kernel_rfl)) (by kernel_rfl)) v1n) v36) v30) (by kernel_rfl)) (by kernel_rfl)) (by kernel_rfl)) (by kernel_rfl)) (by kernel_rfl))
theorem FnOwn_holds : Rows.FnOwnSaid :=
  OpenClaim.holds_of_wide 8 Try.f8 rfl rfl rfl rfl rfl rfl rfl ⟨rfl, rfl, rfl, rfl, rfl⟩ rfl rfl rfl rfl rfl (by kernel_rfl) Try.func8 vqz
    (of_decide_eq_true (by kernel_rfl)) (by unfold Func.isWrapper; first | (rw [if_pos (by decide +kernel)]; kernel_rfl) | (rw [if_neg (by decide +kernel)]; exact ⟨rfl, rfl⟩))
    (fun os started H enc _ => vrg os started H enc)
end Go.Proofs.Ytiajamilfgkecaa
