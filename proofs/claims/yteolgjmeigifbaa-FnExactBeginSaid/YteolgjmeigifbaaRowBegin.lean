/- The statement FnExactBeginSaid is proved: for every input the law FnExactBegin hands back true, and its arguments read as they did. Conditions: none beyond the statement. -/
import Derived.Test.YteolgjmeigifbaaBeginS2
import Derived.Test.YteolgjmeigifbaaBeginR2
import Derived.Test.YteolgjmeigifbaaU26
import Derived.Test.YteolgjmeigifbaaRows
import Derived.ProofKit
namespace Go.Proofs.Yteolgjmeigifbaa
open Go.ChangeShapes Go.WideShapes Go.ChangeAt Go.RowKit Go.VE
theorem Try.own : ownKnob Try.prog.godebug = none := by kernel_rfl
theorem Try.laidOut : laidOutB Try.prog = true := by kernel_rfl
theorem vq1 (x0 : (tEngine : Ty).D) (h0 : (tEngine : Ty).wf x0) : wcz [(tEngine : Ty).toAV true x0] [] (fun v s => some ⟨.ret, [v], s⟩) = some ⟨.ret, [.bool true], []⟩ :=
  Eq.trans (by kernel_rfl) (vua x0 h0 (fun b => some ⟨.ret, [.bool b], []⟩))
set_option maxRecDepth 100000 in
theorem vpn (os : Os) (started : os.Started) (H : Type) (enc : TypeId × Value → H) :
    ReturnsInHanded {} Try.checked os 7 .any (Rows.fnExactBeginSpec.pre6 enc Try.prog Try.f7 Rows.fnExactBeginRow.domain false) (Rows.fnExactBeginSpec.post enc Try.prog Try.f7 false true false false) := by
  refine returnsInHanded_of_change (C := Try.checked) Try.own started (by kernel_rfl) Try.func7
    (ChangeSpec.witness6 (enc := enc) (C := Try.checked) false ⟨#[], #[.agg #[.slice none 0 0, .slice none 0 0, .slice none 0 0, .int .i64 0, .int .i64 0, .slice none 0 0]], []⟩ 8 (by kernel_rfl) (by kernel_rfl) (by kernel_rfl) (by kernel_rfl)) ?_
  intro W base args ds gs before hval0 hW hcnd _
  have hval : ∀ (j : Nat) t v, Try.f7.params[j]? = some t → args[j]? = some v → Value.okWide Try.prog W .any base t v := hval0
  have hW' := hW
  obtain ⟨p, q, hA0, hV, rfl, hfz, hnd⟩ := hW
  have hA : DataW.TrodAll enc Try.prog W 0 (fun _ => true) true Try.f7.params.toList args.toList ds p := hA0
  rw [Try.params7] at hA hval
  obtain ⟨v0, d0, rfl, rfl, g0⟩ := trodAll_one hA
  obtain ⟨rfl, rfl⟩ := trodVars_none hV
  obtain ⟨x0, w0, r0⟩ := wv9 (n := 8) (T := (tEngine : Ty)) (ag := true) (by kernel_rfl) (by kernel_rfl) (hval 0 89 v0 rfl rfl) g0
  have hc := wpl (W := W) wst (vq1 x0 w0) (cargs := [v0]) (by simp only [RVs]; exact ⟨v0, _, rfl, r0 _ _, rfl⟩)
  refine hc.mono fun e W' ⟨⟨cv, he, μ', X, hcv⟩, hb⟩ => ?_
  simp only [RV] at hcv
  subst hcv
  subst he
  exact ⟨_, rfl, wuw hW' rfl rfl (t := 4) (by kernel_rfl) (by kernel_rfl) Try.laidOut (by rw [Try.params7]; intro u hu; simp at hu; subst hu; exact ⟨by kernel_rfl, of_decide_eq_true (by kernel_rfl)⟩) hb⟩
theorem vuz : mapsRowed Try.prog = true := by kernel_rfl
theorem vvo : (Rows.fnExactBeginRow.inPlace == Try.prog.inPlace 7) = true := by kernel_rfl
theorem vu5 : (Rows.fnExactBeginRow.unfollowed == Try.prog.unfollowed 7) = true := by kernel_rfl
theorem vvw : (Rows.fnExactBeginRow.recurses == Try.prog.recurses 7) = true := by kernel_rfl
theorem vvi : (Rows.fnExactBeginRow.named == Try.prog.varsNamed 7) = true := by kernel_rfl
theorem vve : (Rows.fnExactBeginRow.lifted == Try.prog.liftsFinal) = true := by kernel_rfl
theorem vwv : Try.prog.stopsHeard = true := by kernel_rfl
theorem vxc : Try.prog.mayEnter = true := by kernel_rfl
theorem vwk : (Rows.fnExactBeginRow.wf (OpenSpec.ofChange Rows.fnExactBeginSpec)) = true := by kernel_rfl
theorem andB {a b : Bool} (ha : a = true) (hb : b = true) : (a && b) = true := by rw [ha, hb]; rfl
theorem vqb : joinedFacts Try.prog 7 Try.f7 Rows.fnExactBeginSpec Rows.fnExactBeginRow = true := by
  unfold joinedFacts
  exact (andB (andB (andB (andB (andB (andB (andB (andB (andB (andB (andB (andB (andB (andB (andB (andB (andB (andB (andB (andB (andB (andB (andB (andB (andB (andB (andB (andB (andB (andB (andB vwk Try.laidOut) vuz) (by kernel_rfl)) (by kernel_rfl)) (by kernel_rfl)) (by kernel_rfl)) (by kernel_rfl)) (by kernel_rfl)) vvo) vu5) vvw) vvi) (by kernel_rfl)) (by kernel_rfl)) (by kernel_rfl)) (by kernel_rfl)) (by kernel_rfl)) (by kernel_rfl)) (by kernel_rfl)) (by kernel_rfl)) (by kernel_rfl)) (by kernel_rfl)) (by kernel_rfl)) vwv) vxc) vve) (by kernel_rfl)) (by kernel_rfl)) (by kernel_rfl)) (by kernel_rfl)) (by kernel_rfl))
theorem FnExactBegin_holds : Rows.FnExactBeginSaid :=
  OpenClaim.holds_of_wide 7 Try.f7 rfl rfl rfl rfl rfl rfl rfl ⟨rfl, rfl, rfl, rfl, rfl⟩ rfl rfl rfl rfl rfl (by kernel_rfl) Try.func7 vqb
    (of_decide_eq_true (by kernel_rfl)) (by unfold Func.isWrapper; first | (rw [if_pos (by decide +kernel)]; kernel_rfl) | (rw [if_neg (by decide +kernel)]; exact ⟨rfl, rfl⟩))
    (fun os started H enc _ => vpn os started H enc)
end Go.Proofs.Yteolgjmeigifbaa
