/- The statement FnExactPutKeySaid is proved: for every input the law FnExactPutKey hands back true, and its arguments read as they did. Conditions: none beyond the statement. -/
import Derived.Test.YteolgjmeigifbaaPutKeyS1
import Derived.Test.YteolgjmeigifbaaPutKeyR
import Derived.Test.YteolgjmeigifbaaU26
import Derived.Test.YteolgjmeigifbaaRows
import Derived.ProofKit
namespace Go.Proofs.Yteolgjmeigifbaa
open Go.ChangeShapes Go.WideShapes Go.ChangeAt Go.RowKit Go.VE
theorem Try.own : ownKnob Try.prog.godebug = none := by kernel_rfl
theorem Try.laidOut : laidOutB Try.prog = true := by kernel_rfl
theorem vl7 (x0 : (tEngine : Ty).D) (x1 : ((.int .i64) : Ty).D) (x2 : (tWrite : Ty).D) (h0 : (tEngine : Ty).wf x0) (h1 : ((.int .i64) : Ty).wf x1) (h2 : (tWrite : Ty).wf x2) : v8f [(tEngine : Ty).toAV true x0, ((.int .i64) : Ty).toAV false x1, (tWrite : Ty).toAV true x2] [] (fun v s => some ⟨.ret, [v], s⟩) = some ⟨.ret, [.bool true], []⟩ :=
  Eq.trans (by kernel_rfl) (vnr x0 x1 x2 h0 h1 h2 (fun b => some ⟨.ret, [.bool b], []⟩))
set_option maxRecDepth 100000 in
theorem vk5 (os : Os) (started : os.Started) (H : Type) (enc : TypeId × Value → H) :
    ReturnsInHanded {} Try.checked os 6 .any (Rows.fnExactPutKeySpec.pre6 enc Try.prog Try.f6 Rows.fnExactPutKeyRow.domain false) (Rows.fnExactPutKeySpec.post enc Try.prog Try.f6 false true false false) := by
  refine returnsInHanded_of_change (C := Try.checked) Try.own started (by kernel_rfl) Try.func6
    (ChangeSpec.witness6 (enc := enc) (C := Try.checked) false ⟨#[], #[.agg #[.slice none 0 0, .slice none 0 0, .slice none 0 0, .int .i64 0, .int .i64 0, .slice none 0 0], .int .i64 0, .agg #[.string ⟨#[]⟩, .string ⟨#[]⟩, .bool false]], []⟩ 8 (by kernel_rfl) (by kernel_rfl) (by kernel_rfl) (by kernel_rfl)) ?_
  intro W base args ds gs before hval0 hW hcnd _
  have hval : ∀ (j : Nat) t v, Try.f6.params[j]? = some t → args[j]? = some v → Value.okWide Try.prog W .any base t v := hval0
  have hW' := hW
  obtain ⟨p, q, hA0, hV, rfl, hfz, hnd⟩ := hW
  have hA : DataW.TrodAll enc Try.prog W 0 (fun _ => true) true Try.f6.params.toList args.toList ds p := hA0
  rw [Try.params6] at hA hval
  obtain ⟨v0, v1, v2, d0, d1, d2, p0, p1, p2, rfl, rfl, rfl, g0, g1, g2⟩ := trodAll_three hA
  obtain ⟨rfl, rfl⟩ := trodVars_none hV
  obtain ⟨x0, w0, r0⟩ := waz (n := 8) (T := (tEngine : Ty)) (ag := true) (by kernel_rfl) (by kernel_rfl) (hval 0 89 v0 rfl rfl) g0
  obtain ⟨x1, w1, r1⟩ := waz (n := 8) (T := ((.int .i64) : Ty)) (ag := false) (by kernel_rfl) (by kernel_rfl) (hval 1 3 v1 rfl rfl) g1
  obtain ⟨x2, w2, r2⟩ := waz (n := 8) (T := (tWrite : Ty)) (ag := true) (by kernel_rfl) (by kernel_rfl) (hval 2 90 v2 rfl rfl) g2
  have hc := wdt (W := W) wg9 (vl7 x0 x1 x2 w0 w1 w2) (cargs := [v0, v1, v2]) (by simp only [RVs]; exact ⟨v0, _, rfl, r0 _ _, v1, _, rfl, r1 _ _, v2, _, rfl, r2 _ _, rfl⟩)
  refine hc.mono fun e W' ⟨⟨cv, he, μ', X, hcv⟩, hb⟩ => ?_
  simp only [RV] at hcv
  subst hcv
  subst he
  exact ⟨_, rfl, wh5 hW' rfl rfl (t := 4) (by kernel_rfl) (by kernel_rfl) Try.laidOut (by rw [Try.params6]; intro u hu; simp at hu; rcases hu with rfl | rfl | rfl <;> exact ⟨by kernel_rfl, of_decide_eq_true (by kernel_rfl)⟩) hb⟩
theorem vo8 : mapsRowed Try.prog = true := by kernel_rfl
theorem vpb : (Rows.fnExactPutKeyRow.inPlace == Try.prog.inPlace 6) = true := by kernel_rfl
theorem vo6 : (Rows.fnExactPutKeyRow.unfollowed == Try.prog.unfollowed 6) = true := by kernel_rfl
theorem vo1 : (Rows.fnExactPutKeyRow.recurses == Try.prog.recurses 6) = true := by kernel_rfl
theorem vo3 : (Rows.fnExactPutKeyRow.named == Try.prog.varsNamed 6) = true := by kernel_rfl
theorem vpc : (Rows.fnExactPutKeyRow.lifted == Try.prog.liftsFinal) = true := by kernel_rfl
theorem vo4 : Try.prog.stopsHeard = true := by kernel_rfl
theorem vo0 : Try.prog.mayEnter = true := by kernel_rfl
theorem vpe : (Rows.fnExactPutKeyRow.wf (OpenSpec.ofChange Rows.fnExactPutKeySpec)) = true := by kernel_rfl
theorem andB {a b : Bool} (ha : a = true) (hb : b = true) : (a && b) = true := by rw [ha, hb]; rfl
theorem vk8 : joinedFacts Try.prog 6 Try.f6 Rows.fnExactPutKeySpec Rows.fnExactPutKeyRow = true := by
  unfold joinedFacts
  exact (andB (andB (andB (andB (andB (andB (andB (andB (andB (andB (andB (andB (andB (andB (andB (andB (andB (andB (andB (andB (andB (andB (andB (andB (andB (andB (andB (andB (andB (andB (andB vpe Try.laidOut) vo8) (by kernel_rfl)) (by kernel_rfl)) (by kernel_rfl)) (by kernel_rfl)) (by kernel_rfl)) (by kernel_rfl)) vpb) vo6) vo1) vo3) (by kernel_rfl)) (by kernel_rfl)) (by kernel_rfl)) (by kernel_rfl)) (by kernel_rfl)) (by kernel_rfl)) (by kernel_rfl)) (by kernel_rfl)) (by kernel_rfl)) (by kernel_rfl)) (by kernel_rfl)) vo4) vo0) vpc) (by kernel_rfl)) (by kernel_rfl)) (by kernel_rfl)) (by kernel_rfl)) (by kernel_rfl))
theorem FnExactPutKey_holds : Rows.FnExactPutKeySaid :=
  OpenClaim.holds_of_wide 6 Try.f6 rfl rfl rfl rfl rfl rfl rfl ⟨rfl, rfl, rfl, rfl, rfl⟩ rfl rfl rfl rfl rfl (by kernel_rfl) Try.func6 vk8
    (of_decide_eq_true (by kernel_rfl)) (by unfold Func.isWrapper; first | (rw [if_pos (by decide +kernel)]; kernel_rfl) | (rw [if_neg (by decide +kernel)]; exact ⟨rfl, rfl⟩))
    (fun os started H enc _ => vk5 os started H enc)
end Go.Proofs.Yteolgjmeigifbaa
