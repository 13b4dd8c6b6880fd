/- The statement FnExactWriteKeySaid is proved: for every input the law FnExactWriteKey hands back true, and its arguments read as they did. Conditions: none beyond the statement. -/
import Derived.Test.YtiajamilfgkecaaWriteKeyS1
import Derived.Test.YtiajamilfgkecaaWriteKeyR
import Derived.Test.YtiajamilfgkecaaU26
import Derived.Test.YtiajamilfgkecaaRows
import Derived.ProofKit
namespace Go.Proofs.Ytiajamilfgkecaa
open Go.ChangeShapes Go.WideShapes Go.ChangeAt Go.RowKit Go.VE
theorem Try.own : ownKnob Try.prog.godebug = none := by kernel_rfl
theorem Try.laidOut : laidOutB Try.prog = true := by kernel_rfl
theorem vhr (x0 : (tTxn : Ty).D) (x1 : (tWrite : Ty).D) (h0 : (tTxn : Ty).wf x0) (h1 : (tWrite : Ty).wf x1) : v1u [(tTxn : Ty).toAV true x0, (tWrite : Ty).toAV true x1] [] (fun v s => some ⟨.ret, [v], s⟩) = some ⟨.ret, [.bool true], []⟩ :=
  Eq.trans (by kernel_rfl) (vji x0 x1 h0 h1 (fun b => some ⟨.ret, [.bool b], []⟩))
set_option maxRecDepth 100000 in
theorem vg4 (os : Os) (started : os.Started) (H : Type) (enc : TypeId × Value → H) :
    ReturnsInHanded {} Try.checked os 4 .any (Rows.fnExactWriteKeySpec.pre6 enc Try.prog Try.f4 Rows.fnExactWriteKeyRow.domain false) (Rows.fnExactWriteKeySpec.post enc Try.prog Try.f4 false true false false) := by
  refine returnsInHanded_of_change (C := Try.checked) Try.own started (by kernel_rfl) Try.func4
    (ChangeSpec.witness6 (enc := enc) (C := Try.checked) false ⟨#[], #[.agg #[.int .i64 0, .int .i64 0, .int .i64 0, .int .i64 0, .slice none 0 0, .slice none 0 0, .bool false, .string ⟨#[]⟩], .agg #[.string ⟨#[]⟩, .string ⟨#[]⟩, .bool false]], []⟩ 8 (by kernel_rfl) (by kernel_rfl) (by kernel_rfl) (by kernel_rfl)) ?_
  intro W base args ds gs before hval0 hW hcnd _
  have hval : ∀ (j : Nat) t v, Try.f4.params[j]? = some t → args[j]? = some v → Value.okWide Try.prog W .any base t v := hval0
  have hW' := hW
  obtain ⟨p, q, hA0, hV, rfl, hfz, hnd⟩ := hW
  have hA : DataW.TrodAll enc Try.prog W 0 (fun _ => true) true Try.f4.params.toList args.toList ds p := hA0
  rw [Try.params4] at hA hval
  obtain ⟨v0, v1, d0, d1, p0, p1, rfl, rfl, rfl, g0, g1⟩ := trodAll_two hA
  obtain ⟨rfl, rfl⟩ := trodVars_none hV
  obtain ⟨x0, w0, r0⟩ := v6q (n := 8) (T := (tTxn : Ty)) (ag := true) (by kernel_rfl) (by kernel_rfl) (hval 0 38 v0 rfl rfl) g0
  obtain ⟨x1, w1, r1⟩ := v6q (n := 8) (T := (tWrite : Ty)) (ag := true) (by kernel_rfl) (by kernel_rfl) (hval 1 40 v1 rfl rfl) g1
  have hc := v5i (W := W) v61 (vhr x0 x1 w0 w1) (cargs := [v0, v1]) (by simp only [RVs]; exact ⟨v0, _, rfl, r0 _ _, v1, _, rfl, r1 _ _, rfl⟩)
  refine hc.mono fun e W' ⟨⟨cv, he, μ', X, hcv⟩, hb⟩ => ?_
  simp only [RV] at hcv
  subst hcv
  subst he
  exact ⟨_, rfl, v67 hW' rfl rfl (t := 4) (by kernel_rfl) (by kernel_rfl) Try.laidOut (by rw [Try.params4]; intro u hu; simp at hu; rcases hu with rfl | rfl <;> exact ⟨by kernel_rfl, of_decide_eq_true (by kernel_rfl)⟩) hb⟩
theorem vku : mapsRowed Try.prog = true := by kernel_rfl
theorem vko : (Rows.fnExactWriteKeyRow.inPlace == Try.prog.inPlace 4) = true := by kernel_rfl
theorem vky : (Rows.fnExactWriteKeyRow.unfollowed == Try.prog.unfollowed 4) = true := by kernel_rfl
theorem vkj : (Rows.fnExactWriteKeyRow.recurses == Try.prog.recurses 4) = true := by kernel_rfl
theorem vkv : (Rows.fnExactWriteKeyRow.named == Try.prog.varsNamed 4) = true := by kernel_rfl
theorem vkw : (Rows.fnExactWriteKeyRow.lifted == Try.prog.liftsFinal) = true := by kernel_rfl
theorem vlb : Try.prog.stopsHeard = true := by kernel_rfl
theorem vj9 : Try.prog.mayEnter = true := by kernel_rfl
theorem vkd : (Rows.fnExactWriteKeyRow.wf (OpenSpec.ofChange Rows.fnExactWriteKeySpec)) = true := by kernel_rfl
theorem andB {a b : Bool} (ha : a = true) (hb : b = true) : (a && b) = true := by rw [ha, hb]; rfl
theorem vg7 : joinedFacts Try.prog 4 Try.f4 Rows.fnExactWriteKeySpec Rows.fnExactWriteKeyRow = true := by
  unfold joinedFacts
  exact (andB (andB (andB (andB (andB (andB (andB (andB (andB (andB (andB (andB (andB (andB (andB (andB (andB (andB (andB (andB (andB (andB (andB (andB (andB (andB (andB (andB (andB (andB (andB vkd Try.laidOut) vku) (by kernel_rfl)) (by kernel_rfl)) (by kernel_rfl)) (by kernel_rfl)) (by kernel_rfl)) (by kernel_rfl)) vko) vky) vkj) vkv) (by kernel_rfl)) (by kernel_rfl)) (by kernel_rfl)) (by kernel_rfl)) (by kernel_rfl)) (by kernel_rfl)) (by kernel_rfl)) (by kernel_rfl)) (by kernel_rfl)) (by kernel_rfl)) (by kernel_rfl)) vlb) vj9) vkw) (by kernel_rfl)) (by kernel_rfl)) (by kernel_rfl)) (by kernel_rfl)) (by kernel_rfl))
theorem FnExactWriteKey_holds : Rows.FnExactWriteKeySaid :=
  OpenClaim.holds_of_wide 4 Try.f4 rfl rfl rfl rfl rfl rfl rfl ⟨rfl, rfl, rfl, rfl, rfl⟩ rfl rfl rfl rfl rfl (by kernel_rfl) Try.func4 vg7
    (of_decide_eq_true (by kernel_rfl)) (by unfold Func.isWrapper; first | (rw [if_pos (by decide +kernel)]; kernel_rfl) | (rw [if_neg (by decide +kernel)]; exact ⟨rfl, rfl⟩))
    (fun os started H enc _ => vg4 os started H enc)
end Go.Proofs.Ytiajamilfgkecaa
