/- The statement FnExactScanKeysSaid is proved: for every input the law FnExactScanKeys hands back true, and its arguments read as they did. Conditions: none beyond the statement. -/
import Derived.Test.YteolgjmeigifbaaGreatScanKeysS1
import Derived.Test.YteolgjmeigifbaaGreatScanKeysR
import Derived.Test.YteolgjmeigifbaaGreatU26
import Derived.Test.YteolgjmeigifbaaGreatRows
import Derived.ProofKit
namespace Go.Proofs.YteolgjmeigifbaaGreat
open Go.ChangeShapes Go.WideShapes Go.ChangeAt Go.RowKit Go.VE
theorem Tryz.own : ownKnob Tryz.prog.godebug = none := by kernel_rfl
theorem Tryz.laidOut : laidOutB Tryz.prog = true := by kernel_rfl
theorem vi8 (x0 : (tEngine : Ty).D) (x1 : ((.int .i64) : Ty).D) (x2 : (tRange : Ty).D) (h0 : (tEngine : Ty).wf x0) (h1 : ((.int .i64) : Ty).wf x1) (h2 : (tRange : Ty).wf x2) : whd [(tEngine : Ty).toAV true x0, ((.int .i64) : Ty).toAV false x1, (tRange : Ty).toAV true x2] [] (fun v s => some ⟨.ret, [v], s⟩) = some ⟨.ret, [.bool true], []⟩ :=
  Eq.trans (by kernel_rfl) (vnh x0 x1 x2 h0 h1 h2 (fun b => some ⟨.ret, [.bool b], []⟩))
set_option maxRecDepth 100000 in
theorem vi2 (os : Os) (started : os.Started) (H : Type) (enc : TypeId × Value → H) :
    ReturnsInHanded {} Tryz.checked os 4 .any (Rows.fnExactScanKeysSpec.pre6 enc Tryz.prog Tryz.f4 Rows.fnExactScanKeysRow.domain false) (Rows.fnExactScanKeysSpec.post enc Tryz.prog Tryz.f4 false true false false) := by
  refine returnsInHanded_of_change (C := Tryz.checked) Tryz.own started (by kernel_rfl) Tryz.func4
    (ChangeSpec.witness6 (enc := enc) (C := Tryz.checked) false ⟨#[], #[.agg #[.slice none 0 0, .slice none 0 0, .slice none 0 0, .int .i64 0, .int .i64 0, .slice none 0 0], .int .i64 0, .agg #[.string ⟨#[]⟩, .string ⟨#[]⟩]], []⟩ 8 (by kernel_rfl) (by kernel_rfl) (by kernel_rfl) (by kernel_rfl)) ?_
  intro W base args ds gs before hval0 hW hcnd _
  have hval : ∀ (j : Nat) t v, Tryz.f4.params[j]? = some t → args[j]? = some v → Value.okWide Tryz.prog W .any base t v := hval0
  have hW' := hW
  obtain ⟨p, q, hA0, hV, rfl, hfz, hnd⟩ := hW
  have hA : DataW.TrodAll enc Tryz.prog W 0 (fun _ => true) true Tryz.f4.params.toList args.toList ds p := hA0
  rw [Tryz.params4] at hA hval
  obtain ⟨v0, v1, v2, d0, d1, d2, p0, p1, p2, rfl, rfl, rfl, g0, g1, g2⟩ := trodAll_three hA
  obtain ⟨rfl, rfl⟩ := trodVars_none hV
  obtain ⟨x0, w0, r0⟩ := wf8 (n := 8) (T := (tEngine : Ty)) (ag := true) (by kernel_rfl) (by kernel_rfl) (hval 0 42 v0 rfl rfl) g0
  obtain ⟨x1, w1, r1⟩ := wf8 (n := 8) (T := ((.int .i64) : Ty)) (ag := false) (by kernel_rfl) (by kernel_rfl) (hval 1 3 v1 rfl rfl) g1
  obtain ⟨x2, w2, r2⟩ := wf8 (n := 8) (T := (tRange : Ty)) (ag := true) (by kernel_rfl) (by kernel_rfl) (hval 2 44 v2 rfl rfl) g2
  have hc := wkn (W := W) wnx (vi8 x0 x1 x2 w0 w1 w2) (cargs := [v0, v1, v2]) (by simp only [RVs]; exact ⟨v0, _, rfl, r0 _ _, v1, _, rfl, r1 _ _, v2, _, rfl, r2 _ _, rfl⟩)
  refine hc.mono fun e W' ⟨⟨cv, he, μ', X, hcv⟩, hb⟩ => ?_
  simp only [RV] at hcv
  subst hcv
  subst he
  exact ⟨_, rfl, wpy hW' rfl rfl (t := 4) (by kernel_rfl) (by kernel_rfl) Tryz.laidOut (by rw [Tryz.params4]; intro u hu; simp at hu; rcases hu with rfl | rfl | rfl <;> exact ⟨by kernel_rfl, of_decide_eq_true (by kernel_rfl)⟩) hb⟩
theorem vo0 : mapsRowed Tryz.prog = true := by kernel_rfl
theorem voa : (Rows.fnExactScanKeysRow.inPlace == Tryz.prog.inPlace 4) = true := by kernel_rfl
theorem voh : (Rows.fnExactScanKeysRow.unfollowed == Tryz.prog.unfollowed 4) = true := by kernel_rfl
theorem vn7 : (Rows.fnExactScanKeysRow.recurses == Tryz.prog.recurses 4) = true := by kernel_rfl
theorem vn2 : (Rows.fnExactScanKeysRow.named == Tryz.prog.varsNamed 4) = true := by kernel_rfl
theorem voj : (Rows.fnExactScanKeysRow.lifted == Tryz.prog.liftsFinal) = true := by kernel_rfl
theorem vog : Tryz.prog.stopsHeard = true := by kernel_rfl
theorem vn8 : Tryz.prog.mayEnter = true := by kernel_rfl
theorem vn6 : (Rows.fnExactScanKeysRow.wf (OpenSpec.ofChange Rows.fnExactScanKeysSpec)) = true := by kernel_rfl
theorem andB {a b : Bool} (ha : a = true) (hb : b = true) : (a && b) = true := by rw [ha, hb]; rfl
theorem vi1 : joinedFacts Tryz.prog 4 Tryz.f4 Rows.fnExactScanKeysSpec Rows.fnExactScanKeysRow = true := by
  unfold joinedFacts
  exact (andB (andB (andB (andB (andB (andB (andB (andB (andB (andB (andB (andB (andB (andB (andB (andB (andB (andB (andB (andB (andB (andB (andB (andB (andB (andB (andB (andB (andB (andB (andB vn6 Tryz.laidOut) vo0) (by kernel_rfl)) (by kernel_rfl)) (by kernel_rfl)) (by kernel_rfl)) (by kernel_rfl)) (by kernel_rfl)) voa) voh) vn7) vn2) (by kernel_rfl)) (by kernel_rfl)) (by kernel_rfl)) (by kernel_rfl)) (by kernel_rfl)) (by kernel_rfl)) (by kernel_rfl)) (by kernel_rfl)) (by kernel_rfl)) (by kernel_rfl)) (by kernel_rfl)) vog) vn8) voj) (by kernel_rfl)) (by kernel_rfl)) (by kernel_rfl)) (by kernel_rfl)) (by kernel_rfl))
theorem FnExactScanKeys_holds : Rows.FnExactScanKeysSaid :=
  OpenClaim.holds_of_wide 4 Tryz.f4 rfl rfl rfl rfl rfl rfl rfl ⟨rfl, rfl, rfl, rfl, rfl⟩ rfl rfl rfl rfl rfl (by kernel_rfl) Tryz.func4 vi1
    (of_decide_eq_true (by kernel_rfl)) (by unfold Func.isWrapper; first | (rw [if_pos (by decide +kernel)]; kernel_rfl) | (rw [if_neg (by decide +kernel)]; exact ⟨rfl, rfl⟩))
    (fun os started H enc _ => vi2 os started H enc)
end Go.Proofs.YteolgjmeigifbaaGreat
