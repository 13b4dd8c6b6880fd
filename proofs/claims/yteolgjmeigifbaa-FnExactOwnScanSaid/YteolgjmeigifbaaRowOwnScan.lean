/- The statement FnExactOwnScanSaid is proved: for every input the law FnExactOwnScan hands back true, and its arguments read as they did. Conditions: none beyond the statement. -/
import Derived.Test.YteolgjmeigifbaaOwnScanS1
import Derived.Test.YteolgjmeigifbaaOwnScanR2
import Derived.Test.YteolgjmeigifbaaV26
import Derived.Test.YteolgjmeigifbaaRows
import Derived.ProofKit
namespace Go.Proofs.Yteolgjmeigifbaa
open Go.ChangeShapes Go.WideShapes Go.ChangeAt Go.RowKit Go.VE

theorem Try.own : ownKnob Try.prog.godebug = none := by kernel_rfl
theorem Try.laidOut : laidOutB Try.prog = true := by kernel_rfl

theorem FnExactOwnScan_g_law (x0 : (tTxn : Ty).D) (x1 : ((.slice tVersion) : Ty).D) (x2 : (tRange : Ty).D) (h0 : (tTxn : Ty).wf x0) (h1 : ((.slice tVersion) : Ty).wf x1) (h2 : (tRange : Ty).wf x2) : laws_FnExactOwnScan_g [(tTxn : Ty).toAV true x0, ((.slice tVersion) : Ty).toAV false x1, (tRange : Ty).toAV true x2] [] (fun v s => some ⟨.ret, [v], s⟩) = some ⟨.ret, [.bool true], []⟩ :=
  Eq.trans (by kernel_rfl) (law_FnExactOwnScan x0 x1 x2 h0 h1 h2 (fun b => some ⟨.ret, [.bool b], []⟩))

set_option maxRecDepth 100000 in
theorem FnExactOwnScan_lifted (os : Os) (started : os.Started) (H : Type) (enc : TypeId × Value → H) :
    ReturnsInHanded {} Try.checked os 3 .any (Rows.fnExactOwnScanSpec.pre6 enc Try.prog Try.f3 Rows.fnExactOwnScanRow.domain false) (Rows.fnExactOwnScanSpec.post enc Try.prog Try.f3 false true false false) := by
  refine returnsInHanded_of_change (C := Try.checked) Try.own started (by kernel_rfl) Try.func3
    (ChangeSpec.witness6 (enc := enc) (C := Try.checked) false ⟨#[], #[.agg #[.int .i64 0, .int .i64 0, .int .i64 0, .int .i64 0, .slice none 0 0, .slice none 0 0, .bool false, .string ⟨#[]⟩], .slice none 0 0, .agg #[.string ⟨#[]⟩, .string ⟨#[]⟩]], []⟩ 8 (by kernel_rfl) (by kernel_rfl) (by kernel_rfl) (by kernel_rfl)) ?_
  intro W base args ds gs before hval0 hW hcnd _
  have hval : ∀ (j : Nat) t v, Try.f3.params[j]? = some t → args[j]? = some v → Value.okWide Try.prog W .any base t v := hval0
  have hW' := hW
  obtain ⟨p, q, hA0, hV, rfl, hfz, hnd⟩ := hW
  have hA : DataW.TrodAll enc Try.prog W 0 (fun _ => true) true Try.f3.params.toList args.toList ds p := hA0
  rw [Try.params3] at hA hval
  obtain ⟨v0, v1, v2, d0, d1, d2, p0, p1, p2, rfl, rfl, rfl, g0, g1, g2⟩ := trodAll_three hA
  obtain ⟨rfl, rfl⟩ := trodVars_none hV
  obtain ⟨x0, w0, r0⟩ := arg_rv (n := 8) (T := (tTxn : Ty)) (ag := true) (by kernel_rfl) (by kernel_rfl) (hval 0 25 v0 rfl rfl) g0
  obtain ⟨x1, w1, r1⟩ := arg_rv (n := 8) (T := ((.slice tVersion) : Ty)) (ag := false) (by kernel_rfl) (by kernel_rfl) (hval 1 26 v1 rfl rfl) g1
  obtain ⟨x2, w2, r2⟩ := arg_rv (n := 8) (T := (tRange : Ty)) (ag := true) (by kernel_rfl) (by kernel_rfl) (hval 2 28 v2 rfl rfl) g2
  have hc := row_call (W := W) laws_FnExactOwnScan_c (FnExactOwnScan_g_law x0 x1 x2 w0 w1 w2) (cargs := [v0, v1, v2]) (by simp only [RVs]; exact ⟨v0, _, rfl, r0 _ _, v1, _, rfl, r1 _ _, v2, _, rfl, r2 _ _, rfl⟩)
  refine hc.mono fun e W' ⟨⟨cv, he, μ', X, hcv⟩, hb⟩ => ?_
  simp only [RV] at hcv
  subst hcv
  subst he
  exact ⟨_, rfl, row_end hW' rfl rfl (t := 4) (by kernel_rfl) (by kernel_rfl) Try.laidOut (by rw [Try.params3]; intro u hu; simp at hu; rcases hu with rfl | rfl | rfl <;> exact ⟨by kernel_rfl, of_decide_eq_true (by kernel_rfl)⟩) hb⟩

theorem FnExactOwnScan_j0 : mapsRowed Try.prog = true := by kernel_rfl
theorem FnExactOwnScan_j1 : (Rows.fnExactOwnScanRow.inPlace == Try.prog.inPlace 3) = true := by kernel_rfl
theorem FnExactOwnScan_j2 : (Rows.fnExactOwnScanRow.unfollowed == Try.prog.unfollowed 3) = true := by kernel_rfl
theorem FnExactOwnScan_j3 : (Rows.fnExactOwnScanRow.recurses == Try.prog.recurses 3) = true := by kernel_rfl
theorem FnExactOwnScan_j4 : (Rows.fnExactOwnScanRow.named == Try.prog.varsNamed 3) = true := by kernel_rfl
theorem FnExactOwnScan_j5 : (Rows.fnExactOwnScanRow.lifted == Try.prog.liftsFinal) = true := by kernel_rfl
theorem FnExactOwnScan_j6 : Try.prog.stopsHeard = true := by kernel_rfl
theorem FnExactOwnScan_j7 : Try.prog.mayEnter = true := by kernel_rfl
theorem FnExactOwnScan_j8 : (Rows.fnExactOwnScanRow.wf (OpenSpec.ofChange Rows.fnExactOwnScanSpec)) = true := by kernel_rfl
theorem andB {a b : Bool} (ha : a = true) (hb : b = true) : (a && b) = true := by rw [ha, hb]; rfl

theorem FnExactOwnScan_closed : joinedFacts Try.prog 3 Try.f3 Rows.fnExactOwnScanSpec Rows.fnExactOwnScanRow = true := by
  unfold joinedFacts
  exact (andB (andB (andB (andB (andB (andB (andB (andB (andB (andB (andB (andB (andB (andB (andB (andB (andB (andB (andB (andB (andB (andB (andB (andB (andB (andB (andB (andB (andB (andB (andB FnExactOwnScan_j8 Try.laidOut) FnExactOwnScan_j0) (by kernel_rfl)) (by kernel_rfl)) (by kernel_rfl)) (by kernel_rfl)) (by kernel_rfl)) (by kernel_rfl)) FnExactOwnScan_j1) FnExactOwnScan_j2) FnExactOwnScan_j3) FnExactOwnScan_j4) (by kernel_rfl)) (by kernel_rfl)) (by kernel_rfl)) (by kernel_rfl)) (by kernel_rfl)) (by kernel_rfl)) (by kernel_rfl)) (by kernel_rfl)) (by kernel_rfl)) (by kernel_rfl)) (by kernel_rfl)) FnExactOwnScan_j6) FnExactOwnScan_j7) FnExactOwnScan_j5) (by kernel_rfl)) (by kernel_rfl)) (by kernel_rfl)) (by kernel_rfl)) (by kernel_rfl))

theorem FnExactOwnScan_holds : Rows.FnExactOwnScanSaid :=
  OpenClaim.holds_of_wide 3 Try.f3 rfl rfl rfl rfl rfl rfl rfl ⟨rfl, rfl, rfl, rfl, rfl⟩ rfl rfl rfl rfl rfl (by kernel_rfl) Try.func3 FnExactOwnScan_closed
    (of_decide_eq_true (by kernel_rfl)) (by unfold Func.isWrapper; first | (rw [if_pos (by decide +kernel)]; kernel_rfl) | (rw [if_neg (by decide +kernel)]; exact ⟨rfl, rfl⟩))
    (fun os started H enc _ => FnExactOwnScan_lifted os started H enc)

end Go.Proofs.Yteolgjmeigifbaa
