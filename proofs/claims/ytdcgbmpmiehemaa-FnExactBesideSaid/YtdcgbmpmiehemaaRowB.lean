/- The statement FnExactBesideSaid is proved: for every pair of transactions the law FnExactBeside hands back true and leaves its arguments as they were. Conditions: none beyond the statement. -/
import Derived.Test.YtdcgbmpmiehemaaAS
import Derived.Test.YtdcgbmpmiehemaaL4
import Derived.Test.YtdcgbmpmiehemaaV26
import Derived.Test.YtdcgbmpmiehemaaRows
import Derived.ProofKit
namespace Go.Proofs.Ytdcgbmpmiehemaa
open Go.ChangeShapes Go.WideShapes Go.ChangeAt Go.RowKit Go.VE

theorem Try.own : ownKnob Try.prog.godebug = none := by kernel_rfl
theorem Try.laidOut : laidOutB Try.prog = true := by kernel_rfl

abbrev tTxn : Ty := .pair (.int .i64) (.pair (.int .i64) (.pair (.int .i64) (.pair (.int .i64) (.pair (.slice (.pair .str .str)) (.pair (.slice (.pair .str (.pair .str .bool))) (.pair .bool .str))))))

theorem law (x y : tTxn.D) (hx : tTxn.wf x) (hy : tTxn.wf y) : laws_FnExactBeside_g [tTxn.toAV true x, tTxn.toAV true y] [] (fun v s => some ⟨.ret, [v], s⟩) = some ⟨.ret, [.bool true], []⟩ := by
  obtain ⟨_, _, _, _, ⟨h1, h2⟩, ⟨h3, h4⟩, _, h5⟩ := hx
  obtain ⟨_, _, _, _, ⟨g1, g2⟩, ⟨g3, g4⟩, _, g5⟩ := hy
  have h := Beside_law (a0 := x.1) (a1 := x.2.1) (a2 := x.2.2.1) (a3 := x.2.2.2.1) (o := x.2.2.2.2.2.2.1) (b0 := y.1) (b1 := y.2.1) (b2 := y.2.2.1) (b3 := y.2.2.2.1) (o' := y.2.2.2.2.2.2.1)
    h1 h3 (fun x hx => h2 x hx) (fun x hx => ⟨(h4 x hx).1, (h4 x hx).2.1⟩) h5 g1 g3 (fun x hx => g2 x hx) (fun x hx => ⟨(g4 x hx).1, (g4 x hx).2.1⟩) g5 (fun b => some ⟨.ret, [.bool b], []⟩)
  exact Eq.trans (by kernel_rfl) h

set_option maxRecDepth 100000 in
theorem FnExactBeside_lifted (os : Os) (started : os.Started) (H : Type) (enc : TypeId × Value → H) :
    ReturnsInHanded {} Try.checked os 3 .any (Rows.fnExactBesideSpec.pre6 enc Try.prog Try.f3 Rows.fnExactBesideRow.domain false) (Rows.fnExactBesideSpec.post enc Try.prog Try.f3 false true false false) := by
  refine returnsInHanded_of_change (C := Try.checked) Try.own started (by kernel_rfl) Try.func3
    (ChangeSpec.witness6 (enc := enc) (C := Try.checked) false ⟨#[], #[.agg #[.int .i64 0, .int .i64 0, .int .i64 0, .int .i64 0, .slice none 0 0, .slice none 0 0, .bool false, .string ⟨#[]⟩], .agg #[.int .i64 0, .int .i64 0, .int .i64 0, .int .i64 0, .slice none 0 0, .slice none 0 0, .bool false, .string ⟨#[]⟩]], []⟩ 8 (by kernel_rfl) (by kernel_rfl) (by kernel_rfl) (by kernel_rfl)) ?_
  intro W base args ds gs before hval0 hW hcnd _
  have hval : ∀ (j : Nat) t v, Try.f3.params[j]? = some t → args[j]? = some v → Value.okWide Try.prog W .any base t v := hval0
  have hW' := hW
  obtain ⟨p, q, hA0, hV, rfl, hfz, hnd⟩ := hW
  have hA : DataW.TrodAll enc Try.prog W 0 (fun _ => true) true Try.f3.params.toList args.toList ds p := hA0
  rw [Try.params3] at hA hval
  obtain ⟨v0, v1, d0, d1, p0, p1, rfl, rfl, rfl, h0, h1⟩ := trodAll_two hA
  obtain ⟨rfl, rfl⟩ := trodVars_none hV
  obtain ⟨x0, w0, r0⟩ := arg_rv (n := 8) (T := tTxn) (ag := true) (by kernel_rfl) (by kernel_rfl) (hval 0 25 v0 rfl rfl) h0
  obtain ⟨x1, w1, r1⟩ := arg_rv (n := 8) (T := tTxn) (ag := true) (by kernel_rfl) (by kernel_rfl) (hval 1 25 v1 rfl rfl) h1
  have hc := row_call (W := W) laws_FnExactBeside_c (law x0 x1 w0 w1) (cargs := [v0, v1]) (by simp only [RVs]; exact ⟨v0, _, rfl, r0 _ _, v1, _, rfl, r1 _ _, rfl⟩)
  refine hc.mono fun e W' ⟨⟨cv, he, μ', X, hcv⟩, hb⟩ => ?_
  simp only [RV] at hcv
  subst hcv
  subst he
  exact ⟨_, rfl, row_end hW' rfl rfl (t := 4) (by kernel_rfl) (by kernel_rfl) Try.laidOut (by rw [Try.params3]; intro u hu; simp at hu; subst hu; exact ⟨by kernel_rfl, of_decide_eq_true (by kernel_rfl)⟩) hb⟩

theorem FnExactBeside_holds : Rows.FnExactBesideSaid :=
  OpenClaim.holds_of_wide 3 Try.f3 rfl rfl rfl rfl rfl rfl rfl ⟨rfl, rfl, rfl, rfl, rfl⟩ rfl rfl rfl rfl rfl (by kernel_rfl) Try.func3 (by kernel_rfl)
    (of_decide_eq_true (by kernel_rfl)) (by unfold Func.isWrapper; first | (rw [if_pos (by decide +kernel)]; kernel_rfl) | (rw [if_neg (by decide +kernel)]; exact ⟨rfl, rfl⟩))
    (fun os started H enc _ => FnExactBeside_lifted os started H enc)

end Go.Proofs.Ytdcgbmpmiehemaa
