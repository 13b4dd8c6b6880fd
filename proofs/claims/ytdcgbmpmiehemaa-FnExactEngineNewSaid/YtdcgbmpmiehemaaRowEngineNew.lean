/- The statement FnExactEngineNewSaid is proved: for every input the law FnExactEngineNew hands back true, and its arguments read as they did. Conditions: none beyond the statement. -/
import Derived.Test.YtdcgbmpmiehemaaEngineNewS1
import Derived.Test.YtdcgbmpmiehemaaEngineNewR2
import Derived.Test.YtdcgbmpmiehemaaV26
import Derived.Test.YtdcgbmpmiehemaaRows
import Derived.ProofKit
namespace Go.Proofs.Ytdcgbmpmiehemaa
open Go.ChangeShapes Go.WideShapes Go.ChangeAt Go.RowKit Go.VE

theorem Try.own : ownKnob Try.prog.godebug = none := by kernel_rfl
theorem Try.laidOut : laidOutB Try.prog = true := by kernel_rfl

theorem FnExactEngineNew_g_law   : laws_FnExactEngineNew_g [] [] (fun v s => some ⟨.ret, [v], s⟩) = some ⟨.ret, [.bool true], []⟩ :=
  Eq.trans (by kernel_rfl) (law_FnExactEngineNew   (fun b => some ⟨.ret, [.bool b], []⟩))

set_option maxRecDepth 100000 in
theorem FnExactEngineNew_lifted (os : Os) (started : os.Started) (H : Type) (enc : TypeId × Value → H) :
    ReturnsInHanded {} Try.checked os 13 .any (Rows.fnExactEngineNewSpec.pre6 enc Try.prog Try.f13 Rows.fnExactEngineNewRow.domain false) (Rows.fnExactEngineNewSpec.post enc Try.prog Try.f13 false true false false) := by
  refine returnsInHanded_of_change (C := Try.checked) Try.own started (by kernel_rfl) Try.func13
    (ChangeSpec.witness6 (enc := enc) (C := Try.checked) false ⟨#[], #[], []⟩ 8 (by kernel_rfl) (by kernel_rfl) (by kernel_rfl) (by kernel_rfl)) ?_
  intro W base args ds gs before hval0 hW hcnd _
  have hval : ∀ (j : Nat) t v, Try.f13.params[j]? = some t → args[j]? = some v → Value.okWide Try.prog W .any base t v := hval0
  have hW' := hW
  obtain ⟨p, q, hA0, hV, rfl, hfz, hnd⟩ := hW
  have hA : DataW.TrodAll enc Try.prog W 0 (fun _ => true) true Try.f13.params.toList args.toList ds p := hA0
  rw [show Try.f13.params.toList = [] from by kernel_rfl] at hA
  obtain ⟨rfl, rfl, rfl⟩ := trodAll_none hA
  obtain ⟨rfl, rfl⟩ := trodVars_none hV
  have hc := row_call (W := W) laws_FnExactEngineNew_c (FnExactEngineNew_g_law  ) (cargs := []) (by simp only [RVs])
  refine hc.mono fun e W' ⟨⟨cv, he, μ', X, hcv⟩, hb⟩ => ?_
  simp only [RV] at hcv
  subst hcv
  subst he
  exact ⟨_, rfl, row_end hW' rfl rfl (t := 4) (by kernel_rfl) (by kernel_rfl) Try.laidOut (by intro u hu; rw [show Try.f13.params.toList = [] from by kernel_rfl] at hu; simp at hu) hb⟩

theorem FnExactEngineNew_holds : Rows.FnExactEngineNewSaid :=
  OpenClaim.holds_of_wide 13 Try.f13 rfl rfl rfl rfl rfl rfl rfl ⟨rfl, rfl, rfl, rfl, rfl⟩ rfl rfl rfl rfl rfl (by kernel_rfl) Try.func13 (by kernel_rfl)
    (of_decide_eq_true (by kernel_rfl)) (by unfold Func.isWrapper; first | (rw [if_pos (by decide +kernel)]; kernel_rfl) | (rw [if_neg (by decide +kernel)]; exact ⟨rfl, rfl⟩))
    (fun os started H enc _ => FnExactEngineNew_lifted os started H enc)

end Go.Proofs.Ytdcgbmpmiehemaa
