/- The plain laws. -/
import Derived.Test.YtdcgbmpmiehemaaEngineNewR3
namespace Go.VE
set_option linter.unusedVariables false
set_option linter.unusedSimpArgs false
set_option maxRecDepth 100000


theorem law_FnExactEngineNew (k : Bool → Option Res) : laws_FnExactEngineNew_k k = k true := by
  rw [laws_FnExactEngineNew_e]
  unfold laws_FnExactEngineNew_d
  have hb : tEngine.wt ((([] : List dVersion), (([] : List dTxn), (([] : List dTxn), ((0 : Int), (1 : Int))))), ([] : List dTxn)) ≤ 1048576 := by simp [Ty.wt]
  simp only [spec_EngineNew_is, impl_EngineNew_is, eqEngine_w hb, markEngine_nil, heldEngine_nil ((0 : Int), (1 : Int)) (show (0 : Int) ≤ 1 by decide), Bool.not_true, cond_false, bne_self_eq_false, show decide ((1 : Int) < 0) = false by decide]

end Go.VE
