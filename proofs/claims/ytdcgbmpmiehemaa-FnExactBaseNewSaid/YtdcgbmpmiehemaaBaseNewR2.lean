/- The plain laws. -/
import Derived.Test.YtdcgbmpmiehemaaBaseNewR3
namespace Go.VE
set_option linter.unusedVariables false
set_option linter.unusedSimpArgs false
set_option maxRecDepth 100000


theorem law_FnExactBaseNew (k : Bool → Option Res) : laws_FnExactBaseNew_k k = k true := by
  rw [laws_FnExactBaseNew_e]
  unfold laws_FnExactBaseNew_d
  have hb : tBase.wt (([] : List dVersion), (([] : List dTxn), (([] : List dTxn), ((0 : Int), (1 : Int))))) ≤ 1048576 := by simp [Ty.wt]
  simp only [spec_BaseNew_is, impl_BaseNew_is, eqBase_w hb, markBase_nil, heldBase_nil ((0 : Int), (1 : Int)) (show (0 : Int) ≤ 1 by decide), Bool.not_true, cond_false, bne_self_eq_false, show decide ((1 : Int) < 0) = false by decide]

end Go.VE
