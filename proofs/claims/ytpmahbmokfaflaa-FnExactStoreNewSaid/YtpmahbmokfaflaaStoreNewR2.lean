/- The plain laws. -/
import Derived.Test.YtpmahbmokfaflaaStoreNewR16
namespace Go.VE
set_option linter.unusedVariables false
set_option linter.unusedSimpArgs false
set_option maxRecDepth 100000


theorem law_FnExactStoreNew (k : Bool → Option Res) : laws_FnExactStoreNew_k k = k true := by
  rw [laws_FnExactStoreNew_e]
  unfold laws_FnExactStoreNew_d
  have hl : (List.replicate 97 zS).length ≤ 1048576 := by simp
  simp only [spec_StoreNew_is, impl_StoreNew_is, eqStore_new hl, markStore_new hl, heldStore_new hl, Bool.not_true, cond_false, bne_self_eq_false, decide_eq_false (show ¬ (1 + ((List.replicate 97 zS).length : Int)) < 0 by omega)]

end Go.VE
