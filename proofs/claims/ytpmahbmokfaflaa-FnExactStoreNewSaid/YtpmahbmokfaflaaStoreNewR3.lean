/- Plain laws: one of a list that passes a test; what is seen; the oldest. -/
import Derived.Test.YtpmahbmokfaflaaStoreNewR1
namespace Go.VE
noncomputable section
set_option linter.unusedVariables false
set_option linter.unusedSimpArgs false
set_option maxRecDepth 100000

theorem spec_BaseNew_is (k) : spec_BaseNew_k k = k ((0 : Int), (1 : Int)) := by rw [spec_BaseNew_e]; rfl
theorem impl_BaseNew_is (k) : impl_BaseNew_k k = k ((0 : Int), (1 : Int)) := by rw [impl_BaseNew_e]; rfl
theorem spec_EngineNew_is (k) : spec_EngineNew_k k = k ((0 : Int), (1 : Int)) := by rw [spec_EngineNew_e]; unfold spec_EngineNew_d; rw [spec_BaseNew_is]
theorem impl_EngineNew_is (k) : impl_EngineNew_k k = k ((0 : Int), (1 : Int)) := by rw [impl_EngineNew_e]; unfold impl_EngineNew_d; rw [impl_BaseNew_is]
theorem fuel_succ : ∃ n, Fuel = n + 1 := ⟨Fuel - 1, by have := fuel_big; omega⟩
theorem markVersionS_nil (a : Int) (k) : laws_markVersionS_vn_k a k = k a := by
  obtain ⟨n, hn⟩ := fuel_succ
  rw [laws_markVersionS_vn_e]
  simp [laws_markVersionS_vn_d, hn, loopK, laws_markVersionS_vn_b0]
theorem markTxnS_nil (a : Int) (k) : laws_markTxnS_vn_k a k = k a := by
  obtain ⟨n, hn⟩ := fuel_succ
  rw [laws_markTxnS_vn_e]
  simp [laws_markTxnS_vn_d, hn, loopK, laws_markTxnS_vn_b0]
theorem markBase_nil (a b c : Int) (k) : laws_markBase_va_k a b c k = k c := by
  rw [laws_markBase_va_e]
  simp only [laws_markBase_va_d, markVersionS_nil, markTxnS_nil]
theorem markEngine_nil (a b c : Int) (k) : laws_markEngine_va_k a b c k = k c := by
  rw [laws_markEngine_va_e]
  simp only [laws_markEngine_va_d, markBase_nil, markTxnS_nil]
theorem heldVersionS_nil (a : Int) (k) : laws_heldVersionS_k ([] : List dVersion) a k = k a := by
  rw [laws_heldVersionS_r (by simp)]
  rfl
theorem heldTxnS_nil (a : Int) (k) : laws_heldTxnS_k ([] : List dTxn) a k = k a := by
  rw [laws_heldTxnS_r (by simp)]
  rfl
theorem heldBase_nil (y : Int × Int) {a : Int} (ha : 0 ≤ a) (k) : laws_heldBase_k (([] : List dVersion), (([] : List dTxn), (([] : List dTxn), y))) a k = k a := by
  have c : ¬ a < 0 := by omega
  rw [laws_heldBase_e]
  simp only [laws_heldBase_d, heldVersionS_nil, heldTxnS_nil, c, decide_false, cond_false]
theorem heldEngine_nil (y : Int × Int) {a : Int} (ha : 0 ≤ a) (k) : laws_heldEngine_k ((([] : List dVersion), (([] : List dTxn), (([] : List dTxn), y))), ([] : List dTxn)) a k = k a := by
  have c : ¬ a < 0 := by omega
  rw [laws_heldEngine_e]
  simp only [laws_heldEngine_d, heldBase_nil y ha, heldTxnS_nil, c, decide_false, cond_false]

end
end Go.VE
