/- Plain laws: an engine and a record are right. -/
import Derived.Test.YteolgjmeigifbaaRecordTextR10
namespace Go.VE
noncomputable section
set_option linter.unusedVariables false
set_option linter.unusedSimpArgs false
set_option maxRecDepth 100000

def noTxnB (t : tTxn.D) : Bool := (t.1 == 0) && (t.2.1 == 0) && (t.2.2.1 == 0) && (t.2.2.2.1 == 0) && ((t.2.2.2.2.1.length : Int) == 0) && ((t.2.2.2.2.2.1.length : Int) == 0) && !t.2.2.2.2.2.2.1 && strEq t.2.2.2.2.2.2.2 ⟨#[]⟩
def noBaseB (b : tBase.D) : Bool := (b.2.2.2.1 == 0) && (b.2.2.2.2 == 0) && ((b.1.length : Int) == 0) && ((b.2.1.length : Int) == 0) && ((b.2.2.1.length : Int) == 0)

theorem impl_emptyTxn_is (t : tTxn.D) (k) : impl_emptyTxn_k t k = k (noTxnB t) := by
  rw [impl_emptyTxn_e]; unfold impl_emptyTxn_d noTxnB
  cases (t.1 == 0) <;> cases (t.2.1 == 0) <;> cases (t.2.2.1 == 0) <;> cases (t.2.2.2.1 == 0) <;> cases ((t.2.2.2.2.1.length : Int) == 0) <;> cases ((t.2.2.2.2.2.1.length : Int) == 0) <;> cases t.2.2.2.2.2.2.1 <;> rfl
theorem spec_l10NoTxn_is (t : tTxn.D) (k) : spec_l10NoTxn_k t k = k (noTxnB t) := by
  rw [spec_l10NoTxn_e]; unfold spec_l10NoTxn_d noTxnB
  cases (t.1 == 0) <;> cases (t.2.1 == 0) <;> cases (t.2.2.1 == 0) <;> cases (t.2.2.2.1 == 0) <;> cases ((t.2.2.2.2.1.length : Int) == 0) <;> cases ((t.2.2.2.2.2.1.length : Int) == 0) <;> cases t.2.2.2.2.2.2.1 <;> rfl
theorem impl_emptyBase_is (b : tBase.D) (k) : impl_emptyBase_k b k = k (noBaseB b) := by
  rw [impl_emptyBase_e]; unfold impl_emptyBase_d noBaseB
  cases (b.2.2.2.1 == 0) <;> cases (b.2.2.2.2 == 0) <;> cases ((b.1.length : Int) == 0) <;> cases ((b.2.1.length : Int) == 0) <;> cases ((b.2.2.1.length : Int) == 0) <;> rfl
theorem spec_l10NoBase_is (b : tBase.D) (k) : spec_l10NoBase_k b k = k (noBaseB b) := by
  rw [spec_l10NoBase_e]; unfold spec_l10NoBase_d noBaseB
  cases (b.2.2.2.1 == 0) <;> cases (b.2.2.2.2 == 0) <;> cases ((b.1.length : Int) == 0) <;> cases ((b.2.1.length : Int) == 0) <;> cases ((b.2.2.1.length : Int) == 0) <;> rfl

def recordOkB (r : tRecord.D) : Bool :=
  bif r.1 == 1 then txnOkB r.2.1 && (r.2.1.2.1 == 3) && strEq r.2.2.1 ⟨#[]⟩ && noBaseB r.2.2.2.2 && !r.2.2.2.1 else
  bif r.1 == 2 then txnOkB r.2.1 && (r.2.1.2.1 == 2) && strEq r.2.2.1 ⟨#[]⟩ && noBaseB r.2.2.2.2 && !r.2.2.2.1 else
  bif r.1 == 3 then noTxnB r.2.1 && keyOkB r.2.2.1 && noBaseB r.2.2.2.2 else
  bif r.1 == 4 then noTxnB r.2.1 && strEq r.2.2.1 ⟨#[]⟩ && baseOkB r.2.2.2.2 && !r.2.2.2.1 else false

theorem impl_RecordOk_is {r : tRecord.D} (hr : tRecord.wt r ≤ 1048576) (k) : impl_RecordOk_k r k = k (recordOkB r) := by
  rw [wtRecord] at hr
  have h1 : tTxn.wt r.2.1 ≤ 1048576 := by omega
  have h2 : r.2.2.1.size ≤ 1048576 := by omega
  have h3 : tBase.wt r.2.2.2.2 ≤ 1048576 := by omega
  rw [impl_RecordOk_r]
  unfold impl_RecordOk_t recordOkB
  simp only [impl_emptyTxn_is, impl_emptyBase_is, impl_TxnOk_is h1, impl_isDone_is, impl_isReady_is, impl_KeyOk_is h2, impl_BaseOk_is h3, impl_RecordOk_wj5000012]
  by_cases k1 : r.1 = 1
  · rw [k1]
    cases txnOkB r.2.1 <;> cases (r.2.1.2.1 == 3) <;> cases strEq r.2.2.1 ⟨#[]⟩ <;> cases noBaseB r.2.2.2.2 <;> cases r.2.2.2.1 <;> rfl
  by_cases k2 : r.1 = 2
  · rw [k2]
    cases txnOkB r.2.1 <;> cases (r.2.1.2.1 == 2) <;> cases strEq r.2.2.1 ⟨#[]⟩ <;> cases noBaseB r.2.2.2.2 <;> cases r.2.2.2.1 <;> rfl
  by_cases k3 : r.1 = 3
  · rw [k3]
    cases noTxnB r.2.1 <;> cases keyOkB r.2.2.1 <;> cases noBaseB r.2.2.2.2 <;> cases r.2.2.2.1 <;> rfl
  by_cases k4 : r.1 = 4
  · rw [k4]
    cases noTxnB r.2.1 <;> cases strEq r.2.2.1 ⟨#[]⟩ <;> cases baseOkB r.2.2.2.2 <;> cases r.2.2.2.1 <;> rfl
  simp only [beq_eq_false_iff_ne.2 k1, beq_eq_false_iff_ne.2 k2, beq_eq_false_iff_ne.2 k3, beq_eq_false_iff_ne.2 k4, cond_false]

theorem withinB_14 {n : Int} (k1 : n ≠ 1) (k2 : n ≠ 2) (k3 : n ≠ 3) (k4 : n ≠ 4) : withinB n 1 4 = false := by
  unfold withinB
  by_cases q1 : n ≥ 1
  · rw [decide_eq_false (show ¬ n ≤ 4 by omega), Bool.and_false]
  · rw [decide_eq_false q1]; rfl

theorem spec_RecordOk_is {r : tRecord.D} (hr : tRecord.wt r ≤ 1048576) (k) : spec_RecordOk_k r k = k (recordOkB r) := by
  rw [wtRecord] at hr
  have h1 : tTxn.wt r.2.1 ≤ 1048576 := by omega
  have h2 : r.2.2.1.size ≤ 1048576 := by omega
  have h3 : tBase.wt r.2.2.2.2 ≤ 1048576 := by omega
  rw [spec_RecordOk_r]
  unfold spec_RecordOk_t recordOkB
  simp only [spec_l01In_is, spec_RecordOk_wj5000004, spec_RecordOk_wj5000006, spec_RecordOk_wj5000008, pair_eta, spec_l10NoTxn_is, spec_l10NoBase_is, spec_TxnOk_is h1, spec_KeyOk_is h2, spec_BaseOk_is h3]
  have hs : (r.2.1.2.1 != 3) = !(r.2.1.2.1 == 3) := rfl
  have hs2 : (r.2.1.2.1 != 2) = !(r.2.1.2.1 == 2) := rfl
  rw [hs, hs2]
  by_cases k1 : r.1 = 1
  · rw [k1]
    cases txnOkB r.2.1 <;> cases (r.2.1.2.1 == 3) <;> cases strEq r.2.2.1 ⟨#[]⟩ <;> cases noBaseB r.2.2.2.2 <;> cases r.2.2.2.1 <;> rfl
  by_cases k2 : r.1 = 2
  · rw [k2]
    cases txnOkB r.2.1 <;> cases (r.2.1.2.1 == 2) <;> cases strEq r.2.2.1 ⟨#[]⟩ <;> cases noBaseB r.2.2.2.2 <;> cases r.2.2.2.1 <;> rfl
  by_cases k3 : r.1 = 3
  · rw [k3]
    cases noTxnB r.2.1 <;> cases keyOkB r.2.2.1 <;> cases noBaseB r.2.2.2.2 <;> cases r.2.2.2.1 <;> rfl
  by_cases k4 : r.1 = 4
  · rw [k4]
    cases noTxnB r.2.1 <;> cases strEq r.2.2.1 ⟨#[]⟩ <;> cases baseOkB r.2.2.2.2 <;> cases r.2.2.2.1 <;> rfl
  have hw : withinB r.1 1 4 = false := withinB_14 k1 k2 k3 k4
  simp only [hw, Bool.not_false, cond_true, beq_eq_false_iff_ne.2 k1, beq_eq_false_iff_ne.2 k2, beq_eq_false_iff_ne.2 k3, beq_eq_false_iff_ne.2 k4, cond_false]

end
end Go.VE
