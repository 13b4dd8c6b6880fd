/- Plain laws of the helpers of all laws: sizes, copies, comparisons; written by plib.py. -/
import Derived.Test.YtbedbcnmfoildaaReadTxnW
import Derived.Test.YtbedbcnmfoildaaP2
namespace Go.VE
set_option linter.unusedVariables false
set_option linter.unusedSimpArgs false
set_option maxRecDepth 100000


theorem wtRange (x : tRange.D) : tRange.wt x = x.1.size + x.2.size := by
  simp only [tRange, Ty.wt] <;> omega

theorem eqRange_self (x : tRange.D) (k) : laws_eqRange_k x x k = k true := by
  rw [laws_eqRange_e]
  simp [laws_eqRange_d, strEq_self]

theorem eqRangeS_loop {u0 : List tRange.D} {u2 : Bool} : ∀ (l : List tRange.D) (i : Nat), u0.drop i = l → ∃ z, ∀ k, laws_eqRangeS_w0 u0 u0 u2 l i k = k (.inr z)
  | [], i, h => ⟨_, fun k => rfl⟩
  | y :: l, i, h => by
    have hlt := drop_lt h
    obtain ⟨z, hz⟩ := eqRangeS_loop (u2 := u2) l (i + 1) (drop_succ h)
    have hy := (lwl_get h).1
    refine ⟨z, fun k => ?_⟩
    simp only [laws_eqRangeS_w0]
    rw [if_pos ⟨by omega, by omega⟩]
    simp only [hy, eqRange_self, Bool.not_true, cond_false, hz]

theorem eqRangeS_self {x : List tRange.D} (hl : x.length ≤ 1048576) (k) : laws_eqRangeS_k x x k = k true := by
  rw [laws_eqRangeS_r (by omega)]
  obtain ⟨z, hz⟩ := eqRangeS_loop (u0 := x) (u2 := false) x 0 rfl
  simp [laws_eqRangeS_t, hz]

theorem wtWrite (x : tWrite.D) : tWrite.wt x = x.1.size + x.2.1.size := by
  simp only [tWrite, Ty.wt] <;> omega

theorem eqWrite_self (x : tWrite.D) (k) : laws_eqWrite_k x x k = k true := by
  rw [laws_eqWrite_e]
  simp [laws_eqWrite_d, strEq_self]

theorem eqWriteS_loop {u0 : List tWrite.D} {u2 : Bool} : ∀ (l : List tWrite.D) (i : Nat), u0.drop i = l → ∃ z, ∀ k, laws_eqWriteS_w0 u0 u0 u2 l i k = k (.inr z)
  | [], i, h => ⟨_, fun k => rfl⟩
  | y :: l, i, h => by
    have hlt := drop_lt h
    obtain ⟨z, hz⟩ := eqWriteS_loop (u2 := u2) l (i + 1) (drop_succ h)
    have hy := (lwl_get h).1
    refine ⟨z, fun k => ?_⟩
    simp only [laws_eqWriteS_w0]
    rw [if_pos ⟨by omega, by omega⟩]
    simp only [hy, eqWrite_self, Bool.not_true, cond_false, hz]

theorem eqWriteS_self {x : List tWrite.D} (hl : x.length ≤ 1048576) (k) : laws_eqWriteS_k x x k = k true := by
  rw [laws_eqWriteS_r (by omega)]
  obtain ⟨z, hz⟩ := eqWriteS_loop (u0 := x) (u2 := false) x 0 rfl
  simp [laws_eqWriteS_t, hz]

theorem wtVersion (x : tVersion.D) : tVersion.wt x = x.1.size + x.2.1.size := by
  simp only [tVersion, Ty.wt] <;> omega

theorem wtTxn (x : tTxn.D) : tTxn.wt x = (Ty.slice tRange).wt x.2.2.2.2.1 + (Ty.slice tWrite).wt x.2.2.2.2.2.1 + x.2.2.2.2.2.2.2.size := by
  simp only [tTxn, Ty.wt] <;> omega

theorem eqTxn_self (x : tTxn.D) (h4 : x.2.2.2.2.1.length ≤ 1048576) (h5 : x.2.2.2.2.2.1.length ≤ 1048576) (k) : laws_eqTxn_k x x k = k true := by
  rw [laws_eqTxn_e]
  simp [laws_eqTxn_d, strEq_self, eqRangeS_self h4, eqWriteS_self h5]

theorem eqTxn_w {x : tTxn.D} (h : tTxn.wt x ≤ 1048576) (k) : laws_eqTxn_k x x k = k true := by
  rw [wtTxn] at h
  exact eqTxn_self x (len_le (T := tRange) (by omega)) (len_le (T := tWrite) (by omega)) k

theorem wtBase (x : tBase.D) : tBase.wt x = (Ty.slice tVersion).wt x.1 + (Ty.slice tTxn).wt x.2.1 + (Ty.slice tTxn).wt x.2.2.1 := by
  simp only [tBase, Ty.wt] <;> omega

theorem wtEngine (x : tEngine.D) : tEngine.wt x = tBase.wt x.1 + (Ty.slice tTxn).wt x.2 := by
  simp only [tEngine, Ty.wt] <;> omega

end Go.VE
