/- Plain laws of the helpers of all laws: sizes, copies, comparisons; written by plib.py. -/
import Derived.Test.YtpmahbmokfaflaaStoreNewW
import Derived.Test.YtpmahbmokfaflaaP2
namespace Go.VE
set_option linter.unusedVariables false
set_option linter.unusedSimpArgs false
set_option maxRecDepth 100000


theorem eqRange_self (x : tRange.D) (k) : laws_eqRange_k x x k = k true := by
  rw [laws_eqRange_e]
  simp [laws_eqRange_d, strEq_self]

theorem eqRangeS_loop {u0 : List tRange.D} {u2 : Bool} : ∀ (l : List tRange.D) (i : Nat), u0.drop i = l → ∃ z, ∀ k, laws_eqRangeS_w0 u0 u0 u2 l i k = k (.inr z)
  | [], i, h => ⟨_, fun k => rfl⟩
  | y :: l, i, h => by
    have hlt := drop_lt h
    obtain ⟨z, hz⟩ := eqRangeS_loop (u2 := u2) l (i + 1) (drop_succ h)
    have hy := (lwl_get h).1
    refine ⟨z, fun k => ?_⟩
    simp only [laws_eqRangeS_w0]
    rw [if_pos ⟨by omega, by omega⟩]
    simp only [hy, eqRange_self, Bool.not_true, cond_false, hz]

theorem eqRangeS_self {x : List tRange.D} (hl : x.length ≤ 1048576) (k) : laws_eqRangeS_k x x k = k true := by
  rw [laws_eqRangeS_r (by omega)]
  obtain ⟨z, hz⟩ := eqRangeS_loop (u0 := x) (u2 := false) x 0 rfl
  simp [laws_eqRangeS_t, hz]

theorem eqWrite_self (x : tWrite.D) (k) : laws_eqWrite_k x x k = k true := by
  rw [laws_eqWrite_e]
  simp [laws_eqWrite_d, strEq_self]

theorem eqWriteS_loop {u0 : List tWrite.D} {u2 : Bool} : ∀ (l : List tWrite.D) (i : Nat), u0.drop i = l → ∃ z, ∀ k, laws_eqWriteS_w0 u0 u0 u2 l i k = k (.inr z)
  | [], i, h => ⟨_, fun k => rfl⟩
  | y :: l, i, h => by
    have hlt := drop_lt h
    obtain ⟨z, hz⟩ := eqWriteS_loop (u2 := u2) l (i + 1) (drop_succ h)
    have hy := (lwl_get h).1
    refine ⟨z, fun k => ?_⟩
    simp only [laws_eqWriteS_w0]
    rw [if_pos ⟨by omega, by omega⟩]
    simp only [hy, eqWrite_self, Bool.not_true, cond_false, hz]

theorem eqWriteS_self {x : List tWrite.D} (hl : x.length ≤ 1048576) (k) : laws_eqWriteS_k x x k = k true := by
  rw [laws_eqWriteS_r (by omega)]
  obtain ⟨z, hz⟩ := eqWriteS_loop (u0 := x) (u2 := false) x 0 rfl
  simp [laws_eqWriteS_t, hz]

theorem eqVersion_self (x : tVersion.D) (k) : laws_eqVersion_k x x k = k true := by
  rw [laws_eqVersion_e]
  simp [laws_eqVersion_d, strEq_self]

theorem eqVersionS_loop {u0 : List tVersion.D} {u2 : Bool} : ∀ (l : List tVersion.D) (i : Nat), u0.drop i = l → ∃ z, ∀ k, laws_eqVersionS_w0 u0 u0 u2 l i k = k (.inr z)
  | [], i, h => ⟨_, fun k => rfl⟩
  | y :: l, i, h => by
    have hlt := drop_lt h
    obtain ⟨z, hz⟩ := eqVersionS_loop (u2 := u2) l (i + 1) (drop_succ h)
    have hy := (lwl_get h).1
    refine ⟨z, fun k => ?_⟩
    simp only [laws_eqVersionS_w0]
    rw [if_pos ⟨by omega, by omega⟩]
    simp only [hy, eqVersion_self, Bool.not_true, cond_false, hz]

theorem eqVersionS_self {x : List tVersion.D} (hl : x.length ≤ 1048576) (k) : laws_eqVersionS_k x x k = k true := by
  rw [laws_eqVersionS_r (by omega)]
  obtain ⟨z, hz⟩ := eqVersionS_loop (u0 := x) (u2 := false) x 0 rfl
  simp [laws_eqVersionS_t, hz]

theorem wtTxn (x : tTxn.D) : tTxn.wt x = (Ty.slice tRange).wt x.2.2.2.2.1 + (Ty.slice tWrite).wt x.2.2.2.2.2.1 + x.2.2.2.2.2.2.2.size := by
  simp only [tTxn, Ty.wt] <;> omega

theorem eqTxn_self (x : tTxn.D) (h4 : x.2.2.2.2.1.length ≤ 1048576) (h5 : x.2.2.2.2.2.1.length ≤ 1048576) (k) : laws_eqTxn_k x x k = k true := by
  rw [laws_eqTxn_e]
  simp [laws_eqTxn_d, strEq_self, eqRangeS_self h4, eqWriteS_self h5]

theorem eqTxn_w {x : tTxn.D} (h : tTxn.wt x ≤ 1048576) (k) : laws_eqTxn_k x x k = k true := by
  rw [wtTxn] at h
  exact eqTxn_self x (len_le (T := tRange) (by omega)) (len_le (T := tWrite) (by omega)) k

theorem eqTxnS_loop {u0 : List tTxn.D} (hu : ∀ y ∈ u0, tTxn.wt y ≤ 1048576) {u2 : Bool} : ∀ (l : List tTxn.D) (i : Nat), u0.drop i = l → ∃ z, ∀ k, laws_eqTxnS_w0 u0 u0 u2 l i k = k (.inr z)
  | [], i, h => ⟨_, fun k => rfl⟩
  | y :: l, i, h => by
    have hlt := drop_lt h
    obtain ⟨z, hz⟩ := eqTxnS_loop hu (u2 := u2) l (i + 1) (drop_succ h)
    have hy := (lwl_get h).1
    refine ⟨z, fun k => ?_⟩
    simp only [laws_eqTxnS_w0]
    rw [if_pos ⟨by omega, by omega⟩]
    simp only [hy, eqTxn_w (hu y (mem_of_drop h)), Bool.not_true, cond_false, hz]

theorem eqTxnS_self {x : List tTxn.D} (hl : x.length ≤ 1048576) (hu : ∀ y ∈ x, tTxn.wt y ≤ 1048576) (k) : laws_eqTxnS_k x x k = k true := by
  rw [laws_eqTxnS_r (by omega)]
  obtain ⟨z, hz⟩ := eqTxnS_loop (u0 := x) hu (u2 := false) x 0 rfl
  simp [laws_eqTxnS_t, hz]

theorem wtBase (x : tBase.D) : tBase.wt x = (Ty.slice tVersion).wt x.1 + (Ty.slice tTxn).wt x.2.1 + (Ty.slice tTxn).wt x.2.2.1 := by
  simp only [tBase, Ty.wt] <;> omega

theorem eqBase_self (x : tBase.D) (h0 : x.1.length ≤ 1048576) (h1 : x.2.1.length ≤ 1048576) (g1 : ∀ y ∈ x.2.1, tTxn.wt y ≤ 1048576) (h2 : x.2.2.1.length ≤ 1048576) (g2 : ∀ y ∈ x.2.2.1, tTxn.wt y ≤ 1048576) (k) : laws_eqBase_k x x k = k true := by
  rw [laws_eqBase_e]
  simp [laws_eqBase_d, strEq_self, eqVersionS_self h0, eqTxnS_self h1 g1, eqTxnS_self h2 g2]

theorem eqBase_w {x : tBase.D} (h : tBase.wt x ≤ 1048576) (k) : laws_eqBase_k x x k = k true := by
  rw [wtBase] at h
  exact eqBase_self x (len_le (T := tVersion) (by omega)) (len_le (T := tTxn) (by omega)) (fun y hy => wt_mem_le hy (by omega)) (len_le (T := tTxn) (by omega)) (fun y hy => wt_mem_le hy (by omega)) k

theorem wtEngine (x : tEngine.D) : tEngine.wt x = tBase.wt x.1 + (Ty.slice tTxn).wt x.2 := by
  simp only [tEngine, Ty.wt] <;> omega

theorem eqEngine_self (x : tEngine.D) (h0 : tBase.wt x.1 ≤ 1048576) (h1 : x.2.length ≤ 1048576) (g1 : ∀ y ∈ x.2, tTxn.wt y ≤ 1048576) (k) : laws_eqEngine_k x x k = k true := by
  rw [laws_eqEngine_e]
  simp [laws_eqEngine_d, strEq_self, eqBase_w h0, eqTxnS_self h1 g1]

theorem eqEngine_w {x : tEngine.D} (h : tEngine.wt x ≤ 1048576) (k) : laws_eqEngine_k x x k = k true := by
  rw [wtEngine] at h
  exact eqEngine_self x (by omega) (len_le (T := tTxn) (by omega)) (fun y hy => wt_mem_le hy (by omega)) k

end Go.VE
