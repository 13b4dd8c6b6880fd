/- The plain laws. -/
import Derived.Test.YtdcgbmpmiehemaaOldestOfR3
namespace Go.VE
set_option linter.unusedVariables false
set_option linter.unusedSimpArgs false
set_option maxRecDepth 100000


theorem law_FnExactOldestOf (x : tBase.D) (y : (Ty.slice tTxn).D) (hx : tBase.wf x) (hy : (Ty.slice tTxn).wf y) (k : Bool → Option Res) : laws_FnExactOldestOf_k x y k = k true := by
  rw [laws_FnExactOldestOf_e]
  unfold laws_FnExactOldestOf_d
  obtain ⟨r0, q0, p0⟩ := szBase_is hx (a := 1048576) (by omega) (by omega)
  rw [q0]
  rcases p0 with p0 | ⟨p0, e0⟩
  · simp [p0]
  have c0 : ¬ r0 < 0 := by omega
  simp only [c0, decide_false, cond_false]
  obtain ⟨r1, q1, p1⟩ := szTxnS_is hy (a := r0) p0 (by omega)
  rw [q1]
  rcases p1 with p1 | ⟨p1, e1⟩
  · simp [p1]
  have c1 : ¬ r1 < 0 := by omega
  simp only [c1, decide_false, cond_false]
  have wx : tBase.wt x ≤ 1048576 := by omega
  have wy : (Ty.slice tTxn).wt y ≤ 1048576 := by omega
  have ly := len_le wy
  have my := fun u hu => wt_mem_le (xs := y) (x := u) hu wy
  simp only [toBase_w wx, toTxnS_is ly my, spec_OldestOf_is ly, impl_OldestOf_is ly, eqBase_w wx, eqTxnS_self ly my, pair_eta, beq_self_eq_true, bne_self_eq_false, Bool.not_true, Bool.not_false, cond_true, cond_false]

end Go.VE
