/- The plain laws. -/
import Derived.Test.YtdcgbmpmiehemaaOwnGetR3
namespace Go.VE
set_option linter.unusedVariables false
set_option linter.unusedSimpArgs false
set_option maxRecDepth 100000


theorem law_FnExactOwnGet (x : tTxn.D) (y : (Ty.slice tVersion).D) (z : ByteArray) (hx : tTxn.wf x) (hy : (Ty.slice tVersion).wf y) (hz : Ty.str.wf z) (k : Bool → Option Res) : laws_FnExactOwnGet_k x y z k = k true := by
  rw [laws_FnExactOwnGet_r]
  unfold laws_FnExactOwnGet_t
  by_cases bz : (z.size : Int) > 1048576
  · simp only [bz, decide_true, cond_true]
  simp only [bz, decide_false, cond_false]
  obtain ⟨r0, q0, p0⟩ := szTxn_is hx (a := 1048576) (by omega) (by omega)
  rw [q0]
  rcases p0 with p0 | ⟨p0, e0⟩
  · simp [p0]
  have c0 : ¬ r0 < 0 := by omega
  simp only [c0, decide_false, cond_false]
  obtain ⟨r1, q1, p1⟩ := szVersionS_is hy (a := r0) p0 (by omega)
  rw [q1]
  rcases p1 with p1 | ⟨p1, e1⟩
  · simp [p1]
  have c1 : ¬ r1 < 0 := by omega
  simp only [c1, decide_false, cond_false]
  have wx : tTxn.wt x ≤ 1048576 := by omega
  have wy : (Ty.slice tVersion).wt y ≤ 1048576 := by omega
  have ly := len_le wy
  have my := fun u hu => wt_mem_le (xs := y) (x := u) hu wy
  have wz : z.size ≤ 1048576 := by omega
  simp only [toTxn_w wx, toVersionS_is ly, spec_OwnGet_is wx ly, impl_OwnGet_is wx ly, eqTxn_w wx, eqVersionS_self ly, strEq_self, laws_FnExactOwnGet_wj5000016, pair_eta, beq_self_eq_true, bne_self_eq_false, Bool.not_true, Bool.not_false, cond_true, cond_false]

end Go.VE
