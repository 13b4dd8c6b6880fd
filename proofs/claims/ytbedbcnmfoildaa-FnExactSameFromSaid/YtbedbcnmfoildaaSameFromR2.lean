/- The plain laws. -/
import Derived.Test.YtbedbcnmfoildaaSameFromR21
namespace Go.VE
set_option linter.unusedVariables false
set_option linter.unusedSimpArgs false
set_option maxRecDepth 100000


theorem law_FnExactSameFrom (x : (Ty.slice tVersion).D) (y : (Ty.slice tVersion).D) (z : Int) (hx : (Ty.slice tVersion).wf x) (hy : (Ty.slice tVersion).wf y) (hz : (Ty.int .i64).wf z) (k : Bool → Option Res) : laws_FnExactSameFrom_k x y z k = k true := by
  rw [laws_FnExactSameFrom_e]
  unfold laws_FnExactSameFrom_d
  obtain ⟨r0, q0, p0⟩ := szVersionS_is hx (a := 1048576) (by omega) (by omega)
  rw [q0]
  rcases p0 with p0 | ⟨p0, e0⟩
  · simp [p0]
  have c0 : ¬ r0 < 0 := by omega
  simp only [c0, decide_false, cond_false]
  obtain ⟨r1, q1, p1⟩ := szVersionS_is hy (a := r0) p0 (by omega)
  rw [q1]
  rcases p1 with p1 | ⟨p1, e1⟩
  · simp [p1]
  have c1 : ¬ r1 < 0 := by omega
  simp only [c1, decide_false, cond_false]
  have wx : (Ty.slice tVersion).wt x ≤ 1048576 := by omega
  have wy : (Ty.slice tVersion).wt y ≤ 1048576 := by omega
  have lx := len_le wx
  have ly := len_le wy
  simp only [toVersionS_is lx, toVersionS_is ly, spec_SameFrom_is lx ly, impl_SameFrom_is lx ly, eqVersionS_self lx, eqVersionS_self ly, beq_self_eq_true, Bool.not_true, cond_false]

end Go.VE
