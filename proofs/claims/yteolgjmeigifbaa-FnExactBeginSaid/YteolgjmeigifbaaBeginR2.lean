/- The plain laws. -/
import Derived.Test.YteolgjmeigifbaaBeginR31
namespace Go.VE
set_option linter.unusedVariables false
set_option linter.unusedSimpArgs false
set_option maxRecDepth 100000
theorem vua (x : tEngine.D) (hx : tEngine.wf x) (k : Bool → Option Res) : v0j x k = k true := by
  rw [wyt]
  unfold wiq
  obtain ⟨r0, q0, p0⟩ := v7n hx (a := 1048576) (by omega) (by omega)
  rw [q0]
  rcases p0 with p0 | ⟨p0, e0⟩
  · simp [p0]
  have c0 : ¬ r0 < 0 := by omega
  simp only [c0, decide_false, cond_false]
  have wx : tEngine.wt x ≤ 1048576 := by omega
  obtain ⟨hok, hcnt⟩ := wnn wx
  have hcx := wuv x
  have hpx := weq x
  have hpe := weq ((x.1.1, (x.1.2.1, (x.1.2.2.1, (x.1.2.2.2.1, (vdx x).1.1)))), (vdx x).2)
  have hE := fun k => v9s hok k
  have hM0 := fun a0 a1 k => vqh (waz wx) (c := 1) (by omega) (by omega) a0 a1 k
  generalize hg : cntE ((x.1.1, (x.1.2.1, (x.1.2.2.1, (x.1.2.2.2.1, (vdx x).1.1)))), (vdx x).2) = g at *
  generalize hm : vv0 1 ((x.1.1, (x.1.2.1, (x.1.2.2.1, (x.1.2.2.2.1, (vdx x).1.1)))), (vdx x).2) = m at *
  have hM1 : ∀ a0 a1 k, vn3 a0 a1 1 x.1.1 x.1.2.1 x.1.2.2.1 (vdx x).2 k = k (1 + g, m.1.1, m.1.2.1, m.1.2.2.1, m.2) := fun a0 a1 k => by
    have := vqh hok (c := 1) (by omega) (by rw [hg]; omega) a0 a1 k
    rw [hg, hm] at this
    exact this
  have hH : ∀ z1 z2 k, vom ((m.1.1, (m.1.2.1, (m.1.2.2.1, (z1, z2)))), m.2) 1 k = k (1 + g) := fun z1 z2 k => by
    have := v2c hok (c := 1) (by omega) (by rw [hg]; omega) (z1, z2) k
    rw [hg, hm] at this
    exact this
  have n0 : decide (1 + cntE x < 0) = false := decide_eq_false (by omega)
  have n1 : decide (1 + g < 0) = false := decide_eq_false (by omega)
  simp only [wfs wx, wul wx, wvr wx, v3r, hE, wfk wx, beq_self_eq_true, bne_self_eq_false, Bool.not_true, Bool.not_false, cond_true, cond_false, vf8, hM0, n0, vgk, hM1, hH, n1, vgq, Sum.elim_inl, Sum.elim_inr]
end Go.VE
