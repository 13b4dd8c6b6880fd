/- The plain laws. -/
import Derived.Test.YtdcgbmpmiehemaaFnEdgesR5
namespace Go.VE
set_option linter.unusedVariables false
set_option linter.unusedSimpArgs false
set_option maxRecDepth 100000


theorem law_FnEdges (x : (Ty.slice (.int .u8)).D) (hx : (Ty.slice (.int .u8)).wf x) (k : Bool → Option Res) : laws_FnEdges_k x k = k true := by
  rw [laws_FnEdges_r]
  unfold laws_FnEdges_t
  rw [laws_big_is]
  by_cases hl : (x.length : Int) > 1048576
  · simp only [hl, decide_true, cond_true]
  · simp only [hl, decide_false, cond_false]
    obtain ⟨⟨i1, s1, n1, c1, f1, m1, i2, s2, n2, c2, f2, m2, r1, w1, r2, w2⟩, ⟨⟨a1, a2, a3, a4, a5, a6⟩, ne⟩, h⟩ := spec_DrawTxns_G (a0 := x) (by omega)
    obtain ⟨⟨j1, t1, p1, d1, g1, l1, j2, t2, p2, d2, g2, l2, q1, v1, q2, v2⟩, ⟨b1, b2, b3, b4, b5, b6⟩, h'⟩ := spec_DrawAhead_G (a0 := x) (by omega)
    rw [h]
    dsimp only at a1 a2 a3 a4 a5 a6 b1 b2 b3 b4 b5 b6 ne
    have hA : tTxn.wt (i1, (s1, (n1, (c1, (r1, (w1, (f1, m1))))))) ≤ 1048576 := wt_small a1 a3 a4
    have hB : tTxn.wt (i2, (s2, (n2, (c2, (r2, (w2, (f2, m2))))))) ≤ 1048576 := wt_small a2 a5 a6
    have hC : tTxn.wt (j1, (t1, (p1, (d1, (q1, (v1, (g1, l1))))))) ≤ 1048576 := wt_small b1 b3 b4
    have hD : tTxn.wt (j2, (t2, (p2, (d2, (q2, (v2, (g2, l2))))))) ≤ 1048576 := wt_small b2 b5 b6
    have e1 : (i1 != i2) = true := by simpa using ne
    have e2 : (i2 != i1) = true := by simpa using fun h => ne h.symm
    have hr := (lensTxn hA).1
    have hw := (lensTxn hB).2
    have hAB : besideB (i1, (s1, (n1, (c1, (r1, (w1, (f1, m1))))))) (i2, (s2, (n2, (c2, (r2, (w2, (f2, m2))))))) = (!((s1 == 3) && decide (c1 ≤ n2)) && !((s2 == 3) && decide (c2 ≤ n1))) := by
      unfold besideB pastB; simp only [e1, Bool.true_and]
    have hBA : besideB (i2, (s2, (n2, (c2, (r2, (w2, (f2, m2))))))) (i1, (s1, (n1, (c1, (r1, (w1, (f1, m1))))))) = (!((s2 == 3) && decide (c2 ≤ n1)) && !((s1 == 3) && decide (c1 ≤ n2))) := by
      unfold besideB pastB; simp only [e2, Bool.true_and]
    have hAA : besideB (i1, (s1, (n1, (c1, (r1, (w1, (f1, m1))))))) (i1, (s1, (n1, (c1, (r1, (w1, (f1, m1))))))) = false := by
      unfold besideB; simp only [bne_self_eq_false, Bool.false_and]
    simp only [laws_FnEdges_wj5000006, h', impl_Beside_is, spec_Beside_is, impl_Ahead_is hA hB, impl_Ahead_is hC hD, spec_Ahead_is hC hD, impl_Ahead_is hA hA, spec_Touches_is hr hw, aheadB, hAB, hBA, hAA, Bool.false_and, Bool.not_false, beq_self_eq_true, cond_true]
    cases (s1 == 3) <;> cases decide (c1 ≤ n2) <;> cases (s2 == 3) <;> cases decide (c2 ≤ n1) <;> cases touchesB r1 w2 <;> rfl

end Go.VE
