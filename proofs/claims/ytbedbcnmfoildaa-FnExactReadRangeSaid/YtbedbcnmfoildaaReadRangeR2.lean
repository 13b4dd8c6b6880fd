/- The plain laws. -/
import Derived.Test.YtbedbcnmfoildaaReadRangeR8
namespace Go.VE
set_option linter.unusedVariables false
set_option linter.unusedSimpArgs false
set_option maxRecDepth 100000


theorem law_FnExactReadRange (x : tTxn.D) (y : tRange.D) (hx : tTxn.wf x) (hy : tRange.wf y) (k : Bool → Option Res) : laws_FnExactReadRange_k x y k = k true := by
  rw [laws_FnExactReadRange_r]
  unfold laws_FnExactReadRange_t
  obtain ⟨r0, q0, p0⟩ := szTxn_is hx (a := 1048576) (by omega) (by omega)
  rw [q0]
  rcases p0 with p0 | ⟨p0, e0⟩
  · simp [p0]
  have c0 : ¬ r0 < 0 := by omega
  simp only [c0, decide_false, cond_false]
  obtain ⟨r1, q1, p1⟩ := szRange_is hy (a := r0) p0 (by omega)
  rw [q1]
  rcases p1 with p1 | ⟨p1, e1⟩
  · simp [p1]
  have c1 : ¬ r1 < 0 := by omega
  simp only [c1, decide_false, cond_false]
  have wx : tTxn.wt x ≤ 1048576 := by omega
  have wy : tRange.wt y ≤ 1048576 := by omega
  have hl := lensTxn2 wx
  have hq := readRange_len wx y
  have hE := fun k => eqTxn_self (x.1, (x.2.1, (x.2.2.1, (x.2.2.2.1, ((readRangeB x y).2, (x.2.2.2.2.2.1, (x.2.2.2.2.2.2.1, x.2.2.2.2.2.2.2))))))) hq hl.2 k
  have hM1 := fun (a0 a1 a2 a3 a4 a5) k => laws_markTxn_va_is (a0 := a0) (a1 := a1) (a2 := a2) (a3 := a3) (a4 := a4) (a5 := a5) (show x.2.2.2.2.1.length ≤ 1048577 by omega) hl.2 hl.1 k
  have hM2 := fun (a0 a1 a2 a3 a4 a5) k => laws_markTxn_va_is (a0 := a0) (a1 := a1) (a2 := a2) (a3 := a3) (a4 := a4) (a5 := a5) (show (readRangeB x y).2.length ≤ 1048577 by omega) hl.2 hq k
  have hH1 := fun (a b c d f n) k => laws_heldTxn_marked (a := a) (b := b) (c := c) (d := d) (f := f) (n := n) hl.1 hl.2 k
  have hH2 := fun (a b c d f n) k => laws_heldTxn_marked (a := a) (b := b) (c := c) (d := d) (f := f) (n := n) hq hl.2 k
  have hn1 : decide (1 + 2 * (x.2.2.2.2.1.length : Int) + 3 * (x.2.2.2.2.2.1.length : Int) < 0) = false := decide_eq_false (by omega)
  have hn2 : decide (1 + 2 * ((readRangeB x y).2.length : Int) + 3 * (x.2.2.2.2.2.1.length : Int) < 0) = false := decide_eq_false (by omega)
  simp only [toTxn_w wx, toRange_is, spec_ReadRange_is wx wy, impl_ReadRange_is wx wy, eqTxn_w wx, hE, hM1, hM2, hH1, hH2, hn1, hn2, Sum.elim_inl, Sum.elim_inr, laws_FnExactReadRange_wj5000013, laws_FnExactReadRange_wj5000019, laws_FnExactReadRange_wj5000030, pair_eta, beq_self_eq_true, bne_self_eq_false, Bool.not_true, Bool.not_false, cond_true, cond_false]

end Go.VE
