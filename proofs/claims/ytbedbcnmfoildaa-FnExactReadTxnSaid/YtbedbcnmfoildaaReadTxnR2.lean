/- The plain laws. -/
import Derived.Test.YtbedbcnmfoildaaReadTxnR11
namespace Go.VE
set_option linter.unusedVariables false
set_option linter.unusedSimpArgs false
set_option maxRecDepth 100000


theorem law_FnExactReadTxn (x : ByteArray) (y : Int) (hx : (Ty.str).wf x) (hy : (Ty.int .i64).wf y) (k : Bool → Option Res) : laws_FnExactReadTxn_k x y k = k true := by
  rw [laws_FnExactReadTxn_r]
  unfold laws_FnExactReadTxn_t
  by_cases hs : (x.size : Int) > 1048576
  · simp only [hs, decide_true, cond_true]
  have hs' : x.size ≤ 1048576 := by omega
  have wt := readTxnB_ok hs' y
  have hl := lensTxn2 wt
  have hM1 := fun (a0 a1 a2 a3 a4 a5) k => laws_markTxn_va_is (a0 := a0) (a1 := a1) (a2 := a2) (a3 := a3) (a4 := a4) (a5 := a5) (show (readTxnB id x y).2.2.2.2.2.2.2.2.1.length ≤ 1048577 from Nat.le_succ_of_le hl.1) hl.2 hl.1 k
  have hH1 := fun (a b c d f n) k => laws_heldTxn_marked (a := a) (b := b) (c := c) (d := d) (f := f) (n := n) hl.1 hl.2 k
  have hn1 : decide (1 + 2 * ((readTxnB id x y).2.2.2.2.2.2.2.2.1.length : Int) + 3 * ((readTxnB id x y).2.2.2.2.2.2.2.2.2.length : Int) < 0) = false := decide_eq_false (by omega)
  simp only [decide_eq_false hs, cond_false, spec_ReadTxn_is hs', impl_ReadTxn_is hs', readTxnB_eq, eqTxn_w wt, hM1, hH1, hn1, Sum.elim_inl, Sum.elim_inr, laws_FnExactReadTxn_wj5000007, laws_FnExactReadTxn_wj5000018, beq_self_eq_true, bne_self_eq_false, Bool.not_true, Bool.not_false, cond_true]

end Go.VE
