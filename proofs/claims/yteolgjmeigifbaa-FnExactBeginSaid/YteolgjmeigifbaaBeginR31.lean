/- Plain laws: Begin. -/
import Derived.Test.YteolgjmeigifbaaBeginR28
namespace Go.VE
noncomputable section
set_option linter.unusedVariables false
set_option linter.unusedSimpArgs false
set_option maxRecDepth 100000
def newT (e : va7) : tTxn.D := (e.1.2.2.2.2, ((1 : Int), (e.1.2.2.2.1, ((0 : Int), (([] : List van), (([] : List vaj), (false, (⟨#[]⟩ : ByteArray))))))))
/-- Whether one may begin. -/
def mayB (e : va7) : Bool := vem e && decide ((e.2.length : Int) < 4) && decide (e.1.2.2.2.2 < 9999)
def vdx (e : va7) : (Int × Int × Int) × List tTxn.D :=
  bif mayB e then ((e.1.2.2.2.2 + 1, e.1.2.2.2.2, 0), e.2 ++ [newT e]) else ((e.1.2.2.2.2, 0, 3), e.2)
theorem vnh {e : va7} (h : vem e = true) : (e.2.length : Int) ≤ 4 ∧ 1 ≤ e.1.2.2.2.2 ∧ e.1.2.2.2.2 ≤ 9999 := by
  unfold vem vje vbp at h
  simp only [Bool.and_eq_true, decide_eq_true_eq] at h
  omega
theorem wul {e : va7} (h : tEngine.wt e ≤ 1048576) (k) :
    vv2 e k = k (e.1.2.2.2.1, (vdx e).1.1, (vdx e).1.2.1, (vdx e).1.2.2, e.1.1, e.1.2.1, e.1.2.2.1, (vdx e).2) := by
  have ho := waz h
  rw [wls]
  unfold weh vdx mayB
  simp only [wum ho, wu0 h]
  cases hE : vem e
  · rfl
  have hp := vnh hE
  simp only [Bool.not_true, cond_false, Bool.true_and]
  by_cases h4 : (e.2.length : Int) < 4
  · by_cases h9 : e.1.2.2.2.2 < 9999
    · have w1 : IntKind.wrap .i64 (e.1.2.2.2.2 + 1) = e.1.2.2.2.2 + 1 := vbb (by omega) (by omega)
      simp only [h4, h9, show ¬ ((e.2.length : Int) ≥ 4) by omega, show ¬ (e.1.2.2.2.2 ≥ 9999) by omega, decide_false, decide_true, cond_false, cond_true, Bool.and_self, vdn, w1]
      rw [if_pos (by have : VE.maxLen = 4294967296 := rfl; simp only [List.length_singleton]; omega)]
      rfl
    · simp only [h4, h9, show ¬ ((e.2.length : Int) ≥ 4) by omega, show (e.1.2.2.2.2 ≥ 9999) by omega, decide_false, decide_true, cond_false, cond_true, Bool.and_false]
  · simp only [h4, show ((e.2.length : Int) ≥ 4) by omega, decide_false, decide_true, cond_false, cond_true, Bool.false_and]
theorem wvr {e : va7} (h : tEngine.wt e ≤ 1048576) (k) :
    vrd e k = k (e.1.2.2.2.1, (vdx e).1.1, (vdx e).1.2.1, (vdx e).1.2.2, e.1.1, e.1.2.1, e.1.2.2.1, (vdx e).2) := by
  have ho := waz h
  rw [wkw]
  unfold wbd vdx mayB
  simp only [wus ho, wuy h]
  cases hE : vem e
  · rfl
  have hp := vnh hE
  simp only [Bool.not_true, cond_false, Bool.true_and]
  by_cases h4 : (e.2.length : Int) < 4
  · have e4 : ((e.2.length : Int) == 4) = false := by simp only [beq_eq_false_iff_ne, ne_eq]; omega
    by_cases h9 : e.1.2.2.2.2 < 9999
    · have e9 : (e.1.2.2.2.2 == 9999) = false := by simp only [beq_eq_false_iff_ne, ne_eq]; omega
      have w1 : IntKind.wrap .i64 (e.1.2.2.2.2 + 1) = e.1.2.2.2.2 + 1 := vbb (by omega) (by omega)
      simp only [h4, h9, e4, e9, decide_true, cond_false, cond_true, Bool.and_self, vds, w1]
      rw [if_pos (by have : VE.maxLen = 4294967296 := rfl; simp only [List.length_singleton]; omega)]
      rfl
    · have e9 : (e.1.2.2.2.2 == 9999) = true := by simp only [beq_iff_eq]; omega
      simp only [h4, h9, e4, e9, decide_false, decide_true, cond_false, cond_true, Bool.and_false]
  · have e4 : ((e.2.length : Int) == 4) = true := by simp only [beq_iff_eq]; omega
    simp only [h4, e4, decide_false, decide_true, cond_false, cond_true, Bool.false_and]
theorem weo : ∀ (a b : List tTxn.D), cntT (a ++ b) = cntT a + cntT b
  | [], b => by simp [cntT]
  | x :: a, b => by simp only [List.cons_append, cntT, weo a b]; omega
theorem wnn {e : va7} (h : tEngine.wt e ≤ 1048576) :
    OkE ((e.1.1, (e.1.2.1, (e.1.2.2.1, (e.1.2.2.2.1, (vdx e).1.1)))), (vdx e).2) ∧ cntE ((e.1.1, (e.1.2.1, (e.1.2.2.1, (e.1.2.2.2.1, (vdx e).1.1)))), (vdx e).2) ≤ cntE e + 6 := by
  have ho := waz h
  obtain ⟨hb, ht⟩ := ho
  unfold vdx
  cases hm : mayB e
  · exact ⟨⟨⟨hb.1, hb.2.1, hb.2.2⟩, ht⟩, show cntE e ≤ cntE e + 6 by omega⟩
  · have h4 : (e.2.length : Int) < 4 := by
      unfold mayB at hm
      simp only [Bool.and_eq_true, decide_eq_true_eq] at hm
      exact hm.1.2
    refine ⟨⟨⟨hb.1, hb.2.1, hb.2.2⟩, ⟨fun y hy => ?_, ?_⟩⟩, ?_⟩
    · simp only [cond_true, List.mem_append, List.mem_singleton] at hy
      rcases hy with hy | rfl
      · exact ht.1 y hy
      · exact ⟨by simp [newT], by simp [newT]⟩
    · show (e.2 ++ [newT e]).length ≤ 1048576
      rw [List.length_append, List.length_singleton]; omega
    · show cntB e.1 + cntT (e.2 ++ [newT e]) ≤ cntB e.1 + cntT e.2 + 6
      rw [weo]
      have : cntT [newT e] = 6 := rfl
      omega
end
end Go.VE
