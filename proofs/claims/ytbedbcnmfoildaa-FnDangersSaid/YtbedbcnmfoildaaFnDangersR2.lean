/- The plain laws. -/
import Derived.Test.YtbedbcnmfoildaaFnDangersR15
namespace Go.VE
set_option linter.unusedVariables false
set_option linter.unusedSimpArgs false
set_option maxRecDepth 100000


theorem law_FnDangers (x : (Ty.slice (.int .u8)).D) (hx : (Ty.slice (.int .u8)).wf x) (k : Bool → Option Res) : laws_FnDangers_k x k = k true := by
  rw [laws_FnDangers_e]
  unfold laws_FnDangers_d
  rw [laws_big_is]
  by_cases hl : (x.length : Int) > 1048576
  · simp only [hl, decide_true, cond_true]
  · simp only [hl, decide_false, cond_false]
    obtain ⟨⟨i1, s1, n1, c1, f1, m1, r1, w1, L⟩, ⟨a1, a2, a3, a4, a5⟩, h⟩ := spec_DrawOthers_G (a0 := x) (by omega)
    obtain ⟨⟨j1, t1, p1, d1, g1, l1, q1, v1, S⟩, ⟨b1, b2, b3, b4, b5⟩, h'⟩ := spec_DrawDanger_G (a0 := x) (by omega)
    dsimp only at a1 a2 a3 a4 a5 b1 b2 b3 b4 b5
    have hT : tTxn.wt (i1, (s1, (n1, (c1, (r1, (w1, (f1, m1))))))) ≤ 1048576 := wt_small a1 a2 a3
    have hY : tTxn.wt (i1, (s1, (n1, (c1, (([] : List dRange), (([] : List dWrite), (f1, m1))))))) ≤ 1048576 := wt_small a1 (okR_nil _) (okW_nil _)
    have hZ : tTxn.wt (i1, (s1, (n1, (c1, (([] : List dRange), (w1, (f1, m1))))))) ≤ 1048576 := wt_small a1 (okR_nil _) a3
    have hX : tTxn.wt (j1, (t1, (p1, (d1, (q1, (v1, (g1, l1))))))) ≤ 1048576 := wt_small b1 b2 b3
    have hL := okL_wt a4
    have hS := okL_wt b4
    have eD := danger_same (t := (j1, (t1, (p1, (d1, (q1, (v1, (g1, l1)))))))) (okO_ids b4 b5)
    have eR := readyDanger_same (t := (j1, (t1, (p1, (d1, (q1, (v1, (g1, l1)))))))) (okO_ids b4 b5)
    have dY := danger_quiet (t := (i1, (s1, (n1, (c1, (([] : List dRange), (([] : List dWrite), (f1, m1)))))))) rfl rfl L
    have bY := blocked_quiet (t := (i1, (s1, (n1, (c1, (([] : List dRange), (([] : List dWrite), (f1, m1)))))))) rfl L
    obtain ⟨f1', f2'⟩ := danger_facts (i1, (s1, (n1, (c1, (r1, (w1, (f1, m1))))))) L
    obtain ⟨j, hj⟩ := laws_FnDangers_loop (a := L.any fun x => inOfB (i1, (s1, (n1, (c1, (r1, (w1, (f1, m1))))))) x) (b := L.any fun x => outOfB (i1, (s1, (n1, (c1, (r1, (w1, (f1, m1))))))) x) (R4 := i1) (R5 := s1) (R6 := n1) (R7 := c1) (R8 := f1) (R9 := m1) (L := L) (len_le hL) (R := (j1, t1, p1, d1, g1, l1, S, i1, s1, n1, c1, f1, m1, i1, s1, n1, c1, f1, m1, r1, w1, q1, v1, ([] : List dRange), ([] : List dWrite), ([] : List dRange))) L false 0 Fuel rfl (Nat.lt_of_lt_of_le (by have := len_le hL; omega) fuel_big)
    have hz : ((0 : Nat) : Int) = 0 := rfl
    rw [hz] at hj
    have hz3 : (L.any fun x => x.2.1 == 2) = false → dangerB (i1, (s1, (n1, (c1, (([] : List dRange), (w1, (f1, m1))))))) L = false := fun hr => danger_noready rfl hr
    simp only [h, h', impl_InOf_is hT hL, impl_OutOf_is hT hL, hj, impl_Danger_is hX hS, spec_Danger_is hX hS, impl_ReadyDanger_is hX hS, spec_ReadyDanger_is hX hS, impl_Blocked_is hX hS, spec_Blocked_is hX hS, impl_InOf_is hX hS, spec_InOf_is hX hS, impl_OutOf_is hX hS, spec_OutOf_is hX hS, impl_Danger_is hT hL, impl_Danger_is hY hL, impl_Danger_is hZ hL, impl_Blocked_is hY hL, impl_ReadyDanger_is hT hL, eD, eR, dY, bY, beq_self_eq_true, cond_true, cond_false, Bool.not_false, Bool.false_or]
    revert f1' f2' hz3
    generalize (L.any fun x => inOfB (i1, (s1, (n1, (c1, (r1, (w1, (f1, m1))))))) x) = A
    generalize (L.any fun x => outOfB (i1, (s1, (n1, (c1, (r1, (w1, (f1, m1))))))) x) = B
    generalize dangerB (i1, (s1, (n1, (c1, (r1, (w1, (f1, m1))))))) L = C
    generalize readyDangerB (i1, (s1, (n1, (c1, (r1, (w1, (f1, m1))))))) L = D
    generalize dangerB (i1, (s1, (n1, (c1, (([] : List dRange), (w1, (f1, m1))))))) L = E
    generalize (L.any fun x => x.2.1 == 2) = F
    cases A <;> cases B <;> cases C <;> cases D <;> cases E <;> cases F <;> simp

end Go.VE
