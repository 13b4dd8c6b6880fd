/- The plain laws. -/
import Derived.Test.YtpmahbmokfaflaaInDoubtR27
namespace Go.VE
set_option linter.unusedVariables false
set_option linter.unusedSimpArgs false
set_option maxRecDepth 100000


theorem law_FnExactInDoubt (x : tStore.D) (hx : tStore.wf x) (k : Bool → Option Res) : laws_FnExactInDoubt_k x k = k true := by
  rw [laws_FnExactInDoubt_r]
  unfold laws_FnExactInDoubt_t
  obtain ⟨r0, q0, p0⟩ := szStore_is hx (a := 1048576) (by omega) (by omega)
  rw [q0]
  rcases p0 with p0 | ⟨p0, e0⟩
  · simp [p0]
  have c0 : ¬ r0 < 0 := by omega
  simp only [c0, decide_false, cond_false]
  have wx : tStore.wt x ≤ 1048576 := by omega
  have hS := wtStore x
  have hE := wtEngine x.1
  have hB := wtBase x.1.1
  have hd : x.1.1.2.2.1.length ≤ 1048576 := len_le (T := tTxn) (by omega)
  have hl : (doubts x).length ≤ 1048576 := by simpa [doubts] using hd
  have hI := fun k => impl_InDoubt_is (x := x) hd k
  have hJ := fun k => spec_InDoubt_is (x := x) hd k
  have hM := fun k => markStore_at wx x.1.1.2.2.2.1 x.1.1.2.2.2.2 k
  have c2 : decide (1 + cntS x < 0) = false := decide_eq_false (by have := cntS_pos x; omega)
  obtain ⟨e, he⟩ := inDoubt_end wx (doubts x) hl rfl (fun z => k z.1)
  rw [toStore_w wx]
  refine (hJ _).trans ?_
  rw [toStore_w wx]
  refine (hI _).trans ?_
  rw [eqStringS_self hl]
  simp only [Bool.not_true, cond_false]
  rw [toStore_w wx]
  refine (eqStore_w wx _).trans ?_
  simp only [Bool.not_true, cond_false]
  refine (hM _).trans ?_
  simp only [c2, cond_false]
  rw [eqStringS_self hl]
  simp only [Bool.not_true, cond_false]
  exact he

end Go.VE
