/- The plain laws. -/
import Derived.Test.YtpmahbmokfaflaaGetKeyR28
namespace Go.VE
set_option linter.unusedVariables false
set_option linter.unusedSimpArgs false
set_option maxRecDepth 100000


theorem law_FnExactGetKey (x : tEngine.D) (c : Int) (z : ByteArray) (hx : tEngine.wf x) (hc : (Ty.int .i64).wf c) (hz : Ty.str.wf z) (k : Bool → Option Res) : n20n_k x c z k = k true := by
  rw [n20n_r]
  unfold n20n_t
  by_cases bz : (z.size : Int) > 1048576
  · simp only [bz, decide_true, cond_true]
  simp only [bz, decide_false, cond_false]
  obtain ⟨r0, q0, p0⟩ := szEngine_is hx (a := 1048576) (by omega) (by omega)
  rw [q0]
  rcases p0 with p0 | ⟨p0, e0⟩
  · simp [p0]
  have c0 : ¬ r0 < 0 := by omega
  simp only [c0, decide_false, cond_false]
  have wx : tEngine.wt x ≤ 1048576 := by omega
  have wz : z.size ≤ 1048576 := by omega
  obtain ⟨hok, hcnt⟩ := getKey_ok wx c z
  have hcx := cntE_wt x
  have hpx := cntE_pos x
  have hpe := cntE_pos (x.1, (getKeyB x c z).2)
  have hE := fun k => eqEngine_ok hok k
  have hM0 := fun a0 a1 k => markEngine_at (okE_wt wx) (c := 1) (by omega) (by omega) a0 a1 k
  have hM1 : ∀ a0 a1 k, n38n_k a0 a1 1 x.1.1 x.1.2.1 x.1.2.2.1 (getKeyB x c z).2 k = k (1 + cntE (x.1, (getKeyB x c z).2), (markE 1 (x.1, (getKeyB x c z).2)).1.1, (markE 1 (x.1, (getKeyB x c z).2)).1.2.1, (markE 1 (x.1, (getKeyB x c z).2)).1.2.2.1, (markE 1 (x.1, (getKeyB x c z).2)).2) :=
    fun a0 a1 k => markEngine_at hok (c := 1) (by omega) (by omega) a0 a1 k
  have hH : ∀ z1 z2 k, n32n_k (((markE 1 (x.1, (getKeyB x c z).2)).1.1, ((markE 1 (x.1, (getKeyB x c z).2)).1.2.1, ((markE 1 (x.1, (getKeyB x c z).2)).1.2.2.1, (z1, z2)))), (markE 1 (x.1, (getKeyB x c z).2)).2) 1 k = k (1 + cntE (x.1, (getKeyB x c z).2)) :=
    fun z1 z2 k => heldEngine_at hok (c := 1) (by omega) (by omega) (z1, z2) k
  have n0 : decide (1 + cntE x < 0) = false := decide_eq_false (by omega)
  have n1 : decide (1 + cntE (x.1, (getKeyB x c z).2) < 0) = false := decide_eq_false (by omega)
  simp only [toEngine_w wx, n68n_is wx c wz, n00n_is wx c wz, pair_eta, hE, eqEngine_w wx, strEq_self, beq_self_eq_true, bne_self_eq_false, Bool.not_true, Bool.not_false, cond_true, cond_false, n20n_wj5000012, hM0, n0, n20n_wj5000018, hM1, hH, n1, n20n_wj5000029, Sum.elim_inl, Sum.elim_inr]

end Go.VE
