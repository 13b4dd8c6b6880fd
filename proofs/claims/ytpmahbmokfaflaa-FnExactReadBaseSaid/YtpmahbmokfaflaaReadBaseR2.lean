/- The plain laws. -/
import Derived.Test.YtpmahbmokfaflaaReadBaseR30
namespace Go.VE
set_option linter.unusedVariables false
set_option linter.unusedSimpArgs false
set_option maxRecDepth 100000
theorem vrb (x : ByteArray) (y : Int) (hx : Ty.str.wf x) (hy : (Ty.int .i64).wf y) (k : Bool → Option Res) : v0t x y k = k true := by
  rw [wxq]
  unfold wh7
  by_cases bz : (x.size : Int) > 1048576
  · simp only [bz, decide_true, cond_true]
  simp only [bz, decide_false, cond_false]
  have hs : x.size ≤ 1048576 := by omega
  obtain ⟨r, hr, hq⟩ := wuv hs y
  have hI := fun k => wvd hs y k
  have hw := v8f hs y
  generalize vci id id id x y = z at *
  have hE := fun k => wp1 hw k
  have hc := wu9 (z.2.2.2.2.1, (z.2.2.2.2.2.1, (z.2.2.2.2.2.2, (z.1, z.2.1))))
  have hp := wrc (z.2.2.2.2.1, (z.2.2.2.2.2.1, (z.2.2.2.2.2.2, (z.1, z.2.1))))
  generalize hg : cntB (z.2.2.2.2.1, (z.2.2.2.2.2.1, (z.2.2.2.2.2.2, (z.1, z.2.1)))) = g at *
  generalize hm : vsl 1 (z.2.2.2.2.1, (z.2.2.2.2.2.1, (z.2.2.2.2.2.2, (z.1, z.2.1)))) = m at *
  have hM : ∀ a0 a1 k, vu3 a0 a1 1 z.2.2.2.2.1 z.2.2.2.2.2.1 z.2.2.2.2.2.2 k = k (1 + g, m.1, m.2.1, m.2.2.1) := fun a0 a1 k => by
    have := v8i (wka hw) (c := 1) (by omega) (by rw [hg]; omega) a0 a1 k
    rw [hg, hm] at this
    exact this
  have hH : ∀ z1 z2 k, vr3 (m.1, (m.2.1, (m.2.2.1, (z1, z2)))) 1 k = k (1 + g) := fun z1 z2 k => by
    have := wae (wka hw) (c := 1) (by omega) (by rw [hg]; omega) (z1, z2) k
    rw [hg, hm] at this
    exact this
  have n0 : decide (1 + g < 0) = false := decide_eq_false (by omega)
  rw [hq]
  rcases hr with rfl | rfl
  · simp only [Sum.elim_inl, Sum.elim_inr, hI, hE, Bool.not_true, cond_false, bne_self_eq_false, beq_self_eq_true, vbx, vcr, hM, hH, n0]
  · simp only [Sum.elim_inl, Sum.elim_inr, hI, hE, Bool.not_true, cond_false, bne_self_eq_false, beq_self_eq_true, vbx, vcr, hM, hH, n0]
end Go.VE
