/- Plain laws: a base's text. -/
import Derived.Test.YtpmahbmokfaflaaReadBaseR10
namespace Go.VE
noncomputable section
set_option linter.unusedVariables false
set_option linter.unusedSimpArgs false
set_option maxRecDepth 100000
def wth (y : tVersion.D) : Prop := y.1.size ≤ 12 ∧ y.2.1.size ≤ 12 ∧ 0 ≤ y.2.2.2 ∧ y.2.2.2 ≤ 16383
theorem vvc : ∀ {l : List tVersion.D} {p}, vg3 p l = true → ∀ y ∈ l, vjv y = true
  | [], _, _, y, hy => by cases hy
  | z :: l, p, h, y, hy => by
    simp only [vg3, Bool.and_eq_true] at h
    cases hy with
    | head => exact h.1.1
    | tail _ hm => exact vvc h.2 y hm
theorem vvp {l : List tVersion.D} (h : vdl l = true) : l.length ≤ 120 ∧ ∀ y ∈ l, wth y := by
  unfold vdl at h
  simp only [Bool.and_eq_true, decide_eq_true_eq] at h
  refine ⟨by omega, fun y hy => ?_⟩
  have := vvc h.1 y hy
  unfold vjv vaw at this
  simp only [Bool.and_eq_true, decide_eq_true_eq] at this
  have b1 := vka this.1.1.1
  have b2 := this.1.1.2
  have b3 := this.2
  exact ⟨by omega, by omega, Int.le_trans (by decide) b3.1, Int.le_trans b3.2 (by decide)⟩
theorem vu1 {cs : Int} : ∀ {l : List tTxn.D} {p}, vfe cs p l = true → ∀ y ∈ l, vc4 y = true
  | [], _, _, y, hy => by cases hy
  | z :: l, p, h, y, hy => by
    simp only [vfe, Bool.and_eq_true] at h
    cases hy with
    | head => exact h.1.1.1.1
    | tail _ hm => exact vu1 h.2 y hm
theorem vrx {cs : Int} : ∀ {l : List tTxn.D} {p}, vd1 cs p l = true → ∀ y ∈ l, vc4 y = true
  | [], _, _, y, hy => by cases hy
  | z :: l, p, h, y, hy => by
    simp only [vd1, Bool.and_eq_true] at h
    cases hy with
    | head => exact h.1.1.1.1
    | tail _ hm => exact vrx h.2 y hm
theorem v7h {b : tBase.D} (hw : tBase.wt b ≤ 1048576) (h : vip b = true) : vu8 b.2.2.2.1 ∧ vu8 b.2.2.2.2 ∧ b.1.length ≤ 120 ∧ (∀ y ∈ b.1, wth y) ∧ b.2.1.length ≤ 12 ∧ (∀ y ∈ b.2.1, tTxn.wt y ≤ 1048576 ∧ vc4 y = true) ∧ b.2.2.1.length ≤ 3 ∧ (∀ y ∈ b.2.2.1, tTxn.wt y ≤ 1048576 ∧ vc4 y = true) := by
  obtain ⟨p1, p2, p3⟩ := vxg hw
  unfold vip vaw at h
  simp only [Bool.and_eq_true, decide_eq_true_eq] at h
  obtain ⟨⟨⟨⟨⟨⟨⟨⟨h1, h2⟩, h3⟩, h4⟩, h5⟩, h6⟩, h7⟩, h8⟩, h9⟩ := h
  have v := vvp h1
  unfold vu8
  refine ⟨by omega, by omega, v.1, v.2, by omega, fun y hy => ⟨vch hy p2, vu1 h7 y hy⟩, by omega, fun y hy => ⟨vch hy p3, vrx h8 y hy⟩⟩
end
end Go.VE
