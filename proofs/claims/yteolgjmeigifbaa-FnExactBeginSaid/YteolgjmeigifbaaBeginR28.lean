/- Plain laws of engines: copies, comparisons, marks where lists are short; GetKey. -/
import Derived.Test.YteolgjmeigifbaaBeginR26
namespace Go.VE
noncomputable section
set_option linter.unusedVariables false
set_option linter.unusedSimpArgs false
set_option maxRecDepth 100000
/-! ### copies -/
theorem v4a {u0 : List tTxn.D} : ∀ (l acc : List tTxn.D) (i : Nat), (∀ y ∈ l, y.2.2.2.2.1.length ≤ 1048576 ∧ y.2.2.2.2.2.1.length ≤ 1048576) → acc.length + l.length ≤ 1048576 →
    ∃ j : Int, ∀ K, vjs u0 l acc i K = K (j, acc ++ l)
  | [], acc, i, _, _ => ⟨_, fun K => by simp only [vjs, List.append_nil]; rfl⟩
  | y :: l, acc, i, hw, h => by
    simp only [List.length_cons] at h
    obtain ⟨j, hj⟩ := v4a (u0 := u0) l (acc ++ [y]) (i + 1) (fun z hz => hw z (by simp [hz])) (by rw [List.length_append, List.length_singleton]; omega)
    have hy := hw y (by simp)
    refine ⟨j, fun K => ?_⟩
    simp only [vjs, wve hy.1 hy.2, v3r]
    rw [if_pos (by rw [List.length_singleton]; have : VE.maxLen = 4294967296 := rfl; omega), hj]
    simp only [List.append_assoc, List.singleton_append]
theorem v9p {l : List tTxn.D} (h : OkTs l) (k) : vqt l k = k l := by
  rw [wy3 (by have := h.2; omega)]
  obtain ⟨j, hj⟩ := v4a (u0 := l) l [] 0 h.1 (by simpa using h.2)
  simp only [wgd, hj, List.nil_append]
theorem v4b {u0 : List tTxn.D} : ∀ (l acc : List tTxn.D) (i : Nat), (∀ y ∈ l, y.2.2.2.2.1.length ≤ 1048576 ∧ y.2.2.2.2.2.1.length ≤ 1048576) → acc.length + l.length ≤ 1048576 →
    ∃ j : Int, ∀ K, vkj u0 l acc i K = K (j, acc ++ l)
  | [], acc, i, _, _ => ⟨_, fun K => by simp only [vkj, List.append_nil]; rfl⟩
  | y :: l, acc, i, hw, h => by
    simp only [List.length_cons] at h
    obtain ⟨j, hj⟩ := v4b (u0 := u0) l (acc ++ [y]) (i + 1) (fun z hz => hw z (by simp [hz])) (by rw [List.length_append, List.length_singleton]; omega)
    have hy := hw y (by simp)
    refine ⟨j, fun K => ?_⟩
    simp only [vkj, wvi hy.1 hy.2, v3r]
    rw [if_pos (by rw [List.length_singleton]; have : VE.maxLen = 4294967296 := rfl; omega), hj]
    simp only [List.append_assoc, List.singleton_append]
theorem v8g {l : List tTxn.D} (h : OkTs l) (k) : vq8 l k = k l := by
  rw [wv4 (by have := h.2; omega)]
  obtain ⟨j, hj⟩ := v4b (u0 := l) l [] 0 h.1 (by simpa using h.2)
  simp only [wgt, hj, List.nil_append]
theorem wum {e : tEngine.D} (h : OkE e) (k) : v0w e k = k (e.1.2.2.2.1, e.1.2.2.2.2, e.1.1, e.1.2.1, e.1.2.2.1, e.2) := by
  rw [wg1]
  unfold wat
  rw [wia]
  unfold v98
  rw [if_pos (by have h1 := h.1.1; have : VE.maxLen = 4294967296 := rfl; simp only [List.length_nil]; omega)]
  simp only [v9p h.1.2.1, v9p h.1.2.2, v9p h.2, List.nil_append]
theorem wus {e : tEngine.D} (h : OkE e) (k) : vzd e k = k (e.1.2.2.2.1, e.1.2.2.2.2, e.1.1, e.1.2.1, e.1.2.2.1, e.2) := by
  rw [wl9]
  unfold wah
  rw [wml]
  unfold weu
  rw [if_pos (by have h1 := h.1.1; have : VE.maxLen = 4294967296 := rfl; omega)]
  simp only [v8g h.1.2.1, v8g h.1.2.2, v8g h.2]
theorem voc {u0 : List tTxn.D} (hu : OkTs u0) {u2 : Bool} : ∀ (l : List tTxn.D) (i : Nat), u0.drop i = l → ∃ z, ∀ k, vip u0 u0 u2 l i k = k (.inr z)
  | [], i, h => ⟨_, fun k => rfl⟩
  | y :: l, i, h => by
    have hlt := vca h
    obtain ⟨z, hz⟩ := voc hu (u2 := u2) l (i + 1) (vbj h)
    have hy := (vaw h).1
    have hm := hu.1 y (vbx h)
    refine ⟨z, fun k => ?_⟩
    simp only [vip]
    rw [if_pos ⟨by omega, by omega⟩]
    simp only [hy, v0z y hm.1 hm.2, Bool.not_true, cond_false, hz]
theorem vvc {x : List tTxn.D} (h : OkTs x) (k) : vo6 x x k = k true := by
  rw [wsv (by have := h.2; omega)]
  obtain ⟨z, hz⟩ := voc h (u2 := false) x 0 rfl
  simp [wdp, hz]
theorem v9s {e : tEngine.D} (h : OkE e) (k) : vhq e e k = k true := by
  rw [wc1]
  unfold v5t
  rw [wav]
  simp [v5z, vl4 h.1.1, vvc h.1.2.1, vvc h.1.2.2, vvc h.2]
end
end Go.VE
