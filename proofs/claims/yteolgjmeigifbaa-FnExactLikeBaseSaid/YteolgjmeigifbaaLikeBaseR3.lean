/- Plain laws: one of a list that passes a test; what is seen; the oldest. -/
import Derived.Test.YteolgjmeigifbaaLikeBaseR1
namespace Go.VE
noncomputable section
set_option linter.unusedVariables false
set_option linter.unusedSimpArgs false
set_option maxRecDepth 100000

def zV : tVersion.D := Ty.zero tVersion
def lastAtF (u0 : List tVersion.D) (key : ByteArray) (snap : Int) : List tVersion.D → Int → Nat → Int
  | [], s, _ => s
  | y :: l, s, i => bif strEq y.1 key && (decide (y.2.2.2 ≤ snap) && (decide (s < 0) || decide (y.2.2.2 > (rd zV u0 s).2.2.2))) then lastAtF u0 key snap l (i : Int) (i + 1) else lastAtF u0 key snap l s (i + 1)
def lastAtB (xs : List tVersion.D) (key : ByteArray) (snap : Int) : Int := lastAtF xs key snap xs (-1) 0


theorem impl_lastAt_w0_is {u0 u1 u2} {u4} : ∀ (l : List tVersion.D) (s : Int) (i : Nat), u0.drop i = l → (s < 0 ∨ 0 ≤ s ∧ s < (u0.length : Int)) →
    ∃ j : Int, (∀ k, impl_lastAt_w0 u0 u1 u2 u4 l s i k = k (lastAtF u0 u1 u2 l s i, j)) ∧ (lastAtF u0 u1 u2 l s i < 0 ∨ 0 ≤ lastAtF u0 u1 u2 l s i ∧ lastAtF u0 u1 u2 l s i < (u0.length : Int))
  | [], s, i, _, hs => ⟨_, fun k => rfl, hs⟩
  | y :: l, s, i, h, hs => by
    have hlt := drop_lt h
    obtain ⟨j1, hj1, b1⟩ := impl_lastAt_w0_is (u0 := u0) (u1 := u1) (u2 := u2) (u4 := u4) l s (i + 1) (drop_succ h) hs
    obtain ⟨j2, hj2, b2⟩ := impl_lastAt_w0_is (u0 := u0) (u1 := u1) (u2 := u2) (u4 := u4) l (i : Int) (i + 1) (drop_succ h) (.inr (by omega))
    have hz : (Ty.zero tVersion) = zV := rfl
    simp only [impl_lastAt_w0, hj1, hj2, lastAtF, hz]
    cases strEq y.1 u1
    · exact ⟨j1, fun k => rfl, b1⟩
    · cases decide (y.2.2.2 ≤ u2)
      · exact ⟨j1, fun k => rfl, b1⟩
      · by_cases c : s < 0
        · simp only [c, decide_true, cond_true, Bool.true_or, Bool.and_self]; exact ⟨j2, fun k => rfl, b2⟩
        · simp only [c, decide_false, cond_true, cond_false, Bool.false_or, Bool.true_and]
          simp only [if_pos (show 0 ≤ s ∧ s < (u0.length : Int) by omega)]
          cases decide (y.2.2.2 > (rd zV u0 s).2.2.2)
          · exact ⟨j1, fun k => rfl, b1⟩
          · exact ⟨j2, fun k => rfl, b2⟩

theorem impl_lastAt_is {xs : List tVersion.D} (hl : xs.length ≤ 1048576) (key) (snap) (k) : impl_lastAt_k xs key snap k = k (lastAtB xs key snap) := by
  rw [impl_lastAt_r (by omega)]
  unfold impl_lastAt_t lastAtB
  obtain ⟨j, hj, _⟩ := impl_lastAt_w0_is (u0 := xs) (u1 := key) (u2 := snap) (u4 := xs) xs (-1) 0 rfl (.inl (by omega))
  rw [hj]

theorem spec_l06At_w0_is {u0 u1 u2}  : ∀ (l : List tVersion.D) (s : Int) (i : Nat), u0.drop i = l → (s < 0 ∨ 0 ≤ s ∧ s < (u0.length : Int)) →
    ∃ j : Int, (∀ k, spec_l06At_w0 u0 u1 u2  l s i k = k (lastAtF u0 u1 u2 l s i, j)) ∧ (lastAtF u0 u1 u2 l s i < 0 ∨ 0 ≤ lastAtF u0 u1 u2 l s i ∧ lastAtF u0 u1 u2 l s i < (u0.length : Int))
  | [], s, i, _, hs => ⟨_, fun k => rfl, hs⟩
  | y :: l, s, i, h, hs => by
    have hlt := drop_lt h
    obtain ⟨j1, hj1, b1⟩ := spec_l06At_w0_is (u0 := u0) (u1 := u1) (u2 := u2)  l s (i + 1) (drop_succ h) hs
    obtain ⟨j2, hj2, b2⟩ := spec_l06At_w0_is (u0 := u0) (u1 := u1) (u2 := u2)  l (i : Int) (i + 1) (drop_succ h) (.inr (by omega))
    have hz : (Ty.zero tVersion) = zV := rfl
    simp only [spec_l06At_w0, hj1, hj2, lastAtF, hz]
    cases strEq y.1 u1
    · exact ⟨j1, fun k => rfl, b1⟩
    · cases decide (y.2.2.2 ≤ u2)
      · exact ⟨j1, fun k => rfl, b1⟩
      · by_cases c : s < 0
        · simp only [c, decide_true, cond_true, Bool.true_or, Bool.and_self]; exact ⟨j2, fun k => rfl, b2⟩
        · simp only [c, decide_false, cond_true, cond_false, Bool.false_or, Bool.true_and]
          simp only [if_pos (show 0 ≤ s ∧ s < (u0.length : Int) by omega)]
          cases decide (y.2.2.2 > (rd zV u0 s).2.2.2)
          · exact ⟨j1, fun k => rfl, b1⟩
          · exact ⟨j2, fun k => rfl, b2⟩

theorem spec_l06At_is {xs : List tVersion.D} (hl : xs.length ≤ 1048576) (key) (snap) (k) : spec_l06At_k xs key snap k = k (lastAtB xs key snap) := by
  rw [spec_l06At_r (by omega)]
  unfold spec_l06At_t lastAtB
  obtain ⟨j, hj, _⟩ := spec_l06At_w0_is (u0 := xs) (u1 := key) (u2 := snap)  xs (-1) 0 rfl (.inl (by omega))
  rw [hj]

theorem lastAtF_bound {u0 : List tVersion.D} {key : ByteArray} {snap : Int} : ∀ (l : List tVersion.D) (s : Int) (i : Nat), i + l.length ≤ u0.length → (s < 0 ∨ 0 ≤ s ∧ s < (u0.length : Int)) → (lastAtF u0 key snap l s i < 0 ∨ 0 ≤ lastAtF u0 key snap l s i ∧ lastAtF u0 key snap l s i < (u0.length : Int))
  | [], s, i, _, hs => hs
  | y :: l, s, i, h, hs => by
    simp only [List.length_cons] at h
    simp only [lastAtF]
    cases (strEq y.1 key && (decide (y.2.2.2 ≤ snap) && (decide (s < 0) || decide (y.2.2.2 > (rd zV u0 s).2.2.2))))
    · exact lastAtF_bound l s (i + 1) (by omega) hs
    · exact lastAtF_bound l (i : Int) (i + 1) (by omega) (.inr (by omega))

theorem lastAtB_bound (xs : List tVersion.D) (key : ByteArray) (snap : Int) : lastAtB xs key snap < 0 ∨ 0 ≤ lastAtB xs key snap ∧ lastAtB xs key snap < (xs.length : Int) :=
  lastAtF_bound xs (-1) 0 (by omega) (.inl (by omega))

def seenAtB (xs : List tVersion.D) (key : ByteArray) (snap : Int) : ByteArray × Bool :=
  bif decide (lastAtB xs key snap < 0) then (⟨#[]⟩, false) else bif (rd zV xs (lastAtB xs key snap)).2.2.1 then (⟨#[]⟩, false) else ((rd zV xs (lastAtB xs key snap)).2.1, true)


theorem impl_SeenAt_is {xs : List tVersion.D} (hl : xs.length ≤ 1048576) (key) (snap) (k) : impl_SeenAt_k xs key snap k = k (seenAtB xs key snap) := by
  have hb := lastAtB_bound xs key snap
  have hz : (Ty.zero tVersion) = zV := rfl
  rw [impl_SeenAt_e]
  unfold impl_SeenAt_d seenAtB
  simp only [impl_lastAt_is hl, hz]
  by_cases c : lastAtB xs key snap < 0
  · simp only [c, decide_true, cond_true]
  · simp only [c, decide_false, cond_false]
    rw [if_pos (by omega)]
    cases (rd zV xs (lastAtB xs key snap)).2.2.1
    · simp only [cond_false]; rw [if_pos (by omega)]
    · rfl

theorem spec_SeenAt_is {xs : List tVersion.D} (hl : xs.length ≤ 1048576) (key) (snap) (k) : spec_SeenAt_k xs key snap k = k (seenAtB xs key snap) := by
  have hb := lastAtB_bound xs key snap
  have hz : (Ty.zero tVersion) = zV := rfl
  rw [spec_SeenAt_e]
  unfold spec_SeenAt_d seenAtB
  simp only [spec_l06At_is hl, hz]
  by_cases c : lastAtB xs key snap < 0
  · simp only [c, decide_true, cond_true]
  · simp only [c, decide_false, cond_false]
    rw [if_pos (by omega)]
    cases (rd zV xs (lastAtB xs key snap)).2.2.1
    · simp only [cond_false]; rw [if_pos (by omega)]
    · rfl

end
end Go.VE
