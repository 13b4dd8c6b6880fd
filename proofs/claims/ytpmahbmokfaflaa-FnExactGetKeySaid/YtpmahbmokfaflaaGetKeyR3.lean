/- Plain laws: one of a list that passes a test; what is seen; the oldest. -/
import Derived.Test.YtpmahbmokfaflaaGetKeyR1
namespace Go.VE
noncomputable section
set_option linter.unusedVariables false
set_option linter.unusedSimpArgs false
set_option maxRecDepth 100000

def zV : tVersion.D := Ty.zero tVersion
def lastAtF (u0 : List tVersion.D) (key : ByteArray) (snap : Int) : List tVersion.D → Int → Nat → Int
  | [], s, _ => s
  | y :: l, s, i => bif strEq y.1 key && (decide (y.2.2.2 ≤ snap) && (decide (s < 0) || decide (y.2.2.2 > (rd zV u0 s).2.2.2))) then lastAtF u0 key snap l (i : Int) (i + 1) else lastAtF u0 key snap l s (i + 1)
def lastAtB (xs : List tVersion.D) (key : ByteArray) (snap : Int) : Int := lastAtF xs key snap xs (-1) 0


theorem n15n_w0_is {u0 u1 u2} {u4} : ∀ (l : List tVersion.D) (s : Int) (i : Nat), u0.drop i = l → (s < 0 ∨ 0 ≤ s ∧ s < (u0.length : Int)) →
    ∃ j : Int, (∀ k, n15n_w0 u0 u1 u2 u4 l s i k = k (lastAtF u0 u1 u2 l s i, j)) ∧ (lastAtF u0 u1 u2 l s i < 0 ∨ 0 ≤ lastAtF u0 u1 u2 l s i ∧ lastAtF u0 u1 u2 l s i < (u0.length : Int))
  | [], s, i, _, hs => ⟨_, fun k => rfl, hs⟩
  | y :: l, s, i, h, hs => by
    have hlt := drop_lt h
    obtain ⟨j1, hj1, b1⟩ := n15n_w0_is (u0 := u0) (u1 := u1) (u2 := u2) (u4 := u4) l s (i + 1) (drop_succ h) hs
    obtain ⟨j2, hj2, b2⟩ := n15n_w0_is (u0 := u0) (u1 := u1) (u2 := u2) (u4 := u4) l (i : Int) (i + 1) (drop_succ h) (.inr (by omega))
    have hz : (Ty.zero tVersion) = zV := rfl
    simp only [n15n_w0, hj1, hj2, lastAtF, hz]
    cases strEq y.1 u1
    · exact ⟨j1, fun k => rfl, b1⟩
    · cases decide (y.2.2.2 ≤ u2)
      · exact ⟨j1, fun k => rfl, b1⟩
      · by_cases c : s < 0
        · simp only [c, decide_true, cond_true, Bool.true_or, Bool.and_self]; exact ⟨j2, fun k => rfl, b2⟩
        · simp only [c, decide_false, cond_true, cond_false, Bool.false_or, Bool.true_and]
          simp only [if_pos (show 0 ≤ s ∧ s < (u0.length : Int) by omega)]
          cases decide (y.2.2.2 > (rd zV u0 s).2.2.2)
          · exact ⟨j1, fun k => rfl, b1⟩
          · exact ⟨j2, fun k => rfl, b2⟩

theorem n15n_is {xs : List tVersion.D} (hl : xs.length ≤ 1048576) (key) (snap) (k) : n15n_k xs key snap k = k (lastAtB xs key snap) := by
  rw [n15n_r (by omega)]
  unfold n15n_t lastAtB
  obtain ⟨j, hj, _⟩ := n15n_w0_is (u0 := xs) (u1 := key) (u2 := snap) (u4 := xs) xs (-1) 0 rfl (.inl (by omega))
  rw [hj]

theorem n79n_w0_is {u0 u1 u2}  : ∀ (l : List tVersion.D) (s : Int) (i : Nat), u0.drop i = l → (s < 0 ∨ 0 ≤ s ∧ s < (u0.length : Int)) →
    ∃ j : Int, (∀ k, n79n_w0 u0 u1 u2  l s i k = k (lastAtF u0 u1 u2 l s i, j)) ∧ (lastAtF u0 u1 u2 l s i < 0 ∨ 0 ≤ lastAtF u0 u1 u2 l s i ∧ lastAtF u0 u1 u2 l s i < (u0.length : Int))
  | [], s, i, _, hs => ⟨_, fun k => rfl, hs⟩
  | y :: l, s, i, h, hs => by
    have hlt := drop_lt h
    obtain ⟨j1, hj1, b1⟩ := n79n_w0_is (u0 := u0) (u1 := u1) (u2 := u2)  l s (i + 1) (drop_succ h) hs
    obtain ⟨j2, hj2, b2⟩ := n79n_w0_is (u0 := u0) (u1 := u1) (u2 := u2)  l (i : Int) (i + 1) (drop_succ h) (.inr (by omega))
    have hz : (Ty.zero tVersion) = zV := rfl
    simp only [n79n_w0, hj1, hj2, lastAtF, hz]
    cases strEq y.1 u1
    · exact ⟨j1, fun k => rfl, b1⟩
    · cases decide (y.2.2.2 ≤ u2)
      · exact ⟨j1, fun k => rfl, b1⟩
      · by_cases c : s < 0
        · simp only [c, decide_true, cond_true, Bool.true_or, Bool.and_self]; exact ⟨j2, fun k => rfl, b2⟩
        · simp only [c, decide_false, cond_true, cond_false, Bool.false_or, Bool.true_and]
          simp only [if_pos (show 0 ≤ s ∧ s < (u0.length : Int) by omega)]
          cases decide (y.2.2.2 > (rd zV u0 s).2.2.2)
          · exact ⟨j1, fun k => rfl, b1⟩
          · exact ⟨j2, fun k => rfl, b2⟩

theorem n79n_is {xs : List tVersion.D} (hl : xs.length ≤ 1048576) (key) (snap) (k) : n79n_k xs key snap k = k (lastAtB xs key snap) := by
  rw [n79n_r (by omega)]
  unfold n79n_t lastAtB
  obtain ⟨j, hj, _⟩ := n79n_w0_is (u0 := xs) (u1 := key) (u2 := snap)  xs (-1) 0 rfl (.inl (by omega))
  rw [hj]

theorem lastAtF_bound {u0 : List tVersion.D} {key : ByteArray} {snap : Int} : ∀ (l : List tVersion.D) (s : Int) (i : Nat), i + l.length ≤ u0.length → (s < 0 ∨ 0 ≤ s ∧ s < (u0.length : Int)) → (lastAtF u0 key snap l s i < 0 ∨ 0 ≤ lastAtF u0 key snap l s i ∧ lastAtF u0 key snap l s i < (u0.length : Int))
  | [], s, i, _, hs => hs
  | y :: l, s, i, h, hs => by
    simp only [List.length_cons] at h
    simp only [lastAtF]
    cases (strEq y.1 key && (decide (y.2.2.2 ≤ snap) && (decide (s < 0) || decide (y.2.2.2 > (rd zV u0 s).2.2.2))))
    · exact lastAtF_bound l s (i + 1) (by omega) hs
    · exact lastAtF_bound l (i : Int) (i + 1) (by omega) (.inr (by omega))

theorem lastAtB_bound (xs : List tVersion.D) (key : ByteArray) (snap : Int) : lastAtB xs key snap < 0 ∨ 0 ≤ lastAtB xs key snap ∧ lastAtB xs key snap < (xs.length : Int) :=
  lastAtF_bound xs (-1) 0 (by omega) (.inl (by omega))

def seenAtB (xs : List tVersion.D) (key : ByteArray) (snap : Int) : ByteArray × Bool :=
  bif decide (lastAtB xs key snap < 0) then (⟨#[]⟩, false) else bif (rd zV xs (lastAtB xs key snap)).2.2.1 then (⟨#[]⟩, false) else ((rd zV xs (lastAtB xs key snap)).2.1, true)


theorem n07n_is {xs : List tVersion.D} (hl : xs.length ≤ 1048576) (key) (snap) (k) : n07n_k xs key snap k = k (seenAtB xs key snap) := by
  have hb := lastAtB_bound xs key snap
  have hz : (Ty.zero tVersion) = zV := rfl
  rw [n07n_e]
  unfold n07n_d seenAtB
  simp only [n15n_is hl, hz]
  by_cases c : lastAtB xs key snap < 0
  · simp only [c, decide_true, cond_true]
  · simp only [c, decide_false, cond_false]
    rw [if_pos (by omega)]
    cases (rd zV xs (lastAtB xs key snap)).2.2.1
    · simp only [cond_false]; rw [if_pos (by omega)]
    · rfl

theorem n74n_is {xs : List tVersion.D} (hl : xs.length ≤ 1048576) (key) (snap) (k) : n74n_k xs key snap k = k (seenAtB xs key snap) := by
  have hb := lastAtB_bound xs key snap
  have hz : (Ty.zero tVersion) = zV := rfl
  rw [n74n_e]
  unfold n74n_d seenAtB
  simp only [n79n_is hl, hz]
  by_cases c : lastAtB xs key snap < 0
  · simp only [c, decide_true, cond_true]
  · simp only [c, decide_false, cond_false]
    rw [if_pos (by omega)]
    cases (rd zV xs (lastAtB xs key snap)).2.2.1
    · simp only [cond_false]; rw [if_pos (by omega)]
    · rfl

def ownGetB (t : tTxn.D) (xs : List tVersion.D) (key : ByteArray) : ByteArray × Bool :=
  match t.2.2.2.2.2.1.find? fun w => strEq w.1 key with
  | some w => bif w.2.2 then (⟨#[]⟩, false) else (w.2.1, true)
  | none => seenAtB xs key t.2.2.1

theorem n17n_is (w : tWrite.D) (key) (k) : n17n_k w key k = k (strEq w.1 key, key) := by rw [n17n_e]; rfl

theorem n66n_w0_is {u0 : List tWrite.D} {u1} {key : ByteArray} : ∀ (l : List tWrite.D) (i : Nat), u0.drop i = l →
    (∃ a : Nat, ∃ b : Int, (∀ k, n66n_w0 u0 u1 l key i k = k (.inl ((a : Int), b, key))) ∧ a < u0.length ∧ l.find? (fun w => strEq w.1 key) = some (rd (Ty.zero tWrite) u0 (a : Int))) ∨
    (∃ b : Int, (∀ k, n66n_w0 u0 u1 l key i k = k (.inr (b, key))) ∧ l.find? (fun w => strEq w.1 key) = none)
  | [], i, _ => .inr ⟨_, fun k => rfl, rfl⟩
  | y :: l, i, h => by
    have hlt := drop_lt h
    have hy := (lwl_get h).1 (Ty.zero tWrite)
    simp only [n66n_w0, n17n_is, List.find?_cons]
    cases strEq y.1 key
    · simp only [cond_false]; exact n66n_w0_is l (i + 1) (drop_succ h)
    · exact .inl ⟨i, _, fun k => rfl, hlt, by rw [hy]⟩

theorem n04n_is {t : tTxn.D} {xs : List tVersion.D} (ht : tTxn.wt t ≤ 1048576) (hl : xs.length ≤ 1048576) (key) (k) : n04n_k t xs key k = k (ownGetB t xs key) := by
  have hlen := (lensTxn ht).2
  rw [n04n_e]
  unfold n04n_d
  rw [n16n_e]
  unfold n16n_d ownGetB
  rw [n66n_r (by omega)]
  unfold n66n_t
  rcases n66n_w0_is (u0 := t.2.2.2.2.2.1) (u1 := 0) (key := key) t.2.2.2.2.2.1 0 rfl with ⟨a, b, h1, h2, h3⟩ | ⟨b, h1, h3⟩
  · rw [h1, h3]
    simp only [Sum.elim_inl, show decide ((a : Int) ≥ 0) = true by simp, cond_true]
    rw [if_pos (by omega)]
    cases (rd (Ty.zero tWrite) t.2.2.2.2.2.1 (a : Int)).2.2
    · simp only [cond_false]; rw [if_pos (by omega)]
    · rfl
  · rw [h1, h3]
    simp only [Sum.elim_inr, show decide ((-1 : Int) ≥ 0) = false by decide, cond_false, n07n_is hl, pair_eta]

theorem n71n_w0_is {u0 : List tVersion.D} {u1 u2 u3 u5 u6 u7 u8 u9 u10 u11 u12} : ∀ (l : List tWrite.D) (i : Nat),
    ∃ j : Int, ∀ k, n71n_w0 u0 u1 u2 u3 u5 u6 u7 u8 u9 u10 u11 u12 l i k = k (match l.find? (fun w => strEq w.1 u1) with | some w => .inl (bif w.2.2 then (⟨#[]⟩, false, j) else (w.2.1, true, j)) | none => .inr j)
  | [], i => ⟨_, fun k => rfl⟩
  | y :: l, i => by
    obtain ⟨j, hj⟩ := n71n_w0_is (u0 := u0) (u1 := u1) (u2 := u2) (u3 := u3) (u5 := u5) (u6 := u6) (u7 := u7) (u8 := u8) (u9 := u9) (u10 := u10) (u11 := u11) (u12 := u12) l (i + 1)
    simp only [n71n_w0, hj, List.find?_cons]
    cases strEq y.1 u1
    · exact ⟨j, fun k => rfl⟩
    · cases hg : y.2.2
      · exact ⟨(i : Int), fun k => by simp [hg]⟩
      · exact ⟨(i : Int), fun k => by simp [hg]⟩

theorem n71n_ln {t : tTxn.D} {xs : List tVersion.D} (hlen : t.2.2.2.2.2.1.length ≤ 1048576) (hl : xs.length ≤ 1048576) (key) (k) : n71n_k t xs key k = k (ownGetB t xs key) := by
  rw [n71n_r (by omega)]
  unfold n71n_t ownGetB
  obtain ⟨j, hj⟩ := n71n_w0_is (u0 := xs) (u1 := key) (u2 := ⟨#[]⟩) (u3 := false) (u5 := t.1) (u6 := t.2.1) (u7 := t.2.2.1) (u8 := t.2.2.2.1) (u9 := t.2.2.2.2.1) (u10 := t.2.2.2.2.2.1) (u11 := t.2.2.2.2.2.2.1) (u12 := t.2.2.2.2.2.2.2) t.2.2.2.2.2.1 0
  rw [hj]
  cases t.2.2.2.2.2.1.find? fun w => strEq w.1 key with
  | none => simp only [Sum.elim_inr, n74n_is hl, pair_eta]
  | some w => cases hg : w.2.2 <;> simp [hg]

end
end Go.VE
