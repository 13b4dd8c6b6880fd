/- Plain laws: a range is read. -/
import Derived.Test.YtpmahbmokfaflaaGetKeyR6
namespace Go.VE
noncomputable section
set_option linter.unusedVariables false
set_option linter.unusedSimpArgs false
set_option maxRecDepth 100000

theorem strEq_comm (a b : ByteArray) : strEq a b = strEq b a := by rw [strEq_eq, strEq_eq]; exact Bool.beq_comm
theorem eqRangeB_comm (a b : tRange.D) : Ty.eqB tRange a b = Ty.eqB tRange b a := by
  simp only [Ty.eqB]; rw [strEq_comm a.1, strEq_comm a.2]

def readRangeB (t : tTxn.D) (r : tRange.D) : Bool × List tRange.D :=
  bif !txnOkB t then (false, t.2.2.2.2.1) else bif t.2.1 != 1 then (false, t.2.2.2.2.1) else bif !rangeOkB r then (false, t.2.2.2.2.1) else
  bif t.2.2.2.2.1.any (fun y => Ty.eqB tRange y r) then (true, t.2.2.2.2.1) else bif decide ((t.2.2.2.2.1.length : Int) ≥ 8) then (false, t.2.2.2.2.1) else (true, t.2.2.2.2.1 ++ [r])

theorem n73n_w0_is {u0 u2 u3 u4 u5 u6 u7 u8 u9 u10 u11 u12 u13 u14 u15 u16 u17 u18 u19 u20 u21 u22 u23 u24 u25 u26 u27} : ∀ (l : List tRange.D) (i : Nat), ∃ j : Int, ∀ k,
    n73n_w0 u0 u2 u3 u4 u5 u6 u7 u8 u9 u10 u11 u12 u13 u14 u15 u16 u17 u18 u19 u20 u21 u22 u23 u24 u25 u26 u27 l i k = k (bif l.any (fun y => Ty.eqB tRange y (u10, u11)) then .inr (true, j) else .inl j)
  | [], i => ⟨_, fun k => rfl⟩
  | y :: l, i => by
    obtain ⟨j, hj⟩ := n73n_w0_is (u0 := u0) (u2 := u2) (u3 := u3) (u4 := u4) (u5 := u5) (u6 := u6) (u7 := u7) (u8 := u8) (u9 := u9) (u10 := u10) (u11 := u11) (u12 := u12) (u13 := u13) (u14 := u14) (u15 := u15) (u16 := u16) (u17 := u17) (u18 := u18) (u19 := u19) (u20 := u20) (u21 := u21) (u22 := u22) (u23 := u23) (u24 := u24) (u25 := u25) (u26 := u26) (u27 := u27) l (i + 1)
    simp only [n73n_w0, hj, List.any_cons]
    cases Ty.eqB tRange y (u10, u11)
    · exact ⟨j, fun k => rfl⟩
    · exact ⟨i, fun k => rfl⟩

theorem n67n_w0_is {u0 u1 u4 u5} : ∀ (l : List tRange.D) (i : Nat), ∃ a : Nat, ∃ b : Int, ∀ k, n67n_w0 u0 u1 u4 u5 l i k = k (bif l.any (fun y => Ty.eqB tRange y (u4, u5)) then .inl ((a : Int), (a : Int)) else .inr b)
  | [], i => ⟨0, _, fun k => rfl⟩
  | y :: l, i => by
    obtain ⟨a, b, hab⟩ := n67n_w0_is (u0 := u0) (u1 := u1) (u4 := u4) (u5 := u5) l (i + 1)
    simp only [n67n_w0, hab, List.any_cons, eqRangeB_comm (u4, u5) y]
    cases Ty.eqB tRange y (u4, u5)
    · exact ⟨a, b, fun k => rfl⟩
    · exact ⟨i, (i : Int), fun k => rfl⟩

theorem n64n_is {l : List tRange.D} (hl : l.length ≤ 1048576) (r : tRange.D) (k) : n64n_k l r k = k (l.any fun y => Ty.eqB tRange y r) := by
  obtain ⟨a, b, hab⟩ := n67n_w0_is (u0 := l) (u1 := 0) (u4 := r.1) (u5 := r.2) l 0
  rw [n64n_e]
  unfold n64n_d
  rw [n67n_r (by omega)]
  unfold n67n_t
  rw [hab]
  simp only [pair_eta]
  cases (l.any fun y => Ty.eqB tRange y r)
  · rfl
  · have : decide ((a : Int) ≥ 0) = true := by simp
    simp only [cond_true, Sum.elim_inl, this]


theorem lensTxn2 {a : tTxn.D} (ha : tTxn.wt a ≤ 1048576) : a.2.2.2.2.1.length ≤ 1048576 ∧ a.2.2.2.2.2.1.length ≤ 1048576 := by
  rw [wtTxn] at ha
  exact ⟨len_le (T := tRange) (by omega), len_le (T := tWrite) (by omega)⟩

theorem n80n_is {t : tTxn.D} (hr : t.2.2.2.2.1.length ≤ 1048576) (hw : t.2.2.2.2.2.1.length ≤ 1048576) (k) : n80n_k t k = k (t.1, t.2.1, t.2.2.1, t.2.2.2.1, t.2.2.2.2.2.2.1, t.2.2.2.2.2.2.2, t.2.2.2.2.1, t.2.2.2.2.2.1) := by
  rw [n80n_e]
  unfold n80n_d
  rw [if_pos (by simp only [List.length_nil, VE.maxLen]; omega), if_pos (by simp only [List.length_nil, VE.maxLen]; omega)]
  rfl

theorem n13n_is {t : tTxn.D} (hr : t.2.2.2.2.1.length ≤ 1048576) (hw : t.2.2.2.2.2.1.length ≤ 1048576) (k) : n13n_k t k = k (t.1, t.2.1, t.2.2.1, t.2.2.2.1, t.2.2.2.2.2.2.1, t.2.2.2.2.2.2.2, t.2.2.2.2.1, t.2.2.2.2.2.1) := by
  rw [n13n_e]
  unfold n13n_d
  rw [if_pos (by simp only [VE.maxLen]; omega), if_pos (by simp only [VE.maxLen]; omega)]

theorem n73n_is {t : tTxn.D} (ht : tTxn.wt t ≤ 1048576) {r : tRange.D} (hr : tRange.wt r ≤ 1048576) (k) : n73n_k t r k = k (t.1, t.2.1, t.2.2.1, t.2.2.2.1, t.2.2.2.2.2.2.1, t.2.2.2.2.2.2.2, (readRangeB t r).1, (readRangeB t r).2, t.2.2.2.2.2.1) := by
  have hl := lensTxn2 ht
  rw [n73n_r (by omega)]
  unfold n73n_t readRangeB
  simp only [n80n_is hl.1 hl.2, n75n_is ht, n72n_is hr]
  cases hok : txnOkB t
  · rfl
  · simp only [Bool.not_true, cond_false]
    cases t.2.1 != 1
    · cases rangeOkB r
      · rfl
      · simp only [Bool.not_true, cond_false]
        unfold n73n_wj5000004
        obtain ⟨j, hj⟩ := n73n_w0_is (u0 := false) (u2 := t.1) (u3 := t.2.1) (u4 := t.2.2.1) (u5 := t.2.2.2.1) (u6 := t.2.2.2.2.1) (u7 := t.2.2.2.2.2.1) (u8 := t.2.2.2.2.2.2.1) (u9 := t.2.2.2.2.2.2.2) (u10 := r.1) (u11 := r.2) (u12 := 0) (u13 := 0) (u14 := 0) (u15 := 0) (u16 := false) (u17 := ⟨#[]⟩) (u18 := t.1) (u19 := t.2.1) (u20 := t.2.2.1) (u21 := t.2.2.2.1) (u22 := t.2.2.2.2.2.2.1) (u23 := t.2.2.2.2.2.2.2) (u24 := []) (u25 := []) (u26 := t.2.2.2.2.1) (u27 := t.2.2.2.2.2.1) t.2.2.2.2.1 0
        simp only [hj, pair_eta]
        cases t.2.2.2.2.1.any (fun y => Ty.eqB tRange y r)
        · cases decide ((t.2.2.2.2.1.length : Int) ≥ 8)
          · simp only [cond_false, Sum.elim_inl]; rw [if_pos (by simp only [List.length_singleton, VE.maxLen]; omega)]
          · rfl
        · rfl
    · rfl

theorem n06n_is {t : tTxn.D} (ht : tTxn.wt t ≤ 1048576) {r : tRange.D} (hr : tRange.wt r ≤ 1048576) (k) : n06n_k t r k = k (t.1, t.2.1, t.2.2.1, t.2.2.2.1, t.2.2.2.2.2.2.1, t.2.2.2.2.2.2.2, (readRangeB t r).1, (readRangeB t r).2, t.2.2.2.2.2.1) := by
  have hl := lensTxn2 ht
  rw [n06n_r]
  unfold n06n_t readRangeB
  simp only [n13n_is hl.1 hl.2, n08n_is ht, n05n_is hr]
  cases hok : txnOkB t
  · rfl
  · simp only [Bool.not_true, cond_false]
    cases t.2.1 != 1
    · cases rangeOkB r
      · rfl
      · simp only [Bool.not_true, cond_false]
        unfold n06n_wj5000004
        simp only [n64n_is hl.1, pair_eta]
        have h8 := (txnOk_small hok).2.2.2.2.1
        have e8 : ((t.2.2.2.2.1.length : Int) == 8) = decide ((t.2.2.2.2.1.length : Int) ≥ 8) := by
          by_cases c : (t.2.2.2.2.1.length : Int) ≥ 8
          · rw [decide_eq_true c]; simp; omega
          · rw [decide_eq_false c]; simp; omega
        rw [e8]
        cases t.2.2.2.2.1.any (fun y => Ty.eqB tRange y r)
        · cases decide ((t.2.2.2.2.1.length : Int) ≥ 8)
          · simp only [cond_false]; rw [if_pos (by simp only [List.length_singleton, VE.maxLen]; omega)]
          · rfl
        · rfl
    · rfl


end
end Go.VE
