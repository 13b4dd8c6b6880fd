/- Plain laws: keys, ranges, writes, transactions, who is ahead of whom. -/
import Derived.Test.YtpmahbmokfaflaaGetKeyL
namespace Go.VE
noncomputable section
set_option linter.unusedVariables false
set_option linter.unusedSimpArgs false
set_option maxRecDepth 100000

def withinB (n lo hi : Int) : Bool := decide (n ≥ lo) && decide (n ≤ hi)
theorem n19n_is (a b c) (k) : n19n_k a b c k = k (withinB a b c) := by
  rw [n19n_e]; unfold n19n_d withinB; cases decide (a ≥ b) <;> rfl
theorem n78n_is (a b c) (k) : n78n_k a b c k = k (withinB a b c) := by
  rw [n78n_e]; unfold n78n_d withinB; cases decide (a ≥ b) <;> rfl

def keyOkB (s : ByteArray) : Bool := !((intsOf s).any fun y => decide (y < 97) || decide (y > 122)) && withinB s.size 1 3


theorem n01n_w0_is {u0} {u1} : ∀ l i, ∃ j : Int, ∀ k, n01n_w0 u0 u1 l i k = k (bif l.any (fun y => decide (y < 97) || decide (y > 122)) then .inl (false, j) else .inr j)
  | [], i => ⟨_, fun k => rfl⟩
  | y :: l, i => by
    obtain ⟨j, hj⟩ := n01n_w0_is (u0 := u0) (u1 := u1) l (i + 1)
    simp only [n01n_w0, hj, List.any_cons]
    cases hp : (decide (y < 97) || decide (y > 122))
    · exact ⟨j, fun k => by (try simp only [Bool.false_or]) <;> (try (revert hp; cases decide (y < 97) <;> cases decide (y > 122) <;> simp))⟩
    · exact ⟨(i : Int), fun k => by (try simp only [Bool.true_or, cond_true]) <;> (try (revert hp; cases decide (y < 97) <;> cases decide (y > 122) <;> simp))⟩

theorem n01n_is {s : ByteArray} (hs : s.size ≤ 1048576) (k) : n01n_k s k = k (keyOkB s) := by
  rw [n01n_r (by omega)]
  unfold n01n_t keyOkB
  obtain ⟨j, hj⟩ := n01n_w0_is (u0 := s) (u1 := false) (intsOf s) 0
  rw [hj]
  cases ((intsOf s).any fun y => decide (y < 97) || decide (y > 122))
  · simp [n19n_is]
  · rfl

theorem n69n_w0_is {u0} {u1} : ∀ l i, ∃ j : Int, ∀ k, n69n_w0 u0 u1 l i k = k (bif l.any (fun y => decide (y < 97) || decide (y > 122)) then .inl (false, j) else .inr j)
  | [], i => ⟨_, fun k => rfl⟩
  | y :: l, i => by
    obtain ⟨j, hj⟩ := n69n_w0_is (u0 := u0) (u1 := u1) l (i + 1)
    simp only [n69n_w0, hj, List.any_cons]
    cases hp : (decide (y < 97) || decide (y > 122))
    · exact ⟨j, fun k => by (try simp only [Bool.false_or]) <;> (try (revert hp; cases decide (y < 97) <;> cases decide (y > 122) <;> simp))⟩
    · exact ⟨(i : Int), fun k => by (try simp only [Bool.true_or, cond_true]) <;> (try (revert hp; cases decide (y < 97) <;> cases decide (y > 122) <;> simp))⟩

theorem n69n_is {s : ByteArray} (hs : s.size ≤ 1048576) (k) : n69n_k s k = k (keyOkB s) := by
  rw [n69n_r (by omega)]
  unfold n69n_t keyOkB
  obtain ⟨j, hj⟩ := n69n_w0_is (u0 := s) (u1 := false) (intsOf s) 0
  rw [hj]
  cases ((intsOf s).any fun y => decide (y < 97) || decide (y > 122))
  · simp [n78n_is]
  · rfl

def rangeOkB (r : tRange.D) : Bool := keyOkB r.1 && keyOkB r.2 && (strLess r.1 r.2 || strEq r.1 r.2)
def writeOkB (w : tWrite.D) : Bool := keyOkB w.1 && decide ((w.2.1.size : Int) ≤ 12) && (!w.2.2 || strEq w.2.1 ⟨#[]⟩)
/-- Behind one that stood before: all right, keys ascending. -/
def writesFrom : Option tWrite.D → List tWrite.D → Bool
  | _, [] => true
  | p, y :: l => writeOkB y && (match p with | none => true | some x => strLess x.1 y.1) && writesFrom (some y) l
def writesOkB (l : List tWrite.D) : Bool := writesFrom none l && decide ((l.length : Int) ≤ 8)

theorem n05n_is {r : tRange.D} (hr : tRange.wt r ≤ 1048576) (k) : n05n_k r k = k (rangeOkB r) := by
  rw [wtRange] at hr
  rw [n05n_e]
  unfold n05n_d rangeOkB
  simp only [n01n_is (show r.1.size ≤ 1048576 by omega), n01n_is (show r.2.size ≤ 1048576 by omega)]
  cases keyOkB r.1 <;> cases keyOkB r.2 <;> simp

theorem n09n_is {r : tWrite.D} (hr : tWrite.wt r ≤ 1048576) (k) : n09n_k r k = k (writeOkB r) := by
  rw [wtWrite] at hr
  rw [n09n_e]
  unfold n09n_d writeOkB
  simp only [n01n_is (show r.1.size ≤ 1048576 by omega)]
  cases keyOkB r.1 <;> cases decide ((r.2.1.size : Int) ≤ 12) <;> cases r.2.2 <;> simp

theorem n10n_w0_is {u0 : List tWrite.D} (hu : ∀ y ∈ u0, tWrite.wt y ≤ 1048576) (hl : u0.length ≤ 1048576) {u1 u2} : ∀ (l : List tWrite.D) (i : Nat), u0.drop i = l → ∃ j : Int, ∀ k,
    n10n_w0 u0 u1 u2 l i k = k (bif writesFrom (if i = 0 then none else some (u0.getD (i - 1) (Ty.zero tWrite))) l then .inr j else .inl (false, j))
  | [], i, _ => ⟨_, fun k => rfl⟩
  | y :: l, i, h => by
    obtain ⟨j, hj⟩ := n10n_w0_is hu hl (u1 := u1) (u2 := u2) l (i + 1) (drop_succ h)
    have hlt := drop_lt h
    have hy := (lwl_get h).2 (Ty.zero tWrite)
    rw [if_neg (by omega), show i + 1 - 1 = i by omega, hy] at hj
    simp only [n10n_w0, n09n_is (hu y (mem_of_drop h)), hj, writesFrom]
    by_cases hi : i = 0
    · subst hi
      simp only [if_pos, show ¬ ((0 : Nat) : Int) > 0 by omega, decide_false, cond_false, Bool.and_true]
      cases writeOkB y
      · exact ⟨((0 : Nat) : Int), fun k => by simp⟩
      · exact ⟨j, fun k => by simp⟩
    · have hw : IntKind.wrap .i64 ((i : Int) - 1) = ((i - 1 : Nat) : Int) := by rw [wrap64 (by omega) (by omega)]; omega
      have hrd : rd (Ty.zero (.pair .str (.pair .str .bool))) u0 ((i - 1 : Nat) : Int) = u0.getD (i - 1) (Ty.zero tWrite) := rfl
      simp only [if_neg hi, show (i : Int) > 0 by omega, decide_true, cond_true, hw, hrd, if_pos (show 0 ≤ ((i - 1 : Nat) : Int) ∧ ((i - 1 : Nat) : Int) < (u0.length : Int) by omega)]
      cases writeOkB y
      · exact ⟨(i : Int), fun k => by simp⟩
      · cases strLess (u0.getD (i - 1) (Ty.zero tWrite)).1 y.1
        · exact ⟨(i : Int), fun k => by simp⟩
        · exact ⟨j, fun k => by simp⟩

theorem n10n_is {x : List tWrite.D} (hx : (Ty.slice tWrite).wt x ≤ 1048576) (k) : n10n_k x k = k (writesOkB x) := by
  have hl := len_le hx
  rw [n10n_r (by omega)]
  unfold n10n_t writesOkB
  obtain ⟨j, hj⟩ := n10n_w0_is (u0 := x) (fun y hy => wt_mem_le hy hx) hl (u1 := false) (u2 := x) x 0 rfl
  rw [hj]
  simp only [if_true]
  cases writesFrom none x <;> rfl

theorem n72n_is {r : tRange.D} (hr : tRange.wt r ≤ 1048576) (k) : n72n_k r k = k (rangeOkB r) := by
  rw [wtRange] at hr
  rw [n72n_e]
  unfold n72n_d rangeOkB
  simp only [n69n_is (show r.1.size ≤ 1048576 by omega), n69n_is (show r.2.size ≤ 1048576 by omega)]
  cases keyOkB r.1 <;> cases keyOkB r.2 <;> simp

theorem n76n_is {r : tWrite.D} (hr : tWrite.wt r ≤ 1048576) (k) : n76n_k r k = k (writeOkB r) := by
  rw [wtWrite] at hr
  rw [n76n_e]
  unfold n76n_d writeOkB
  simp only [n69n_is (show r.1.size ≤ 1048576 by omega)]
  cases keyOkB r.1 <;> cases decide ((r.2.1.size : Int) ≤ 12) <;> cases r.2.2 <;> simp

theorem n77n_w0_is {u0 : List tWrite.D} (hu : ∀ y ∈ u0, tWrite.wt y ≤ 1048576) (hl : u0.length ≤ 1048576) {u1} : ∀ (l : List tWrite.D) (i : Nat), u0.drop i = l → ∃ j : Int, ∀ k,
    n77n_w0 u0 u1 l i k = k (bif writesFrom (if i = 0 then none else some (u0.getD (i - 1) (Ty.zero tWrite))) l then .inr j else .inl (false, j))
  | [], i, _ => ⟨_, fun k => rfl⟩
  | y :: l, i, h => by
    obtain ⟨j, hj⟩ := n77n_w0_is hu hl (u1 := u1) l (i + 1) (drop_succ h)
    have hlt := drop_lt h
    have hy := (lwl_get h).2 (Ty.zero tWrite)
    rw [if_neg (by omega), show i + 1 - 1 = i by omega, hy] at hj
    simp only [n77n_w0, n76n_is (hu y (mem_of_drop h)), hj, writesFrom]
    by_cases hi : i = 0
    · subst hi
      simp only [if_pos, show ¬ ((0 : Nat) : Int) > 0 by omega, decide_false, cond_false, Bool.and_true]
      cases writeOkB y
      · exact ⟨((0 : Nat) : Int), fun k => by simp⟩
      · exact ⟨j, fun k => by simp⟩
    · have hw : IntKind.wrap .i64 ((i : Int) - 1) = ((i - 1 : Nat) : Int) := by rw [wrap64 (by omega) (by omega)]; omega
      have hrd : rd (Ty.zero (.pair .str (.pair .str .bool))) u0 ((i - 1 : Nat) : Int) = u0.getD (i - 1) (Ty.zero tWrite) := rfl
      simp only [if_neg hi, show (i : Int) > 0 by omega, decide_true, cond_true, hw, hrd, if_pos (show 0 ≤ ((i - 1 : Nat) : Int) ∧ ((i - 1 : Nat) : Int) < (u0.length : Int) by omega)]
      cases writeOkB y
      · exact ⟨(i : Int), fun k => by simp⟩
      · cases strLess (u0.getD (i - 1) (Ty.zero tWrite)).1 y.1
        · exact ⟨(i : Int), fun k => by simp⟩
        · exact ⟨j, fun k => by simp⟩

theorem n77n_is {x : List tWrite.D} (hx : (Ty.slice tWrite).wt x ≤ 1048576) (k) : n77n_k x k = k (writesOkB x) := by
  have hl := len_le hx
  rw [n77n_r (by omega)]
  unfold n77n_t writesOkB
  obtain ⟨j, hj⟩ := n77n_w0_is (u0 := x) (fun y hy => wt_mem_le hy hx) hl (u1 := false) x 0 rfl
  rw [hj]
  simp only [if_true]
  cases writesFrom none x <;> rfl


def txnOkB (t : tTxn.D) : Bool :=
  withinB t.1 1 9999 && withinB t.2.1 1 3 && withinB t.2.2.1 0 9999 && !decide ((t.2.2.2.2.1.length : Int) > 8) && writesOkB t.2.2.2.2.2.1 && !(t.2.2.2.2.1.any fun r => !rangeOkB r) &&
  !((t.2.1 == 3) && !withinB t.2.2.2.1 (IntKind.wrap .i64 (t.2.2.1 + 1)) 9999) && !((t.2.1 != 3) && (t.2.2.2.1 != 0)) &&
  !((t.2.1 == 2) && !keyOkB t.2.2.2.2.2.2.2) && !((t.2.1 != 2) && !strEq t.2.2.2.2.2.2.2 ⟨#[]⟩) && ((t.2.1 != 1) || !t.2.2.2.2.2.2.1)


theorem n08n_w0_is {u0} {u1} {u4} {u5} {u6} {u7} {u8} {u9} {u10} {u11} : ∀ (l : List tRange.D) (i : Nat), (∀ y ∈ l, tRange.wt y ≤ 1048576) → ∃ j : Int, ∀ k, n08n_w0 u0 u1 u4 u5 u6 u7 u8 u9 u10 u11 l i k = k (bif l.any (fun r => !rangeOkB r) then .inl (false, j) else .inr j)
  | [], i, _ => ⟨_, fun k => rfl⟩
  | y :: l, i, h => by
    obtain ⟨j, hj⟩ := n08n_w0_is (u0 := u0) (u1 := u1) (u4 := u4) (u5 := u5) (u6 := u6) (u7 := u7) (u8 := u8) (u9 := u9) (u10 := u10) (u11 := u11) l (i + 1) (fun y hy => h y (by simp [hy]))
    simp only [n08n_w0, n05n_is (h y (by simp)), hj, List.any_cons]
    cases rangeOkB y
    · exact ⟨(i : Int), fun k => by simp⟩
    · exact ⟨j, fun k => by simp⟩

theorem n75n_w0_is {u0} {u2} {u3} {u4} {u5} {u6} {u7} {u8} {u9} : ∀ (l : List tRange.D) (i : Nat), (∀ y ∈ l, tRange.wt y ≤ 1048576) → ∃ j : Int, ∀ k, n75n_w0 u0 u2 u3 u4 u5 u6 u7 u8 u9 l i k = k (bif l.any (fun r => !rangeOkB r) then .inl (false, j) else .inr j)
  | [], i, _ => ⟨_, fun k => rfl⟩
  | y :: l, i, h => by
    obtain ⟨j, hj⟩ := n75n_w0_is (u0 := u0) (u2 := u2) (u3 := u3) (u4 := u4) (u5 := u5) (u6 := u6) (u7 := u7) (u8 := u8) (u9 := u9) l (i + 1) (fun y hy => h y (by simp [hy]))
    simp only [n75n_w0, n72n_is (h y (by simp)), hj, List.any_cons]
    cases rangeOkB y
    · exact ⟨(i : Int), fun k => by simp⟩
    · exact ⟨j, fun k => by simp⟩

theorem n75n_is {t : tTxn.D} (ht : tTxn.wt t ≤ 1048576) (k) : n75n_k t k = k (txnOkB t) := by
  rw [wtTxn] at ht
  have h1 := len_le (T := tRange) (xs := t.2.2.2.2.1) (n := 1048576) (by omega)
  have h2 := len_le (T := tWrite) (xs := t.2.2.2.2.2.1) (n := 1048576) (by omega)
  rw [n75n_r (by omega)]
  unfold n75n_t txnOkB
  simp only [n78n_is, n77n_is (show (Ty.slice tWrite).wt t.2.2.2.2.2.1 ≤ 1048576 by omega)]
  obtain ⟨j, hj⟩ := n75n_w0_is (u0 := false) (u2 := t.1) (u3 := t.2.1) (u4 := t.2.2.1) (u5 := t.2.2.2.1) (u6 := t.2.2.2.2.1) (u7 := t.2.2.2.2.2.1) (u8 := t.2.2.2.2.2.2.1) (u9 := t.2.2.2.2.2.2.2) t.2.2.2.2.1 0 (fun y hy => wt_mem_le hy (by omega))
  simp only [n75n_wj5000003, n75n_wj5000010, n75n_wj5000012, hj, n78n_is, n69n_is (show t.2.2.2.2.2.2.2.size ≤ 1048576 by omega)]
  cases withinB t.1 1 9999 <;> simp only [Bool.not_true, Bool.not_false, cond_true, cond_false, Bool.true_and, Bool.false_and]
  cases withinB t.2.1 1 3 <;> simp only [Bool.not_true, Bool.not_false, cond_true, cond_false, Bool.true_and, Bool.false_and]
  cases withinB t.2.2.1 0 9999 <;> simp only [Bool.not_true, Bool.not_false, cond_true, cond_false, Bool.true_and, Bool.false_and]
  cases decide ((t.2.2.2.2.1.length : Int) > 8) <;> simp only [Bool.not_true, Bool.not_false, cond_true, cond_false, Bool.true_and, Bool.false_and]
  cases writesOkB t.2.2.2.2.2.1 <;> simp only [Bool.not_true, Bool.not_false, cond_true, cond_false, Bool.true_and, Bool.false_and]
  cases (t.2.2.2.2.1.any fun r => !rangeOkB r) <;> simp only [Bool.not_true, Bool.not_false, cond_true, cond_false, Bool.true_and, Bool.false_and, Sum.elim_inl, Sum.elim_inr]
  simp only [bne]
  cases t.2.1 == 3 <;> cases t.2.1 == 2 <;> cases t.2.1 == 1 <;> cases withinB t.2.2.2.1 (IntKind.wrap .i64 (t.2.2.1 + 1)) 9999 <;> cases t.2.2.2.1 == 0 <;> cases keyOkB t.2.2.2.2.2.2.2 <;> cases strEq t.2.2.2.2.2.2.2 ⟨#[]⟩ <;> cases t.2.2.2.2.2.2.1 <;> rfl

theorem n08n_is {t : tTxn.D} (ht : tTxn.wt t ≤ 1048576) (k) : n08n_k t k = k (txnOkB t) := by
  rw [wtTxn] at ht
  have h1 := len_le (T := tRange) (xs := t.2.2.2.2.1) (n := 1048576) (by omega)
  have h2 := len_le (T := tWrite) (xs := t.2.2.2.2.2.1) (n := 1048576) (by omega)
  rw [n08n_r (by omega)]
  unfold n08n_t txnOkB
  obtain ⟨j, hj⟩ := n08n_w0_is (u0 := false) (u1 := t.2.2.2.2.1) (u4 := t.1) (u5 := t.2.1) (u6 := t.2.2.1) (u7 := t.2.2.2.1) (u8 := t.2.2.2.2.1) (u9 := t.2.2.2.2.2.1) (u10 := t.2.2.2.2.2.2.1) (u11 := t.2.2.2.2.2.2.2) t.2.2.2.2.1 0 (fun y hy => wt_mem_le hy (by omega))
  simp only [hj, n19n_is, n10n_is (show (Ty.slice tWrite).wt t.2.2.2.2.2.1 ≤ 1048576 by omega), n08n_wj5000009, n08n_wj5000011, n01n_is (show t.2.2.2.2.2.2.2.size ≤ 1048576 by omega)]
  cases (t.2.2.2.2.1.any fun r => !rangeOkB r) <;> simp only [Bool.not_true, Bool.not_false, cond_true, cond_false, Bool.true_and, Bool.and_true, Bool.and_false, Bool.false_and, Sum.elim_inl, Sum.elim_inr]
  cases withinB t.1 1 9999 <;> simp only [Bool.not_true, Bool.not_false, cond_true, cond_false, Bool.true_and, Bool.false_and]
  cases withinB t.2.1 1 3 <;> simp only [Bool.not_true, Bool.not_false, cond_true, cond_false, Bool.true_and, Bool.false_and]
  cases withinB t.2.2.1 0 9999 <;> simp only [Bool.not_true, Bool.not_false, cond_true, cond_false, Bool.true_and, Bool.false_and]
  cases decide ((t.2.2.2.2.1.length : Int) > 8) <;> simp only [Bool.not_true, Bool.not_false, cond_true, cond_false, Bool.true_and, Bool.false_and]
  cases writesOkB t.2.2.2.2.2.1 <;> simp only [Bool.not_true, Bool.not_false, cond_true, cond_false, Bool.true_and, Bool.false_and]
  simp only [bne]
  cases t.2.1 == 3 <;> cases t.2.1 == 2 <;> cases t.2.1 == 1 <;> cases withinB t.2.2.2.1 (IntKind.wrap .i64 (t.2.2.1 + 1)) 9999 <;> cases t.2.2.2.1 == 0 <;> cases keyOkB t.2.2.2.2.2.2.2 <;> cases strEq t.2.2.2.2.2.2.2 ⟨#[]⟩ <;> cases t.2.2.2.2.2.2.1 <;> rfl


theorem lensTxn {a : tTxn.D} (ha : tTxn.wt a ≤ 1048576) : a.2.2.2.2.1.length ≤ 1048576 ∧ a.2.2.2.2.2.1.length ≤ 1048576 := by
  rw [wtTxn] at ha
  exact ⟨len_le (T := tRange) (by omega), len_le (T := tWrite) (by omega)⟩

end
end Go.VE
