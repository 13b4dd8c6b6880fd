/- Plain laws: keys, ranges, writes, transactions, who is ahead of whom. -/
import Derived.Test.YtbedbcnmfoildaaFnDangersL
namespace Go.VE
noncomputable section
set_option linter.unusedVariables false
set_option linter.unusedSimpArgs false
set_option maxRecDepth 100000

def inRangeB (r : tRange.D) (key : ByteArray) : Bool := !(strLess key r.1) && (strLess key r.2 || strEq key r.2)
theorem impl_InRange_is (r : tRange.D) (key) (k) : impl_InRange_k r key k = k (inRangeB r key) := by
  rw [impl_InRange_e]; unfold impl_InRange_d inRangeB; cases strLess key r.1 <;> rfl
theorem spec_InRange_is (r : tRange.D) (key) (k) : spec_InRange_k r key k = k (inRangeB r key) := by
  rw [spec_InRange_e]; unfold spec_InRange_d inRangeB; cases strLess key r.1 <;> rfl

def touchesB (r : List tRange.D) (w : List tWrite.D) : Bool := r.any fun x => w.any fun y => inRangeB x y.1
def meetsB (a b : List tWrite.D) : Bool := a.any fun x => b.any fun y => strEq x.1 y.1

theorem impl_Touches_w2_is {u0} {u1} {u2} {u3} {u4} {u5} {u8} {u9} : ∀ l i, ∃ j : Int, ∀ k, impl_Touches_w2 u0 u1 u2 u3 u4 u5 u8 u9 l i k = k (bif l.any (fun y => inRangeB (u8, u9) y.1) then .inl (true, j) else .inr j)
  | [], i => ⟨_, fun k => rfl⟩
  | y :: l, i => by
    obtain ⟨j, hj⟩ := impl_Touches_w2_is (u0 := u0) (u1 := u1) (u2 := u2) (u3 := u3) (u4 := u4) (u5 := u5) (u8 := u8) (u9 := u9) l (i + 1)
    simp only [impl_Touches_w2, impl_InRange_is, hj, List.any_cons]
    cases hp : (inRangeB (u8, u9) y.1)
    · exact ⟨j, fun k => by (try simp only [Bool.false_or]) <;> (try (simp [hp]))⟩
    · exact ⟨(i : Int), fun k => by (try simp only [Bool.true_or, cond_true]) <;> (try (simp [hp]))⟩

theorem impl_Touches_w0_is {u0} {u1} {u2} : ∀ l i, ∃ j : Int, ∀ k, impl_Touches_w0 u0 u1 u2 l i k = k (bif l.any (fun y => u0.any fun z => inRangeB y z.1) then .inr (true, j) else .inl j)
  | [], i => ⟨_, fun k => rfl⟩
  | y :: l, i => by
    obtain ⟨j, hj⟩ := impl_Touches_w0_is (u0 := u0) (u1 := u1) (u2 := u2) l (i + 1)
    obtain ⟨j2, hj2⟩ := impl_Touches_w2_is (u0 := u0) (u1 := u1) (u2 := u2) (u3 := (u2.length : Int)) (u4 := (i : Int)) (u5 := u0) (u8 := y.1) (u9 := y.2) u0 0
    simp only [impl_Touches_w0, hj, hj2, List.any_cons]
    cases hp : (u0.any fun z => inRangeB y z.1)
    · exact ⟨j, fun k => by simp⟩
    · exact ⟨(i : Int), fun k => by simp⟩

theorem impl_Touches_is {r : List tRange.D} {w : List tWrite.D} (hr : r.length ≤ 1048576) (hw : w.length ≤ 1048576) (k) : impl_Touches_k r w k = k (touchesB r w) := by
  rw [impl_Touches_r (by omega) (by omega)]
  unfold impl_Touches_t touchesB
  obtain ⟨j, hj⟩ := impl_Touches_w0_is (u0 := w) (u1 := false) (u2 := r) r 0
  rw [hj]
  cases (r.any fun x => w.any fun y => inRangeB x y.1) <;> rfl


theorem spec_Touches_w2_is {u0 : List tRange.D} {u1 u2} {i0 : Nat} {x : tRange.D} {r : List tRange.D} (hx : u0.drop i0 = x :: r) : ∀ l i, ∃ j : Int, ∀ k, spec_Touches_w2 u0 u1 u2 (i0 : Int) l i k = k (bif l.any (fun y => inRangeB x y.1) then .inl (true, j) else .inr j)
  | [], i => ⟨_, fun k => rfl⟩
  | y :: l, i => by
    obtain ⟨j, hj⟩ := spec_Touches_w2_is (u1 := u1) (u2 := u2) hx l (i + 1)
    have hlt := drop_lt hx
    have hg := (lwl_get hx).1
    simp only [spec_Touches_w2, if_pos (show 0 ≤ (i0 : Int) ∧ (i0 : Int) < (u0.length : Int) by omega), hg, spec_InRange_is, hj, List.any_cons]
    cases hp : inRangeB x y.1
    · exact ⟨j, fun k => by simp [hp]⟩
    · exact ⟨(i : Int), fun k => by simp [hp]⟩

theorem spec_Touches_w0_is {u0 u1 u2} : ∀ l i, u0.drop i = l → ∃ j : Int, ∀ k, spec_Touches_w0 u0 u1 u2 l i k = k (bif l.any (fun y => u1.any fun z => inRangeB y z.1) then .inr (true, j) else .inl j)
  | [], i, _ => ⟨_, fun k => rfl⟩
  | y :: l, i, h => by
    obtain ⟨j, hj⟩ := spec_Touches_w0_is (u0 := u0) (u1 := u1) (u2 := u2) l (i + 1) (drop_succ h)
    obtain ⟨j2, hj2⟩ := spec_Touches_w2_is (u1 := u1) (u2 := u2) h u1 0
    simp only [spec_Touches_w0, hj, hj2, List.any_cons]
    cases hp : (u1.any fun z => inRangeB y z.1)
    · exact ⟨j, fun k => by simp⟩
    · exact ⟨(i : Int), fun k => by simp⟩

theorem spec_Touches_is {r : List tRange.D} {w : List tWrite.D} (hr : r.length ≤ 1048576) (hw : w.length ≤ 1048576) (k) : spec_Touches_k r w k = k (touchesB r w) := by
  rw [spec_Touches_r (by omega) (by omega)]
  unfold spec_Touches_t touchesB
  obtain ⟨j, hj⟩ := spec_Touches_w0_is (u0 := r) (u1 := w) (u2 := false) r 0 rfl
  rw [hj]
  cases (r.any fun x => w.any fun y => inRangeB x y.1) <;> rfl


theorem impl_Meets_w2_is {u0} {u1} {u2} {u3} {u4} {u5} {u8} {u9} {u10} : ∀ l i, ∃ j : Int, ∀ k, impl_Meets_w2 u0 u1 u2 u3 u4 u5 u8 u9 u10 l i k = k (bif l.any (fun y => strEq u8 y.1) then .inl (true, j) else .inr j)
  | [], i => ⟨_, fun k => rfl⟩
  | y :: l, i => by
    obtain ⟨j, hj⟩ := impl_Meets_w2_is (u0 := u0) (u1 := u1) (u2 := u2) (u3 := u3) (u4 := u4) (u5 := u5) (u8 := u8) (u9 := u9) (u10 := u10) l (i + 1)
    simp only [impl_Meets_w2, hj, List.any_cons]
    cases hp : (strEq u8 y.1)
    · exact ⟨j, fun k => by (try simp only [Bool.false_or]) <;> (try (simp [hp]))⟩
    · exact ⟨(i : Int), fun k => by (try simp only [Bool.true_or, cond_true]) <;> (try (simp [hp]))⟩

theorem impl_Meets_w0_is {u0 u1 u2} : ∀ l i, ∃ j : Int, ∀ k, impl_Meets_w0 u0 u1 u2 l i k = k (bif l.any (fun y => u0.any fun z => strEq y.1 z.1) then .inr (true, j) else .inl j)
  | [], i => ⟨_, fun k => rfl⟩
  | y :: l, i => by
    obtain ⟨j, hj⟩ := impl_Meets_w0_is (u0 := u0) (u1 := u1) (u2 := u2) l (i + 1)
    obtain ⟨j2, hj2⟩ := impl_Meets_w2_is (u0 := u0) (u1 := u1) (u2 := u2) (u3 := (u2.length : Int)) (u4 := (i : Int)) (u5 := u0) (u8 := y.1) (u9 := y.2.1) (u10 := y.2.2) u0 0
    simp only [impl_Meets_w0, hj, hj2, List.any_cons]
    cases hp : (u0.any fun z => strEq y.1 z.1)
    · exact ⟨j, fun k => by simp⟩
    · exact ⟨(i : Int), fun k => by simp⟩

theorem impl_Meets_is {r w : List tWrite.D} (hr : r.length ≤ 1048576) (hw : w.length ≤ 1048576) (k) : impl_Meets_k r w k = k (meetsB r w) := by
  rw [impl_Meets_r (by omega) (by omega)]
  unfold impl_Meets_t meetsB
  obtain ⟨j, hj⟩ := impl_Meets_w0_is (u0 := w) (u1 := false) (u2 := r) r 0
  rw [hj]
  cases (r.any fun x => w.any fun y => strEq x.1 y.1) <;> rfl

theorem spec_Meets_w2_is {u0 : List tWrite.D} {u1 u2} {i0 : Nat} {x : tWrite.D} {r : List tWrite.D} (hx : u0.drop i0 = x :: r) : ∀ l i, ∃ j : Int, ∀ k, spec_Meets_w2 u0 u1 u2 (i0 : Int) l i k = k (bif l.any (fun y => strEq x.1 y.1) then .inl (true, j) else .inr j)
  | [], i => ⟨_, fun k => rfl⟩
  | y :: l, i => by
    obtain ⟨j, hj⟩ := spec_Meets_w2_is (u1 := u1) (u2 := u2) hx l (i + 1)
    have hlt := drop_lt hx
    have hg := (lwl_get hx).1
    simp only [spec_Meets_w2, if_pos (show 0 ≤ (i0 : Int) ∧ (i0 : Int) < (u0.length : Int) by omega), hg, hj, List.any_cons]
    cases hp : strEq x.1 y.1
    · exact ⟨j, fun k => by simp [hp]⟩
    · exact ⟨(i : Int), fun k => by simp [hp]⟩

theorem spec_Meets_w0_is {u0 u1 u2} : ∀ l i, u0.drop i = l → ∃ j : Int, ∀ k, spec_Meets_w0 u0 u1 u2 l i k = k (bif l.any (fun y => u1.any fun z => strEq y.1 z.1) then .inr (true, j) else .inl j)
  | [], i, _ => ⟨_, fun k => rfl⟩
  | y :: l, i, h => by
    obtain ⟨j, hj⟩ := spec_Meets_w0_is (u0 := u0) (u1 := u1) (u2 := u2) l (i + 1) (drop_succ h)
    obtain ⟨j2, hj2⟩ := spec_Meets_w2_is (u1 := u1) (u2 := u2) h u1 0
    simp only [spec_Meets_w0, hj, hj2, List.any_cons]
    cases hp : (u1.any fun z => strEq y.1 z.1)
    · exact ⟨j, fun k => by simp⟩
    · exact ⟨(i : Int), fun k => by simp⟩

theorem spec_Meets_is {r w : List tWrite.D} (hr : r.length ≤ 1048576) (hw : w.length ≤ 1048576) (k) : spec_Meets_k r w k = k (meetsB r w) := by
  rw [spec_Meets_r (by omega) (by omega)]
  unfold spec_Meets_t meetsB
  obtain ⟨j, hj⟩ := spec_Meets_w0_is (u0 := r) (u1 := w) (u2 := false) r 0 rfl
  rw [hj]
  cases (r.any fun x => w.any fun y => strEq x.1 y.1) <;> rfl


def pastB (a b : tTxn.D) : Bool := (a.2.1 == 3) && decide (a.2.2.2.1 ≤ b.2.2.1)
def besideB (a b : tTxn.D) : Bool := (a.1 != b.1) && !(pastB a b) && !(pastB b a)
def aheadB (a b : tTxn.D) : Bool := besideB a b && touchesB a.2.2.2.2.1 b.2.2.2.2.2.1

theorem impl_Beside_1_is (a b : tTxn.D) (k) : impl_Beside_1_k a b k = k (pastB a b) := by
  rw [impl_Beside_1_e]; unfold impl_Beside_1_d pastB; cases a.2.1 == 3 <;> rfl
theorem impl_Beside_is (a b : tTxn.D) (k) : impl_Beside_k a b k = k (besideB a b) := by
  rw [impl_Beside_e]; unfold impl_Beside_d besideB; simp only [impl_Beside_1_is]
  cases (a.1 != b.1) <;> cases pastB a b <;> cases pastB b a <;> rfl
theorem spec_Beside_is (a b : tTxn.D) (k) : spec_Beside_k a b k = k (besideB a b) := by
  rw [spec_Beside_e]; unfold spec_Beside_d besideB pastB; simp only [bne]
  cases (a.1 == b.1) <;> cases a.2.1 == 3 <;> cases decide (a.2.2.2.1 ≤ b.2.2.1) <;> cases b.2.1 == 3 <;> cases decide (b.2.2.2.1 ≤ a.2.2.1) <;> rfl

theorem lensTxn {a : tTxn.D} (ha : tTxn.wt a ≤ 1048576) : a.2.2.2.2.1.length ≤ 1048576 ∧ a.2.2.2.2.2.1.length ≤ 1048576 := by
  rw [wtTxn] at ha
  exact ⟨len_le (T := tRange) (by omega), len_le (T := tWrite) (by omega)⟩

theorem impl_Ahead_is {a b : tTxn.D} (ha : tTxn.wt a ≤ 1048576) (hb : tTxn.wt b ≤ 1048576) (k) : impl_Ahead_k a b k = k (aheadB a b) := by
  rw [impl_Ahead_e]; unfold impl_Ahead_d aheadB
  simp only [impl_Beside_is, impl_Touches_is (lensTxn ha).1 (lensTxn hb).2]
  cases besideB a b <;> rfl
theorem spec_Ahead_is {a b : tTxn.D} (ha : tTxn.wt a ≤ 1048576) (hb : tTxn.wt b ≤ 1048576) (k) : spec_Ahead_k a b k = k (aheadB a b) := by
  rw [spec_Ahead_e]; unfold spec_Ahead_d aheadB
  simp only [spec_Beside_is, spec_Touches_is (lensTxn ha).1 (lensTxn hb).2]
  cases besideB a b <;> rfl

end
end Go.VE
