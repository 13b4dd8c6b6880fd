/- Plain laws: one of a list that passes a test; what is seen; the oldest. -/
import Derived.Test.YtbedbcnmfoildaaFnDangersR1
namespace Go.VE
noncomputable section
set_option linter.unusedVariables false
set_option linter.unusedSimpArgs false
set_option maxRecDepth 100000

theorem impl_isReady_is (x : tTxn.D) (k) : impl_isReady_k x k = k (x.2.1 == 2) := by rw [impl_isReady_e]; rfl
theorem impl_isDone_is (x : tTxn.D) (k) : impl_isDone_k x k = k (x.2.1 == 3) := by rw [impl_isDone_e]; rfl

def blockedB (t x : tTxn.D) : Bool := (x.1 != t.1) && ((x.2.1 == 2) || ((x.2.1 == 3) && decide (x.2.2.2.1 > t.2.2.1))) && meetsB x.2.2.2.2.2.1 t.2.2.2.2.2.1
def outOfB (t x : tTxn.D) : Bool := (x.2.1 == 3) && aheadB t x
def inOfB (t x : tTxn.D) : Bool := ((x.2.1 == 2) || (x.2.1 == 3)) && aheadB x t


theorem impl_Blocked_1_is {x t : tTxn.D} (hx : tTxn.wt x ≤ 1048576) (ht : tTxn.wt t ≤ 1048576) (k) : impl_Blocked_1_k x t.1 t.2.1 t.2.2.1 t.2.2.2.1 t.2.2.2.2.1 t.2.2.2.2.2.1 t.2.2.2.2.2.2.1 t.2.2.2.2.2.2.2 k = k (blockedB t x, t.1, t.2.1, t.2.2.1, t.2.2.2.1, t.2.2.2.2.1, t.2.2.2.2.2.1, t.2.2.2.2.2.2.1, t.2.2.2.2.2.2.2) := by
  rw [impl_Blocked_1_e]
  unfold impl_Blocked_1_d blockedB
  simp only [impl_isReady_is, impl_isDone_is, pair_eta, impl_Meets_is (lensTxn hx).2 (lensTxn ht).2]
  cases (x.1 != t.1) <;> cases (x.2.1 == 2) <;> cases (x.2.1 == 3) <;> cases decide (x.2.2.2.1 > t.2.2.1) <;> cases meetsB x.2.2.2.2.2.1 t.2.2.2.2.2.1 <;> rfl

theorem slices_IndexFunc_Txn_Blocked_1_w0_is {u0 u1} {t : tTxn.D} (ht : tTxn.wt t ≤ 1048576) : ∀ (l : List tTxn.D) (i : Nat), (∀ y ∈ l, tTxn.wt y ≤ 1048576) → ∃ a : Nat, ∃ b : Int, ∀ k,
    slices_IndexFunc_Txn_Blocked_1_w0 u0 u1 l t.1 t.2.1 t.2.2.1 t.2.2.2.1 t.2.2.2.2.1 t.2.2.2.2.2.1 t.2.2.2.2.2.2.1 t.2.2.2.2.2.2.2 i k = k (bif l.any (fun x => blockedB t x) then .inl ((a : Int), b, t.1, t.2.1, t.2.2.1, t.2.2.2.1, t.2.2.2.2.1, t.2.2.2.2.2.1, t.2.2.2.2.2.2.1, t.2.2.2.2.2.2.2) else .inr (b, t.1, t.2.1, t.2.2.1, t.2.2.2.1, t.2.2.2.2.1, t.2.2.2.2.2.1, t.2.2.2.2.2.2.1, t.2.2.2.2.2.2.2))
  | [], i, _ => ⟨0, _, fun k => rfl⟩
  | y :: l, i, h => by
    obtain ⟨a, b, hab⟩ := slices_IndexFunc_Txn_Blocked_1_w0_is (u0 := u0) (u1 := u1) ht l (i + 1) (fun y hy => h y (by simp [hy]))
    simp only [slices_IndexFunc_Txn_Blocked_1_w0, impl_Blocked_1_is (h y (by simp)) ht, hab, List.any_cons]
    cases blockedB t y
    · exact ⟨a, b, fun k => rfl⟩
    · exact ⟨i, (i : Int), fun k => rfl⟩

theorem impl_Blocked_is {t : tTxn.D} {l : List tTxn.D} (ht : tTxn.wt t ≤ 1048576) (hl : (Ty.slice tTxn).wt l ≤ 1048576) (k) : impl_Blocked_k t l k = k (l.any fun x => blockedB t x) := by
  have hlen := len_le hl
  obtain ⟨a, b, hab⟩ := slices_IndexFunc_Txn_Blocked_1_w0_is (u0 := l) (u1 := 0) ht l 0 (fun y hy => wt_mem_le hy hl)
  rw [impl_Blocked_e]
  unfold impl_Blocked_d
  rw [impl_some_Blocked_1_e]
  unfold impl_some_Blocked_1_d
  rw [slices_ContainsFunc_Txn_Blocked_1_e]
  unfold slices_ContainsFunc_Txn_Blocked_1_d
  rw [slices_IndexFunc_Txn_Blocked_1_r (by omega)]
  unfold slices_IndexFunc_Txn_Blocked_1_t
  rw [hab]
  cases (l.any fun x => blockedB t x)
  · rfl
  · have : decide ((a : Int) ≥ 0) = true := by simp
    simp only [cond_true, Sum.elim_inl, this]

theorem spec_Blocked_w0_is {u0 u1} {t : tTxn.D} (ht : tTxn.wt t ≤ 1048576) : ∀ (l : List tTxn.D) (i : Nat), (∀ y ∈ l, tTxn.wt y ≤ 1048576) → ∃ j : Int, ∀ k,
    spec_Blocked_w0 u0 u1 t.1 t.2.1 t.2.2.1 t.2.2.2.1 t.2.2.2.2.1 t.2.2.2.2.2.1 t.2.2.2.2.2.2.1 t.2.2.2.2.2.2.2 l i k = k (bif l.any (fun x => blockedB t x) then .inl (true, j) else .inr j)
  | [], i, _ => ⟨_, fun k => rfl⟩
  | x :: l, i, h => by
    obtain ⟨j, hj⟩ := spec_Blocked_w0_is (u0 := u0) (u1 := u1) ht l (i + 1) (fun y hy => h y (by simp [hy]))
    have hx := h x (by simp)
    simp only [spec_Blocked_w0, pair_eta, spec_Meets_is (lensTxn hx).2 (lensTxn ht).2, hj, List.any_cons, blockedB]
    cases (x.1 != t.1) <;> cases (x.2.1 == 2) <;> cases (x.2.1 == 3) <;> cases decide (x.2.2.2.1 > t.2.2.1) <;> cases meetsB x.2.2.2.2.2.1 t.2.2.2.2.2.1 <;> first | exact ⟨j, fun k => rfl⟩ | exact ⟨(i : Int), fun k => rfl⟩

theorem spec_Blocked_is {t : tTxn.D} {l : List tTxn.D} (ht : tTxn.wt t ≤ 1048576) (hl : (Ty.slice tTxn).wt l ≤ 1048576) (k) : spec_Blocked_k t l k = k (l.any fun x => blockedB t x) := by
  have hlen := len_le hl
  rw [spec_Blocked_r (by omega)]
  unfold spec_Blocked_t
  obtain ⟨j, hj⟩ := spec_Blocked_w0_is (u0 := l) (u1 := false) ht l 0 (fun y hy => wt_mem_le hy hl)
  rw [hj]
  cases (l.any fun x => blockedB t x) <;> rfl

theorem impl_OutOf_1_is {x t : tTxn.D} (hx : tTxn.wt x ≤ 1048576) (ht : tTxn.wt t ≤ 1048576) (k) : impl_OutOf_1_k x t.1 t.2.1 t.2.2.1 t.2.2.2.1 t.2.2.2.2.1 t.2.2.2.2.2.1 t.2.2.2.2.2.2.1 t.2.2.2.2.2.2.2 k = k (outOfB t x, t.1, t.2.1, t.2.2.1, t.2.2.2.1, t.2.2.2.2.1, t.2.2.2.2.2.1, t.2.2.2.2.2.2.1, t.2.2.2.2.2.2.2) := by
  rw [impl_OutOf_1_e]
  unfold impl_OutOf_1_d outOfB
  simp only [impl_isDone_is, pair_eta, impl_Ahead_is ht hx]
  cases (x.2.1 == 3) <;> cases aheadB t x <;> rfl

theorem slices_IndexFunc_Txn_OutOf_1_w0_is {u0 u1} {t : tTxn.D} (ht : tTxn.wt t ≤ 1048576) : ∀ (l : List tTxn.D) (i : Nat), (∀ y ∈ l, tTxn.wt y ≤ 1048576) → ∃ a : Nat, ∃ b : Int, ∀ k,
    slices_IndexFunc_Txn_OutOf_1_w0 u0 u1 l t.1 t.2.1 t.2.2.1 t.2.2.2.1 t.2.2.2.2.1 t.2.2.2.2.2.1 t.2.2.2.2.2.2.1 t.2.2.2.2.2.2.2 i k = k (bif l.any (fun x => outOfB t x) then .inl ((a : Int), b, t.1, t.2.1, t.2.2.1, t.2.2.2.1, t.2.2.2.2.1, t.2.2.2.2.2.1, t.2.2.2.2.2.2.1, t.2.2.2.2.2.2.2) else .inr (b, t.1, t.2.1, t.2.2.1, t.2.2.2.1, t.2.2.2.2.1, t.2.2.2.2.2.1, t.2.2.2.2.2.2.1, t.2.2.2.2.2.2.2))
  | [], i, _ => ⟨0, _, fun k => rfl⟩
  | y :: l, i, h => by
    obtain ⟨a, b, hab⟩ := slices_IndexFunc_Txn_OutOf_1_w0_is (u0 := u0) (u1 := u1) ht l (i + 1) (fun y hy => h y (by simp [hy]))
    simp only [slices_IndexFunc_Txn_OutOf_1_w0, impl_OutOf_1_is (h y (by simp)) ht, hab, List.any_cons]
    cases outOfB t y
    · exact ⟨a, b, fun k => rfl⟩
    · exact ⟨i, (i : Int), fun k => rfl⟩

theorem impl_OutOf_is {t : tTxn.D} {l : List tTxn.D} (ht : tTxn.wt t ≤ 1048576) (hl : (Ty.slice tTxn).wt l ≤ 1048576) (k) : impl_OutOf_k t l k = k (l.any fun x => outOfB t x) := by
  have hlen := len_le hl
  obtain ⟨a, b, hab⟩ := slices_IndexFunc_Txn_OutOf_1_w0_is (u0 := l) (u1 := 0) ht l 0 (fun y hy => wt_mem_le hy hl)
  rw [impl_OutOf_e]
  unfold impl_OutOf_d
  rw [impl_some_OutOf_1_e]
  unfold impl_some_OutOf_1_d
  rw [slices_ContainsFunc_Txn_OutOf_1_e]
  unfold slices_ContainsFunc_Txn_OutOf_1_d
  rw [slices_IndexFunc_Txn_OutOf_1_r (by omega)]
  unfold slices_IndexFunc_Txn_OutOf_1_t
  rw [hab]
  cases (l.any fun x => outOfB t x)
  · rfl
  · have : decide ((a : Int) ≥ 0) = true := by simp
    simp only [cond_true, Sum.elim_inl, this]

theorem spec_OutOf_w0_is {u0 u1} {t : tTxn.D} (ht : tTxn.wt t ≤ 1048576) : ∀ (l : List tTxn.D) (i : Nat), (∀ y ∈ l, tTxn.wt y ≤ 1048576) → ∃ j : Int, ∀ k,
    spec_OutOf_w0 u0 u1 t.1 t.2.1 t.2.2.1 t.2.2.2.1 t.2.2.2.2.1 t.2.2.2.2.2.1 t.2.2.2.2.2.2.1 t.2.2.2.2.2.2.2 l i k = k (bif l.any (fun x => outOfB t x) then .inl (true, j) else .inr j)
  | [], i, _ => ⟨_, fun k => rfl⟩
  | x :: l, i, h => by
    obtain ⟨j, hj⟩ := spec_OutOf_w0_is (u0 := u0) (u1 := u1) ht l (i + 1) (fun y hy => h y (by simp [hy]))
    have hx := h x (by simp)
    simp only [spec_OutOf_w0, pair_eta, spec_Ahead_is ht hx, hj, List.any_cons, outOfB]
    cases (x.2.1 == 3) <;> cases aheadB t x <;> first | exact ⟨j, fun k => rfl⟩ | exact ⟨(i : Int), fun k => rfl⟩

theorem spec_OutOf_is {t : tTxn.D} {l : List tTxn.D} (ht : tTxn.wt t ≤ 1048576) (hl : (Ty.slice tTxn).wt l ≤ 1048576) (k) : spec_OutOf_k t l k = k (l.any fun x => outOfB t x) := by
  have hlen := len_le hl
  rw [spec_OutOf_r (by omega)]
  unfold spec_OutOf_t
  obtain ⟨j, hj⟩ := spec_OutOf_w0_is (u0 := l) (u1 := false) ht l 0 (fun y hy => wt_mem_le hy hl)
  rw [hj]
  cases (l.any fun x => outOfB t x) <;> rfl

theorem impl_InOf_1_is {x t : tTxn.D} (hx : tTxn.wt x ≤ 1048576) (ht : tTxn.wt t ≤ 1048576) (k) : impl_InOf_1_k x t.1 t.2.1 t.2.2.1 t.2.2.2.1 t.2.2.2.2.1 t.2.2.2.2.2.1 t.2.2.2.2.2.2.1 t.2.2.2.2.2.2.2 k = k (inOfB t x, t.1, t.2.1, t.2.2.1, t.2.2.2.1, t.2.2.2.2.1, t.2.2.2.2.2.1, t.2.2.2.2.2.2.1, t.2.2.2.2.2.2.2) := by
  rw [impl_InOf_1_e]
  unfold impl_InOf_1_d inOfB
  simp only [impl_isReady_is, impl_isDone_is, pair_eta, impl_Ahead_is hx ht]
  cases (x.2.1 == 2) <;> cases (x.2.1 == 3) <;> cases aheadB x t <;> rfl

theorem slices_IndexFunc_Txn_InOf_1_w0_is {u0 u1} {t : tTxn.D} (ht : tTxn.wt t ≤ 1048576) : ∀ (l : List tTxn.D) (i : Nat), (∀ y ∈ l, tTxn.wt y ≤ 1048576) → ∃ a : Nat, ∃ b : Int, ∀ k,
    slices_IndexFunc_Txn_InOf_1_w0 u0 u1 l t.1 t.2.1 t.2.2.1 t.2.2.2.1 t.2.2.2.2.1 t.2.2.2.2.2.1 t.2.2.2.2.2.2.1 t.2.2.2.2.2.2.2 i k = k (bif l.any (fun x => inOfB t x) then .inl ((a : Int), b, t.1, t.2.1, t.2.2.1, t.2.2.2.1, t.2.2.2.2.1, t.2.2.2.2.2.1, t.2.2.2.2.2.2.1, t.2.2.2.2.2.2.2) else .inr (b, t.1, t.2.1, t.2.2.1, t.2.2.2.1, t.2.2.2.2.1, t.2.2.2.2.2.1, t.2.2.2.2.2.2.1, t.2.2.2.2.2.2.2))
  | [], i, _ => ⟨0, _, fun k => rfl⟩
  | y :: l, i, h => by
    obtain ⟨a, b, hab⟩ := slices_IndexFunc_Txn_InOf_1_w0_is (u0 := u0) (u1 := u1) ht l (i + 1) (fun y hy => h y (by simp [hy]))
    simp only [slices_IndexFunc_Txn_InOf_1_w0, impl_InOf_1_is (h y (by simp)) ht, hab, List.any_cons]
    cases inOfB t y
    · exact ⟨a, b, fun k => rfl⟩
    · exact ⟨i, (i : Int), fun k => rfl⟩

theorem impl_InOf_is {t : tTxn.D} {l : List tTxn.D} (ht : tTxn.wt t ≤ 1048576) (hl : (Ty.slice tTxn).wt l ≤ 1048576) (k) : impl_InOf_k t l k = k (l.any fun x => inOfB t x) := by
  have hlen := len_le hl
  obtain ⟨a, b, hab⟩ := slices_IndexFunc_Txn_InOf_1_w0_is (u0 := l) (u1 := 0) ht l 0 (fun y hy => wt_mem_le hy hl)
  rw [impl_InOf_e]
  unfold impl_InOf_d
  rw [impl_some_InOf_1_e]
  unfold impl_some_InOf_1_d
  rw [slices_ContainsFunc_Txn_InOf_1_e]
  unfold slices_ContainsFunc_Txn_InOf_1_d
  rw [slices_IndexFunc_Txn_InOf_1_r (by omega)]
  unfold slices_IndexFunc_Txn_InOf_1_t
  rw [hab]
  cases (l.any fun x => inOfB t x)
  · rfl
  · have : decide ((a : Int) ≥ 0) = true := by simp
    simp only [cond_true, Sum.elim_inl, this]

theorem spec_InOf_w0_is {u0 u1} {t : tTxn.D} (ht : tTxn.wt t ≤ 1048576) : ∀ (l : List tTxn.D) (i : Nat), (∀ y ∈ l, tTxn.wt y ≤ 1048576) → ∃ j : Int, ∀ k,
    spec_InOf_w0 u0 u1 t.1 t.2.1 t.2.2.1 t.2.2.2.1 t.2.2.2.2.1 t.2.2.2.2.2.1 t.2.2.2.2.2.2.1 t.2.2.2.2.2.2.2 l i k = k (bif l.any (fun x => inOfB t x) then .inl (true, j) else .inr j)
  | [], i, _ => ⟨_, fun k => rfl⟩
  | x :: l, i, h => by
    obtain ⟨j, hj⟩ := spec_InOf_w0_is (u0 := u0) (u1 := u1) ht l (i + 1) (fun y hy => h y (by simp [hy]))
    have hx := h x (by simp)
    simp only [spec_InOf_w0, pair_eta, spec_Ahead_is hx ht, hj, List.any_cons, inOfB]
    cases (x.2.1 == 2) <;> cases (x.2.1 == 3) <;> cases aheadB x t <;> first | exact ⟨j, fun k => rfl⟩ | exact ⟨(i : Int), fun k => rfl⟩

theorem spec_InOf_is {t : tTxn.D} {l : List tTxn.D} (ht : tTxn.wt t ≤ 1048576) (hl : (Ty.slice tTxn).wt l ≤ 1048576) (k) : spec_InOf_k t l k = k (l.any fun x => inOfB t x) := by
  have hlen := len_le hl
  rw [spec_InOf_r (by omega)]
  unfold spec_InOf_t
  obtain ⟨j, hj⟩ := spec_InOf_w0_is (u0 := l) (u1 := false) ht l 0 (fun y hy => wt_mem_le hy hl)
  rw [hj]
  cases (l.any fun x => inOfB t x) <;> rfl


end
end Go.VE
