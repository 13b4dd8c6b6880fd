/- Plain laws: danger. -/
import Derived.Test.YtbedbcnmfoildaaFnDangersR13
namespace Go.VE
noncomputable section
set_option linter.unusedVariables false
set_option linter.unusedSimpArgs false
set_option maxRecDepth 100000

def dA (t x : tTxn.D) : Bool := ((x.2.1 == 2) || (x.2.1 == 3)) && x.2.2.2.2.2.2.1 && aheadB t x
def dB (p x : tTxn.D) : Bool := (x.2.1 == 2) && aheadB x p
def dC (t : tTxn.D) (l0 : List tTxn.D) (x : tTxn.D) : Bool := (x.2.1 == 2) && aheadB x t && (aheadB t x || l0.any fun y => dB x y)
def dE (t x : tTxn.D) : Bool := (x.2.1 == 2) && aheadB t x
def dF (t p x : tTxn.D) : Bool := (x.2.1 == 2) && (x.1 != t.1) && aheadB p x
def dG (l0 : List tTxn.D) (t x : tTxn.D) : Bool := dE t x && l0.any fun y => dF t x y

theorem impl_Danger_1_is {x : tTxn.D} {t : tTxn.D} (hx : tTxn.wt x ≤ 1048576) (ht : tTxn.wt t ≤ 1048576) (k) : impl_Danger_1_k x t.1 t.2.1 t.2.2.1 t.2.2.2.1 t.2.2.2.2.1 t.2.2.2.2.2.1 t.2.2.2.2.2.2.1 t.2.2.2.2.2.2.2 k = k (dA t x, t.1, t.2.1, t.2.2.1, t.2.2.2.1, t.2.2.2.2.1, t.2.2.2.2.2.1, t.2.2.2.2.2.2.1, t.2.2.2.2.2.2.2) := by
  rw [impl_Danger_1_e]
  unfold impl_Danger_1_d dA
  simp only [impl_isReady_is, impl_isDone_is, pair_eta, impl_Ahead_is ht hx]
  cases (x.2.1 == 2) <;> cases (x.2.1 == 3) <;> cases x.2.2.2.2.2.2.1 <;> cases aheadB t x <;> rfl

theorem slices_IndexFunc_Txn_Danger_1_w0_is {u0 u1} {t : tTxn.D} (ht : tTxn.wt t ≤ 1048576) : ∀ (l : List tTxn.D) (i : Nat), (∀ y ∈ l, tTxn.wt y ≤ 1048576) → ∃ a : Nat, ∃ b : Int, ∀ k,
    slices_IndexFunc_Txn_Danger_1_w0 u0 u1 l t.1 t.2.1 t.2.2.1 t.2.2.2.1 t.2.2.2.2.1 t.2.2.2.2.2.1 t.2.2.2.2.2.2.1 t.2.2.2.2.2.2.2 i k = k (bif l.any (fun x => dA t x) then .inl ((a : Int), b, t.1, t.2.1, t.2.2.1, t.2.2.2.1, t.2.2.2.2.1, t.2.2.2.2.2.1, t.2.2.2.2.2.2.1, t.2.2.2.2.2.2.2) else .inr (b, t.1, t.2.1, t.2.2.1, t.2.2.2.1, t.2.2.2.2.1, t.2.2.2.2.2.1, t.2.2.2.2.2.2.1, t.2.2.2.2.2.2.2))
  | [], i, _ => ⟨0, _, fun k => rfl⟩
  | y :: l, i, h => by
    obtain ⟨a, b, hab⟩ := slices_IndexFunc_Txn_Danger_1_w0_is (u0 := u0) (u1 := u1) ht l (i + 1) (fun y hy => h y (by simp [hy]))
    simp only [slices_IndexFunc_Txn_Danger_1_w0, impl_Danger_1_is (h y (by simp)) ht, hab, List.any_cons]
    cases dA t y
    · exact ⟨a, b, fun k => rfl⟩
    · exact ⟨i, (i : Int), fun k => rfl⟩

theorem impl_some_Danger_1_is {t : tTxn.D} (ht : tTxn.wt t ≤ 1048576) {l : List tTxn.D} (hl : (Ty.slice tTxn).wt l ≤ 1048576) (k) : impl_some_Danger_1_k l t.1 t.2.1 t.2.2.1 t.2.2.2.1 t.2.2.2.2.1 t.2.2.2.2.2.1 t.2.2.2.2.2.2.1 t.2.2.2.2.2.2.2 k = k ((l.any fun x => dA t x), t.1, t.2.1, t.2.2.1, t.2.2.2.1, t.2.2.2.2.1, t.2.2.2.2.2.1, t.2.2.2.2.2.2.1, t.2.2.2.2.2.2.2) := by
  have hlen := len_le hl
  obtain ⟨a, b, hab⟩ := slices_IndexFunc_Txn_Danger_1_w0_is (u0 := l) (u1 := 0) ht l 0 (fun y hy => wt_mem_le hy hl)
  rw [impl_some_Danger_1_e]
  unfold impl_some_Danger_1_d
  rw [slices_ContainsFunc_Txn_Danger_1_e]
  unfold slices_ContainsFunc_Txn_Danger_1_d
  rw [slices_IndexFunc_Txn_Danger_1_r (by omega)]
  unfold slices_IndexFunc_Txn_Danger_1_t
  rw [hab]
  cases (l.any fun x => dA t x)
  · rfl
  · have : decide ((a : Int) ≥ 0) = true := by simp
    simp only [cond_true, Sum.elim_inl, this]

theorem impl_Danger_2_1_is {x : tTxn.D} {t : tTxn.D} (hx : tTxn.wt x ≤ 1048576) (ht : tTxn.wt t ≤ 1048576) (k) : impl_Danger_2_1_k x t.1 t.2.1 t.2.2.1 t.2.2.2.1 t.2.2.2.2.1 t.2.2.2.2.2.1 t.2.2.2.2.2.2.1 t.2.2.2.2.2.2.2 k = k (dB t x, t.1, t.2.1, t.2.2.1, t.2.2.2.1, t.2.2.2.2.1, t.2.2.2.2.2.1, t.2.2.2.2.2.2.1, t.2.2.2.2.2.2.2) := by
  rw [impl_Danger_2_1_e]
  unfold impl_Danger_2_1_d dB
  simp only [impl_isReady_is, pair_eta, impl_Ahead_is hx ht]
  cases (x.2.1 == 2) <;> cases aheadB x t <;> rfl

theorem slices_IndexFunc_Txn_Danger_2_1_w0_is {u0 u1} {t : tTxn.D} (ht : tTxn.wt t ≤ 1048576) : ∀ (l : List tTxn.D) (i : Nat), (∀ y ∈ l, tTxn.wt y ≤ 1048576) → ∃ a : Nat, ∃ b : Int, ∀ k,
    slices_IndexFunc_Txn_Danger_2_1_w0 u0 u1 l t.1 t.2.1 t.2.2.1 t.2.2.2.1 t.2.2.2.2.1 t.2.2.2.2.2.1 t.2.2.2.2.2.2.1 t.2.2.2.2.2.2.2 i k = k (bif l.any (fun x => dB t x) then .inl ((a : Int), b, t.1, t.2.1, t.2.2.1, t.2.2.2.1, t.2.2.2.2.1, t.2.2.2.2.2.1, t.2.2.2.2.2.2.1, t.2.2.2.2.2.2.2) else .inr (b, t.1, t.2.1, t.2.2.1, t.2.2.2.1, t.2.2.2.2.1, t.2.2.2.2.2.1, t.2.2.2.2.2.2.1, t.2.2.2.2.2.2.2))
  | [], i, _ => ⟨0, _, fun k => rfl⟩
  | y :: l, i, h => by
    obtain ⟨a, b, hab⟩ := slices_IndexFunc_Txn_Danger_2_1_w0_is (u0 := u0) (u1 := u1) ht l (i + 1) (fun y hy => h y (by simp [hy]))
    simp only [slices_IndexFunc_Txn_Danger_2_1_w0, impl_Danger_2_1_is (h y (by simp)) ht, hab, List.any_cons]
    cases dB t y
    · exact ⟨a, b, fun k => rfl⟩
    · exact ⟨i, (i : Int), fun k => rfl⟩

theorem impl_some_Danger_2_1_is {t : tTxn.D} (ht : tTxn.wt t ≤ 1048576) {l : List tTxn.D} (hl : (Ty.slice tTxn).wt l ≤ 1048576) (k) : impl_some_Danger_2_1_k l t.1 t.2.1 t.2.2.1 t.2.2.2.1 t.2.2.2.2.1 t.2.2.2.2.2.1 t.2.2.2.2.2.2.1 t.2.2.2.2.2.2.2 k = k ((l.any fun x => dB t x), t.1, t.2.1, t.2.2.1, t.2.2.2.1, t.2.2.2.2.1, t.2.2.2.2.2.1, t.2.2.2.2.2.2.1, t.2.2.2.2.2.2.2) := by
  have hlen := len_le hl
  obtain ⟨a, b, hab⟩ := slices_IndexFunc_Txn_Danger_2_1_w0_is (u0 := l) (u1 := 0) ht l 0 (fun y hy => wt_mem_le hy hl)
  rw [impl_some_Danger_2_1_e]
  unfold impl_some_Danger_2_1_d
  rw [slices_ContainsFunc_Txn_Danger_2_1_e]
  unfold slices_ContainsFunc_Txn_Danger_2_1_d
  rw [slices_IndexFunc_Txn_Danger_2_1_r (by omega)]
  unfold slices_IndexFunc_Txn_Danger_2_1_t
  rw [hab]
  cases (l.any fun x => dB t x)
  · rfl
  · have : decide ((a : Int) ≥ 0) = true := by simp
    simp only [cond_true, Sum.elim_inl, this]

theorem impl_Danger_2_is {x : tTxn.D} {t : tTxn.D} {l0 : List tTxn.D} (hx : tTxn.wt x ≤ 1048576) (ht : tTxn.wt t ≤ 1048576) (hl0 : (Ty.slice tTxn).wt l0 ≤ 1048576) (k) : impl_Danger_2_k x t.1 t.2.1 t.2.2.1 t.2.2.2.1 t.2.2.2.2.1 t.2.2.2.2.2.1 t.2.2.2.2.2.2.1 t.2.2.2.2.2.2.2 l0 k = k (dC t l0 x, t.1, t.2.1, t.2.2.1, t.2.2.2.1, t.2.2.2.2.1, t.2.2.2.2.2.1, t.2.2.2.2.2.2.1, t.2.2.2.2.2.2.2, l0) := by
  rw [impl_Danger_2_e]
  unfold impl_Danger_2_d dC
  simp only [impl_isReady_is, pair_eta, impl_Ahead_is hx ht, impl_Danger_2_j5000003, impl_Ahead_is ht hx, impl_some_Danger_2_1_is hx hl0]
  cases (x.2.1 == 2) <;> cases aheadB x t <;> cases aheadB t x <;> cases (l0.any fun y => dB x y) <;> rfl

theorem slices_IndexFunc_Txn_Danger_2_w0_is {u0 u1} {t : tTxn.D} {l0 : List tTxn.D} (ht : tTxn.wt t ≤ 1048576) (hl0 : (Ty.slice tTxn).wt l0 ≤ 1048576) : ∀ (l : List tTxn.D) (i : Nat), (∀ y ∈ l, tTxn.wt y ≤ 1048576) → ∃ a : Nat, ∃ b : Int, ∀ k,
    slices_IndexFunc_Txn_Danger_2_w0 u0 u1 l t.1 t.2.1 t.2.2.1 t.2.2.2.1 t.2.2.2.2.1 t.2.2.2.2.2.1 t.2.2.2.2.2.2.1 t.2.2.2.2.2.2.2 l0 i k = k (bif l.any (fun x => dC t l0 x) then .inl ((a : Int), b, t.1, t.2.1, t.2.2.1, t.2.2.2.1, t.2.2.2.2.1, t.2.2.2.2.2.1, t.2.2.2.2.2.2.1, t.2.2.2.2.2.2.2, l0) else .inr (b, t.1, t.2.1, t.2.2.1, t.2.2.2.1, t.2.2.2.2.1, t.2.2.2.2.2.1, t.2.2.2.2.2.2.1, t.2.2.2.2.2.2.2, l0))
  | [], i, _ => ⟨0, _, fun k => rfl⟩
  | y :: l, i, h => by
    obtain ⟨a, b, hab⟩ := slices_IndexFunc_Txn_Danger_2_w0_is (u0 := u0) (u1 := u1) ht hl0 l (i + 1) (fun y hy => h y (by simp [hy]))
    simp only [slices_IndexFunc_Txn_Danger_2_w0, impl_Danger_2_is (h y (by simp)) ht hl0, hab, List.any_cons]
    cases dC t l0 y
    · exact ⟨a, b, fun k => rfl⟩
    · exact ⟨i, (i : Int), fun k => rfl⟩

theorem impl_some_Danger_2_is {t : tTxn.D} {l0 : List tTxn.D} (ht : tTxn.wt t ≤ 1048576) (hl0 : (Ty.slice tTxn).wt l0 ≤ 1048576) {l : List tTxn.D} (hl : (Ty.slice tTxn).wt l ≤ 1048576) (k) : impl_some_Danger_2_k l t.1 t.2.1 t.2.2.1 t.2.2.2.1 t.2.2.2.2.1 t.2.2.2.2.2.1 t.2.2.2.2.2.2.1 t.2.2.2.2.2.2.2 l0 k = k ((l.any fun x => dC t l0 x), t.1, t.2.1, t.2.2.1, t.2.2.2.1, t.2.2.2.2.1, t.2.2.2.2.2.1, t.2.2.2.2.2.2.1, t.2.2.2.2.2.2.2, l0) := by
  have hlen := len_le hl
  obtain ⟨a, b, hab⟩ := slices_IndexFunc_Txn_Danger_2_w0_is (u0 := l) (u1 := 0) ht hl0 l 0 (fun y hy => wt_mem_le hy hl)
  rw [impl_some_Danger_2_e]
  unfold impl_some_Danger_2_d
  rw [slices_ContainsFunc_Txn_Danger_2_e]
  unfold slices_ContainsFunc_Txn_Danger_2_d
  rw [slices_IndexFunc_Txn_Danger_2_r (by omega)]
  unfold slices_IndexFunc_Txn_Danger_2_t
  rw [hab]
  cases (l.any fun x => dC t l0 x)
  · rfl
  · have : decide ((a : Int) ≥ 0) = true := by simp
    simp only [cond_true, Sum.elim_inl, this]

theorem impl_ReadyDanger_1_is {x : tTxn.D} {t : tTxn.D} (hx : tTxn.wt x ≤ 1048576) (ht : tTxn.wt t ≤ 1048576) (k) : impl_ReadyDanger_1_k x t.1 t.2.1 t.2.2.1 t.2.2.2.1 t.2.2.2.2.1 t.2.2.2.2.2.1 t.2.2.2.2.2.2.1 t.2.2.2.2.2.2.2 k = k (dE t x, t.1, t.2.1, t.2.2.1, t.2.2.2.1, t.2.2.2.2.1, t.2.2.2.2.2.1, t.2.2.2.2.2.2.1, t.2.2.2.2.2.2.2) := by
  rw [impl_ReadyDanger_1_e]
  unfold impl_ReadyDanger_1_d dE
  simp only [impl_isReady_is, pair_eta, impl_Ahead_is ht hx]
  cases (x.2.1 == 2) <;> cases aheadB t x <;> rfl

theorem slices_IndexFunc_Txn_ReadyDanger_1_w0_is {u0 u1} {t : tTxn.D} (ht : tTxn.wt t ≤ 1048576) : ∀ (l : List tTxn.D) (i : Nat), (∀ y ∈ l, tTxn.wt y ≤ 1048576) → ∃ a : Nat, ∃ b : Int, ∀ k,
    slices_IndexFunc_Txn_ReadyDanger_1_w0 u0 u1 l t.1 t.2.1 t.2.2.1 t.2.2.2.1 t.2.2.2.2.1 t.2.2.2.2.2.1 t.2.2.2.2.2.2.1 t.2.2.2.2.2.2.2 i k = k (bif l.any (fun x => dE t x) then .inl ((a : Int), b, t.1, t.2.1, t.2.2.1, t.2.2.2.1, t.2.2.2.2.1, t.2.2.2.2.2.1, t.2.2.2.2.2.2.1, t.2.2.2.2.2.2.2) else .inr (b, t.1, t.2.1, t.2.2.1, t.2.2.2.1, t.2.2.2.2.1, t.2.2.2.2.2.1, t.2.2.2.2.2.2.1, t.2.2.2.2.2.2.2))
  | [], i, _ => ⟨0, _, fun k => rfl⟩
  | y :: l, i, h => by
    obtain ⟨a, b, hab⟩ := slices_IndexFunc_Txn_ReadyDanger_1_w0_is (u0 := u0) (u1 := u1) ht l (i + 1) (fun y hy => h y (by simp [hy]))
    simp only [slices_IndexFunc_Txn_ReadyDanger_1_w0, impl_ReadyDanger_1_is (h y (by simp)) ht, hab, List.any_cons]
    cases dE t y
    · exact ⟨a, b, fun k => rfl⟩
    · exact ⟨i, (i : Int), fun k => rfl⟩

theorem impl_some_ReadyDanger_1_is {t : tTxn.D} (ht : tTxn.wt t ≤ 1048576) {l : List tTxn.D} (hl : (Ty.slice tTxn).wt l ≤ 1048576) (k) : impl_some_ReadyDanger_1_k l t.1 t.2.1 t.2.2.1 t.2.2.2.1 t.2.2.2.2.1 t.2.2.2.2.2.1 t.2.2.2.2.2.2.1 t.2.2.2.2.2.2.2 k = k ((l.any fun x => dE t x), t.1, t.2.1, t.2.2.1, t.2.2.2.1, t.2.2.2.2.1, t.2.2.2.2.2.1, t.2.2.2.2.2.2.1, t.2.2.2.2.2.2.2) := by
  have hlen := len_le hl
  obtain ⟨a, b, hab⟩ := slices_IndexFunc_Txn_ReadyDanger_1_w0_is (u0 := l) (u1 := 0) ht l 0 (fun y hy => wt_mem_le hy hl)
  rw [impl_some_ReadyDanger_1_e]
  unfold impl_some_ReadyDanger_1_d
  rw [slices_ContainsFunc_Txn_ReadyDanger_1_e]
  unfold slices_ContainsFunc_Txn_ReadyDanger_1_d
  rw [slices_IndexFunc_Txn_ReadyDanger_1_r (by omega)]
  unfold slices_IndexFunc_Txn_ReadyDanger_1_t
  rw [hab]
  cases (l.any fun x => dE t x)
  · rfl
  · have : decide ((a : Int) ≥ 0) = true := by simp
    simp only [cond_true, Sum.elim_inl, this]

theorem impl_ReadyDanger_2_1_is {x : tTxn.D} {t p : tTxn.D} (hx : tTxn.wt x ≤ 1048576) (ht : tTxn.wt t ≤ 1048576) (hp : tTxn.wt p ≤ 1048576) (k) : impl_ReadyDanger_2_1_k x t.1 t.2.1 t.2.2.1 t.2.2.2.1 t.2.2.2.2.1 t.2.2.2.2.2.1 t.2.2.2.2.2.2.1 t.2.2.2.2.2.2.2 p.1 p.2.1 p.2.2.1 p.2.2.2.1 p.2.2.2.2.1 p.2.2.2.2.2.1 p.2.2.2.2.2.2.1 p.2.2.2.2.2.2.2 k = k (dF t p x, t.1, t.2.1, t.2.2.1, t.2.2.2.1, t.2.2.2.2.1, t.2.2.2.2.2.1, t.2.2.2.2.2.2.1, t.2.2.2.2.2.2.2, p.1, p.2.1, p.2.2.1, p.2.2.2.1, p.2.2.2.2.1, p.2.2.2.2.2.1, p.2.2.2.2.2.2.1, p.2.2.2.2.2.2.2) := by
  rw [impl_ReadyDanger_2_1_e]
  unfold impl_ReadyDanger_2_1_d dF
  simp only [impl_isReady_is, pair_eta, impl_Ahead_is hp hx]
  cases (x.2.1 == 2) <;> cases (x.1 != t.1) <;> cases aheadB p x <;> rfl

theorem slices_IndexFunc_Txn_ReadyDanger_2_1_w0_is {u0 u1} {t p : tTxn.D} (ht : tTxn.wt t ≤ 1048576) (hp : tTxn.wt p ≤ 1048576) : ∀ (l : List tTxn.D) (i : Nat), (∀ y ∈ l, tTxn.wt y ≤ 1048576) → ∃ a : Nat, ∃ b : Int, ∀ k,
    slices_IndexFunc_Txn_ReadyDanger_2_1_w0 u0 u1 l t.1 t.2.1 t.2.2.1 t.2.2.2.1 t.2.2.2.2.1 t.2.2.2.2.2.1 t.2.2.2.2.2.2.1 t.2.2.2.2.2.2.2 p.1 p.2.1 p.2.2.1 p.2.2.2.1 p.2.2.2.2.1 p.2.2.2.2.2.1 p.2.2.2.2.2.2.1 p.2.2.2.2.2.2.2 i k = k (bif l.any (fun x => dF t p x) then .inl ((a : Int), b, t.1, t.2.1, t.2.2.1, t.2.2.2.1, t.2.2.2.2.1, t.2.2.2.2.2.1, t.2.2.2.2.2.2.1, t.2.2.2.2.2.2.2, p.1, p.2.1, p.2.2.1, p.2.2.2.1, p.2.2.2.2.1, p.2.2.2.2.2.1, p.2.2.2.2.2.2.1, p.2.2.2.2.2.2.2) else .inr (b, t.1, t.2.1, t.2.2.1, t.2.2.2.1, t.2.2.2.2.1, t.2.2.2.2.2.1, t.2.2.2.2.2.2.1, t.2.2.2.2.2.2.2, p.1, p.2.1, p.2.2.1, p.2.2.2.1, p.2.2.2.2.1, p.2.2.2.2.2.1, p.2.2.2.2.2.2.1, p.2.2.2.2.2.2.2))
  | [], i, _ => ⟨0, _, fun k => rfl⟩
  | y :: l, i, h => by
    obtain ⟨a, b, hab⟩ := slices_IndexFunc_Txn_ReadyDanger_2_1_w0_is (u0 := u0) (u1 := u1) ht hp l (i + 1) (fun y hy => h y (by simp [hy]))
    simp only [slices_IndexFunc_Txn_ReadyDanger_2_1_w0, impl_ReadyDanger_2_1_is (h y (by simp)) ht hp, hab, List.any_cons]
    cases dF t p y
    · exact ⟨a, b, fun k => rfl⟩
    · exact ⟨i, (i : Int), fun k => rfl⟩

theorem impl_some_ReadyDanger_2_1_is {t p : tTxn.D} (ht : tTxn.wt t ≤ 1048576) (hp : tTxn.wt p ≤ 1048576) {l : List tTxn.D} (hl : (Ty.slice tTxn).wt l ≤ 1048576) (k) : impl_some_ReadyDanger_2_1_k l t.1 t.2.1 t.2.2.1 t.2.2.2.1 t.2.2.2.2.1 t.2.2.2.2.2.1 t.2.2.2.2.2.2.1 t.2.2.2.2.2.2.2 p.1 p.2.1 p.2.2.1 p.2.2.2.1 p.2.2.2.2.1 p.2.2.2.2.2.1 p.2.2.2.2.2.2.1 p.2.2.2.2.2.2.2 k = k ((l.any fun x => dF t p x), t.1, t.2.1, t.2.2.1, t.2.2.2.1, t.2.2.2.2.1, t.2.2.2.2.2.1, t.2.2.2.2.2.2.1, t.2.2.2.2.2.2.2, p.1, p.2.1, p.2.2.1, p.2.2.2.1, p.2.2.2.2.1, p.2.2.2.2.2.1, p.2.2.2.2.2.2.1, p.2.2.2.2.2.2.2) := by
  have hlen := len_le hl
  obtain ⟨a, b, hab⟩ := slices_IndexFunc_Txn_ReadyDanger_2_1_w0_is (u0 := l) (u1 := 0) ht hp l 0 (fun y hy => wt_mem_le hy hl)
  rw [impl_some_ReadyDanger_2_1_e]
  unfold impl_some_ReadyDanger_2_1_d
  rw [slices_ContainsFunc_Txn_ReadyDanger_2_1_e]
  unfold slices_ContainsFunc_Txn_ReadyDanger_2_1_d
  rw [slices_IndexFunc_Txn_ReadyDanger_2_1_r (by omega)]
  unfold slices_IndexFunc_Txn_ReadyDanger_2_1_t
  rw [hab]
  cases (l.any fun x => dF t p x)
  · rfl
  · have : decide ((a : Int) ≥ 0) = true := by simp
    simp only [cond_true, Sum.elim_inl, this]

theorem impl_ReadyDanger_2_is {x : tTxn.D} {l0 : List tTxn.D} {t : tTxn.D} (hx : tTxn.wt x ≤ 1048576) (hl0 : (Ty.slice tTxn).wt l0 ≤ 1048576) (ht : tTxn.wt t ≤ 1048576) (k) : impl_ReadyDanger_2_k x l0 t.1 t.2.1 t.2.2.1 t.2.2.2.1 t.2.2.2.2.1 t.2.2.2.2.2.1 t.2.2.2.2.2.2.1 t.2.2.2.2.2.2.2 k = k (dG l0 t x, l0, t.1, t.2.1, t.2.2.1, t.2.2.2.1, t.2.2.2.2.1, t.2.2.2.2.2.1, t.2.2.2.2.2.2.1, t.2.2.2.2.2.2.2) := by
  rw [impl_ReadyDanger_2_e]
  unfold impl_ReadyDanger_2_d dG
  simp only [pair_eta, impl_ReadyDanger_1_is hx ht, impl_some_ReadyDanger_2_1_is ht hx hl0]
  cases dE t x <;> cases (l0.any fun y => dF t x y) <;> rfl

theorem slices_IndexFunc_Txn_ReadyDanger_2_w0_is {u0 u1} {l0 : List tTxn.D} {t : tTxn.D} (hl0 : (Ty.slice tTxn).wt l0 ≤ 1048576) (ht : tTxn.wt t ≤ 1048576) : ∀ (l : List tTxn.D) (i : Nat), (∀ y ∈ l, tTxn.wt y ≤ 1048576) → ∃ a : Nat, ∃ b : Int, ∀ k,
    slices_IndexFunc_Txn_ReadyDanger_2_w0 u0 u1 l l0 t.1 t.2.1 t.2.2.1 t.2.2.2.1 t.2.2.2.2.1 t.2.2.2.2.2.1 t.2.2.2.2.2.2.1 t.2.2.2.2.2.2.2 i k = k (bif l.any (fun x => dG l0 t x) then .inl ((a : Int), b, l0, t.1, t.2.1, t.2.2.1, t.2.2.2.1, t.2.2.2.2.1, t.2.2.2.2.2.1, t.2.2.2.2.2.2.1, t.2.2.2.2.2.2.2) else .inr (b, l0, t.1, t.2.1, t.2.2.1, t.2.2.2.1, t.2.2.2.2.1, t.2.2.2.2.2.1, t.2.2.2.2.2.2.1, t.2.2.2.2.2.2.2))
  | [], i, _ => ⟨0, _, fun k => rfl⟩
  | y :: l, i, h => by
    obtain ⟨a, b, hab⟩ := slices_IndexFunc_Txn_ReadyDanger_2_w0_is (u0 := u0) (u1 := u1) hl0 ht l (i + 1) (fun y hy => h y (by simp [hy]))
    simp only [slices_IndexFunc_Txn_ReadyDanger_2_w0, impl_ReadyDanger_2_is (h y (by simp)) hl0 ht, hab, List.any_cons]
    cases dG l0 t y
    · exact ⟨a, b, fun k => rfl⟩
    · exact ⟨i, (i : Int), fun k => rfl⟩

theorem impl_some_ReadyDanger_2_is {l0 : List tTxn.D} {t : tTxn.D} (hl0 : (Ty.slice tTxn).wt l0 ≤ 1048576) (ht : tTxn.wt t ≤ 1048576) {l : List tTxn.D} (hl : (Ty.slice tTxn).wt l ≤ 1048576) (k) : impl_some_ReadyDanger_2_k l l0 t.1 t.2.1 t.2.2.1 t.2.2.2.1 t.2.2.2.2.1 t.2.2.2.2.2.1 t.2.2.2.2.2.2.1 t.2.2.2.2.2.2.2 k = k ((l.any fun x => dG l0 t x), l0, t.1, t.2.1, t.2.2.1, t.2.2.2.1, t.2.2.2.2.1, t.2.2.2.2.2.1, t.2.2.2.2.2.2.1, t.2.2.2.2.2.2.2) := by
  have hlen := len_le hl
  obtain ⟨a, b, hab⟩ := slices_IndexFunc_Txn_ReadyDanger_2_w0_is (u0 := l) (u1 := 0) hl0 ht l 0 (fun y hy => wt_mem_le hy hl)
  rw [impl_some_ReadyDanger_2_e]
  unfold impl_some_ReadyDanger_2_d
  rw [slices_ContainsFunc_Txn_ReadyDanger_2_e]
  unfold slices_ContainsFunc_Txn_ReadyDanger_2_d
  rw [slices_IndexFunc_Txn_ReadyDanger_2_r (by omega)]
  unfold slices_IndexFunc_Txn_ReadyDanger_2_t
  rw [hab]
  cases (l.any fun x => dG l0 t x)
  · rfl
  · have : decide ((a : Int) ≥ 0) = true := by simp
    simp only [cond_true, Sum.elim_inl, this]


def dangerB (t : tTxn.D) (l : List tTxn.D) : Bool := ((l.any fun x => inOfB t x) && (l.any fun x => outOfB t x)) || (l.any fun x => dA t x) || (l.any fun x => dC t l x)
def readyDangerB (t : tTxn.D) (l : List tTxn.D) : Bool := dangerB t l || ((l.any fun x => inOfB t x) && (l.any fun x => dE t x)) || (l.any fun x => dG l t x)

theorem impl_Danger_is {t : tTxn.D} {l : List tTxn.D} (ht : tTxn.wt t ≤ 1048576) (hl : (Ty.slice tTxn).wt l ≤ 1048576) (k) : impl_Danger_k t l k = k (dangerB t l) := by
  rw [impl_Danger_e]
  unfold impl_Danger_d dangerB
  simp only [impl_InOf_is ht hl, impl_OutOf_is ht hl, impl_Danger_j5000003, impl_some_Danger_1_is ht hl, impl_some_Danger_2_is ht hl hl]
  cases (l.any fun x => inOfB t x) <;> cases (l.any fun x => outOfB t x) <;> cases (l.any fun x => dA t x) <;> cases (l.any fun x => dC t l x) <;> rfl

theorem impl_ReadyDanger_is {t : tTxn.D} {l : List tTxn.D} (ht : tTxn.wt t ≤ 1048576) (hl : (Ty.slice tTxn).wt l ≤ 1048576) (k) : impl_ReadyDanger_k t l k = k (readyDangerB t l) := by
  rw [impl_ReadyDanger_e]
  unfold impl_ReadyDanger_d readyDangerB
  simp only [impl_Danger_is ht hl, impl_InOf_is ht hl, impl_some_ReadyDanger_1_is ht hl, impl_some_ReadyDanger_2_is hl ht hl]
  cases dangerB t l <;> cases (l.any fun x => inOfB t x) <;> cases (l.any fun x => dE t x) <;> cases (l.any fun x => dG l t x) <;> rfl


def sD (t : tTxn.D) (l0 : List tTxn.D) (y : tTxn.D) : Bool := (y.2.1 == 2) && aheadB y t && (aheadB t y || l0.any fun q => (q.2.1 == 2) && (q.1 != t.1) && aheadB q y)

theorem spec_Danger_b2_off {l0 : List tTxn.D} {b : Bool} {i : Int} {t p : tTxn.D} (ht : tTxn.wt t ≤ 1048576) (hp : tTxn.wt p ≤ 1048576) (hc : ((p.2.1 == 2) && aheadB p t) = false) (kk : Nat) (q : Nat) (K) :
    loopK spec_Danger_b2 (q + 1) (l0, b, i, (kk : Int), t.1, t.2.1, t.2.2.1, t.2.2.2.1, t.2.2.2.2.1, t.2.2.2.2.2.1, t.2.2.2.2.2.2.1, t.2.2.2.2.2.2.2, p) K = K (.inl (l0, b, i, (kk : Int), t.1, t.2.1, t.2.2.1, t.2.2.2.1, t.2.2.2.2.1, t.2.2.2.2.2.1, t.2.2.2.2.2.2.1, t.2.2.2.2.2.2.2, p)) := by
  simp only [loopK, spec_Danger_b2, pair_eta, spec_Ahead_is hp ht]
  cases h1 : (p.2.1 == 2)
  · cases decide ((kk : Int) < (l0.length : Int)) <;> rfl
  · rw [h1, Bool.true_and] at hc
    simp only [hc, cond_false, cond_true]
    cases decide ((kk : Int) < (l0.length : Int)) <;> rfl

theorem spec_Danger_b2_on {l0 : List tTxn.D} (hl : l0.length ≤ 1048576) (hw : ∀ y ∈ l0, tTxn.wt y ≤ 1048576) {b : Bool} {i : Int} {t p : tTxn.D} (ht : tTxn.wt t ≤ 1048576) (hp : tTxn.wt p ≤ 1048576) (hc : ((p.2.1 == 2) && aheadB p t) = true) : ∀ (l : List tTxn.D) (kk : Nat) (q : Nat), l0.drop kk = l → l.length < q → ∃ j : Int, ∀ K,
    loopK spec_Danger_b2 q (l0, b, i, (kk : Int), t.1, t.2.1, t.2.2.1, t.2.2.2.1, t.2.2.2.2.1, t.2.2.2.2.2.1, t.2.2.2.2.2.2.1, t.2.2.2.2.2.2.2, p) K = K (bif l.any (fun q => (q.2.1 == 2) && (q.1 != t.1) && aheadB q p) then .inr (l0, true, i, j, t.1, t.2.1, t.2.2.1, t.2.2.2.1, t.2.2.2.2.1, t.2.2.2.2.2.1, t.2.2.2.2.2.2.1, t.2.2.2.2.2.2.2, p) else .inl (l0, b, i, j, t.1, t.2.1, t.2.2.1, t.2.2.2.1, t.2.2.2.2.1, t.2.2.2.2.2.1, t.2.2.2.2.2.2.1, t.2.2.2.2.2.2.2, p))
  | l, kk, 0, _, h => by omega
  | [], kk, q + 1, hd, _ => by
    have hge := lwl_nil hd
    refine ⟨(kk : Int), fun K => ?_⟩
    simp only [loopK, spec_Danger_b2, hge, decide_false, cond_false, Sum.elim_inr]
    rfl
  | y :: l, kk, q + 1, hd, hq => by
    have hlt := drop_lt hd
    have hy := (lwl_get hd).1
    have hm := hw y (mem_of_drop hd)
    rw [Bool.and_eq_true] at hc
    obtain ⟨j, hj⟩ := spec_Danger_b2_on hl hw ht hp (by rw [hc.1, hc.2]; rfl) (b := b) (i := i) l (kk + 1) q (drop_succ hd) (by simpa using hq)
    have hw1 : IntKind.wrap .i64 ((kk : Int) + 1) = ((kk + 1 : Nat) : Int) := wrap_succ (by omega)
    simp only [loopK, spec_Danger_b2, spec_Danger_j6000003, show (kk : Int) < (l0.length : Int) by omega, show (0 : Int) ≤ (kk : Int) by omega, and_self, if_true, decide_true, cond_true, pair_eta, spec_Ahead_is hp ht, hc.1, hc.2, hy, spec_Ahead_is hm hp, hw1, List.any_cons]
    cases (y.2.1 == 2)
    · refine ⟨j, fun K => ?_⟩
      simp only [Bool.false_and, Bool.false_or, cond_false, Sum.elim_inl]
      exact hj K
    · cases (y.1 != t.1)
      · refine ⟨j, fun K => ?_⟩
        simp only [Bool.false_and, Bool.and_false, Bool.false_or, cond_false, cond_true, Sum.elim_inl]
        exact hj K
      · cases aheadB y p
        · refine ⟨j, fun K => ?_⟩
          simp only [Bool.and_false, Bool.false_or, cond_false, cond_true, Sum.elim_inl]
          exact hj K
        · exact ⟨(kk : Int), fun K => rfl⟩

theorem spec_Danger_j9 {l0 : List tTxn.D} (hl : l0.length ≤ 1048576) (hw : ∀ y ∈ l0, tTxn.wt y ≤ 1048576) {i : Int} {t p : tTxn.D} (ht : tTxn.wt t ≤ 1048576) (hp : tTxn.wt p ≤ 1048576) (K) :
    spec_Danger_j5000009 (l0, false, i, t.1, t.2.1, t.2.2.1, t.2.2.2.1, t.2.2.2.2.1, t.2.2.2.2.2.1, t.2.2.2.2.2.2.1, t.2.2.2.2.2.2.2, p) K = K (bif sD t l0 p then .inl (l0, true, i, t.1, t.2.1, t.2.2.1, t.2.2.2.1, t.2.2.2.2.1, t.2.2.2.2.2.1, t.2.2.2.2.2.2.1, t.2.2.2.2.2.2.2, p) else .inr (l0, false, i, t.1, t.2.1, t.2.2.1, t.2.2.2.1, t.2.2.2.2.1, t.2.2.2.2.2.1, t.2.2.2.2.2.2.1, t.2.2.2.2.2.2.2, p)) := by
  simp only [spec_Danger_j5000009, spec_Danger_j5000011, pair_eta, spec_Ahead_is hp ht, spec_Ahead_is ht hp]
  obtain ⟨q, hq⟩ : ∃ q, Fuel = q + 1 := ⟨Fuel - 1, by have := fuel_big; omega⟩
  cases hc : ((p.2.1 == 2) && aheadB p t)
  · have h0 := spec_Danger_b2_off (l0 := l0) (b := false) (i := i) ht hp hc 0 q
    have hz : ((0 : Nat) : Int) = 0 := rfl
    rw [hz] at h0
    have hs : sD t l0 p = false := by unfold sD; rw [hc]; rfl
    simp only [hq, h0, Sum.elim_inl, Sum.elim_inr, hs, cond_false]
    revert hc
    cases (p.2.1 == 2) <;> cases aheadB p t <;> intro hc <;> first | rfl | cases hc
  · obtain ⟨j, hj⟩ := spec_Danger_b2_on hl hw (b := false) (i := i) ht hp hc l0 0 Fuel rfl (Nat.lt_of_lt_of_le (by omega) fuel_big)
    have hz : ((0 : Nat) : Int) = 0 := rfl
    rw [hz] at hj
    have hs : sD t l0 p = (aheadB t p || l0.any fun q => (q.2.1 == 2) && (q.1 != t.1) && aheadB q p) := by unfold sD; rw [hc, Bool.true_and]
    rw [Bool.and_eq_true] at hc
    simp only [hc.1, hc.2, cond_true, hj, hs]
    cases aheadB t p
    · cases (l0.any fun q => (q.2.1 == 2) && (q.1 != t.1) && aheadB q p) <;> rfl
    · rfl

theorem spec_Danger_b0_is {l0 : List tTxn.D} (hl : l0.length ≤ 1048576) (hw : ∀ y ∈ l0, tTxn.wt y ≤ 1048576) {t : tTxn.D} (ht : tTxn.wt t ≤ 1048576) : ∀ (l : List tTxn.D) (i : Nat) (q : Nat), l0.drop i = l → l.length < q → ∃ j : Int, ∀ K,
    loopK spec_Danger_b0 q (l0, false, (i : Int), t) K = K (bif l.any (fun y => dA t y || sD t l0 y) then .inl (l0, true, j, t) else .inr (l0, false, j, t))
  | l, i, 0, _, h => by omega
  | [], i, q + 1, hd, _ => by
    have hge := lwl_nil hd
    refine ⟨(i : Int), fun K => ?_⟩
    simp only [loopK, spec_Danger_b0, hge, decide_false, cond_false, Sum.elim_inr]
    rfl
  | y :: l, i, q + 1, hd, hq => by
    have hlt := drop_lt hd
    have hy := (lwl_get hd).1
    have hm := hw y (mem_of_drop hd)
    obtain ⟨j, hj⟩ := spec_Danger_b0_is hl hw ht l (i + 1) q (drop_succ hd) (by simpa using hq)
    have hw1 : IntKind.wrap .i64 ((i : Int) + 1) = ((i + 1 : Nat) : Int) := wrap_succ (by omega)
    have h9 := fun K => spec_Danger_j9 hl hw (i := (i : Int)) ht hm K
    simp only [loopK, spec_Danger_b0, show (i : Int) < (l0.length : Int) by omega, show (0 : Int) ≤ (i : Int) by omega, and_self, if_true, decide_true, cond_true, pair_eta, spec_Ahead_is ht hm, hy, h9, List.any_cons, dA]
    cases h2 : (y.2.1 == 2)
    · cases h3 : (y.2.1 == 3)
      · cases sD t l0 y
        · refine ⟨j, fun K => ?_⟩
          simp only [Bool.false_or, Bool.false_and, cond_false, Sum.elim_inl, Sum.elim_inr, hw1]
          exact hj K
        · exact ⟨(i : Int), fun K => rfl⟩
      · cases y.2.2.2.2.2.2.1
        · cases sD t l0 y
          · refine ⟨j, fun K => ?_⟩
            simp only [Bool.false_or, Bool.or_true, Bool.true_and, Bool.and_false, Bool.false_and, cond_true, cond_false, Sum.elim_inl, Sum.elim_inr, hw1]
            exact hj K
          · exact ⟨(i : Int), fun K => rfl⟩
        · cases aheadB t y
          · cases sD t l0 y
            · refine ⟨j, fun K => ?_⟩
              simp only [Bool.false_or, Bool.or_true, Bool.true_and, Bool.and_false, Bool.false_and, cond_true, cond_false, Sum.elim_inl, Sum.elim_inr, hw1]
              exact hj K
            · exact ⟨(i : Int), fun K => rfl⟩
          · exact ⟨(i : Int), fun K => rfl⟩
    · cases y.2.2.2.2.2.2.1
      · cases sD t l0 y
        · refine ⟨j, fun K => ?_⟩
          simp only [Bool.false_or, Bool.true_or, Bool.true_and, Bool.and_false, Bool.false_and, cond_true, cond_false, Sum.elim_inl, Sum.elim_inr, hw1]
          exact hj K
        · exact ⟨(i : Int), fun K => rfl⟩
      · cases aheadB t y
        · cases sD t l0 y
          · refine ⟨j, fun K => ?_⟩
            simp only [Bool.false_or, Bool.true_or, Bool.true_and, Bool.and_false, Bool.false_and, cond_true, cond_false, Sum.elim_inl, Sum.elim_inr, hw1]
            exact hj K
          · exact ⟨(i : Int), fun K => rfl⟩
        · exact ⟨(i : Int), fun K => rfl⟩

def specDangerB (t : tTxn.D) (l : List tTxn.D) : Bool := ((l.any fun x => inOfB t x) && (l.any fun x => outOfB t x)) || l.any fun y => dA t y || sD t l y

theorem spec_Danger_is {t : tTxn.D} {l : List tTxn.D} (ht : tTxn.wt t ≤ 1048576) (hl : (Ty.slice tTxn).wt l ≤ 1048576) (k) : spec_Danger_k t l k = k (specDangerB t l) := by
  have hlen := len_le hl
  obtain ⟨j, hj⟩ := spec_Danger_b0_is hlen (fun y hy => wt_mem_le hy hl) ht l 0 Fuel rfl (Nat.lt_of_lt_of_le (by omega) fuel_big)
  have hz : ((0 : Nat) : Int) = 0 := rfl
  rw [hz] at hj
  rw [spec_Danger_e]
  unfold spec_Danger_d specDangerB
  simp only [spec_InOf_is ht hl, spec_OutOf_is ht hl, spec_Danger_j5000003, pair_eta, hj]
  cases (l.any fun x => inOfB t x) <;> cases (l.any fun x => outOfB t x) <;> cases (l.any fun y => dA t y || sD t l y) <;> rfl

theorem spec_ReadyDanger_w2_is {u0 u1 u2 u3} {t p : tTxn.D} (hp : tTxn.wt p ≤ 1048576) : ∀ (l : List tTxn.D) (i : Nat), (∀ y ∈ l, tTxn.wt y ≤ 1048576) → ∃ j : Int, ∀ k,
    spec_ReadyDanger_w2 u0 u1 u2 u3 t.1 t.2.1 t.2.2.1 t.2.2.2.1 t.2.2.2.2.1 t.2.2.2.2.2.1 t.2.2.2.2.2.2.1 t.2.2.2.2.2.2.2 p.1 p.2.1 p.2.2.1 p.2.2.2.1 p.2.2.2.2.1 p.2.2.2.2.2.1 p.2.2.2.2.2.2.1 p.2.2.2.2.2.2.2 l i k = k (bif l.any (fun y => dF t p y) then .inl (true, j) else .inr j)
  | [], i, _ => ⟨_, fun k => rfl⟩
  | y :: l, i, h => by
    obtain ⟨j, hj⟩ := spec_ReadyDanger_w2_is (u0 := u0) (u1 := u1) (u2 := u2) (u3 := u3) (t := t) hp l (i + 1) (fun y hy => h y (by simp [hy]))
    simp only [spec_ReadyDanger_w2, pair_eta, spec_Ahead_is hp (h y (by simp)), hj, List.any_cons, dF]
    cases (y.2.1 == 2) <;> cases (y.1 != t.1) <;> cases aheadB p y <;> first | exact ⟨j, fun k => rfl⟩ | exact ⟨(i : Int), fun k => rfl⟩

theorem spec_ReadyDanger_w0_is {u0 : List tTxn.D} (hu : ∀ y ∈ u0, tTxn.wt y ≤ 1048576) {u1 u2} {t : tTxn.D} (ht : tTxn.wt t ≤ 1048576) : ∀ (l : List tTxn.D) (i : Nat), (∀ y ∈ l, tTxn.wt y ≤ 1048576) → ∃ j : Int, ∀ k,
    spec_ReadyDanger_w0 u0 u1 u2 t.1 t.2.1 t.2.2.1 t.2.2.2.1 t.2.2.2.2.1 t.2.2.2.2.2.1 t.2.2.2.2.2.2.1 t.2.2.2.2.2.2.2 l i k = k (bif l.any (fun y => dE t y && (u2 || u0.any fun q => dF t y q)) then .inr (true, j) else .inl j)
  | [], i, _ => ⟨_, fun k => rfl⟩
  | y :: l, i, h => by
    obtain ⟨j, hj⟩ := spec_ReadyDanger_w0_is hu (u1 := u1) (u2 := u2) ht l (i + 1) (fun y hy => h y (by simp [hy]))
    have hy := h y (by simp)
    obtain ⟨j2, hj2⟩ := spec_ReadyDanger_w2_is (u0 := u0) (u1 := u1) (u2 := u2) (u3 := (i : Int)) (t := t) hy u0 0 hu
    have hb : (y.2.1 != 2) = !(y.2.1 == 2) := rfl
    simp only [spec_ReadyDanger_w0, spec_ReadyDanger_wj5000009, pair_eta, spec_Ahead_is ht hy, hj, hj2, List.any_cons, dE, hb]
    cases (y.2.1 == 2) <;> cases aheadB t y <;> cases u2 <;> cases (u0.any fun q => dF t y q) <;> first | exact ⟨j, fun k => rfl⟩ | exact ⟨(i : Int), fun k => rfl⟩

def specReadyDangerB (t : tTxn.D) (l : List tTxn.D) : Bool := specDangerB t l || l.any fun y => dE t y && ((l.any fun x => inOfB t x) || l.any fun q => dF t y q)

theorem spec_ReadyDanger_is {t : tTxn.D} {l : List tTxn.D} (ht : tTxn.wt t ≤ 1048576) (hl : (Ty.slice tTxn).wt l ≤ 1048576) (k) : spec_ReadyDanger_k t l k = k (specReadyDangerB t l) := by
  have hlen := len_le hl
  rw [spec_ReadyDanger_r (by omega)]
  unfold spec_ReadyDanger_t specReadyDangerB
  obtain ⟨j, hj⟩ := spec_ReadyDanger_w0_is (u0 := l) (fun y hy => wt_mem_le hy hl) (u1 := false) (u2 := l.any fun x => inOfB t x) ht l 0 (fun y hy => wt_mem_le hy hl)
  simp only [spec_Danger_is ht hl, spec_InOf_is ht hl, hj]
  cases specDangerB t l
  · cases (l.any fun y => dE t y && ((l.any fun x => inOfB t x) || l.any fun q => dF t y q)) <;> rfl
  · rfl


theorem any_or {α : Type} (f g : α → Bool) : ∀ l : List α, (l.any fun x => f x || g x) = ((l.any f) || (l.any g))
  | [] => rfl
  | y :: l => by
    simp only [List.any_cons, any_or f g l]
    cases f y <;> cases g y <;> cases l.any f <;> cases l.any g <;> rfl
theorem any_and_const {α : Type} (f : α → Bool) (c : Bool) : ∀ l : List α, (l.any fun x => f x && c) = (l.any f && c)
  | [] => rfl
  | y :: l => by
    simp only [List.any_cons, any_and_const f c l]
    cases f y <;> cases l.any f <;> cases c <;> rfl
theorem any_congr' {α : Type} {f g : α → Bool} : ∀ {l : List α}, (∀ x ∈ l, f x = g x) → l.any f = l.any g
  | [], _ => rfl
  | y :: l, h => by
    simp only [List.any_cons, h y (by simp), any_congr' (l := l) (fun x hx => h x (by simp [hx]))]

theorem danger_same {t : tTxn.D} {l : List tTxn.D} (h : ∀ y ∈ l, (y.1 != t.1) = true) : dangerB t l = specDangerB t l := by
  unfold dangerB specDangerB
  have : (l.any fun y => dA t y || sD t l y) = ((l.any fun x => dA t x) || (l.any fun x => dC t l x)) := by
    rw [any_or]
    congr 1
    apply any_congr'
    intro x _
    unfold sD dC
    congr 2
    apply any_congr'
    intro q hq
    unfold dB
    rw [h q hq, Bool.and_true]
  rw [this, Bool.or_assoc]

theorem readyDanger_same {t : tTxn.D} {l : List tTxn.D} (h : ∀ y ∈ l, (y.1 != t.1) = true) : readyDangerB t l = specReadyDangerB t l := by
  unfold readyDangerB specReadyDangerB
  rw [danger_same h]
  have : (l.any fun y => dE t y && ((l.any fun x => inOfB t x) || l.any fun q => dF t y q)) = (((l.any fun x => inOfB t x) && (l.any fun x => dE t x)) || (l.any fun x => dG l t x)) := by
    have e : (fun y => dE t y && ((l.any fun x => inOfB t x) || l.any fun q => dF t y q)) = (fun y => (dE t y && (l.any fun x => inOfB t x)) || dG l t y) := by
      funext y
      unfold dG
      cases dE t y <;> rfl
    rw [e, any_or (fun y => dE t y && (l.any fun x => inOfB t x)) (fun y => dG l t y), any_and_const, Bool.and_comm]
  rw [this, Bool.or_assoc]

end
end Go.VE
