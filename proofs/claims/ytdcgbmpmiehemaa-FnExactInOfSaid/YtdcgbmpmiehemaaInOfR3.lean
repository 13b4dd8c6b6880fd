/- Plain laws: one of a list that passes a test; what is seen; the oldest. -/
import Derived.Test.YtdcgbmpmiehemaaInOfR1
namespace Go.VE
noncomputable section
set_option linter.unusedVariables false
set_option linter.unusedSimpArgs false
set_option maxRecDepth 100000

theorem impl_isReady_is (x : tTxn.D) (k) : impl_isReady_k x k = k (x.2.1 == 2) := by rw [impl_isReady_e]; rfl
theorem impl_isDone_is (x : tTxn.D) (k) : impl_isDone_k x k = k (x.2.1 == 3) := by rw [impl_isDone_e]; rfl

def blockedB (t x : tTxn.D) : Bool := (x.1 != t.1) && ((x.2.1 == 2) || ((x.2.1 == 3) && decide (x.2.2.2.1 > t.2.2.1))) && meetsB x.2.2.2.2.2.1 t.2.2.2.2.2.1
def outOfB (t x : tTxn.D) : Bool := (x.2.1 == 3) && aheadB t x
def inOfB (t x : tTxn.D) : Bool := ((x.2.1 == 2) || (x.2.1 == 3)) && aheadB x t


theorem impl_InOf_1_is {x t : tTxn.D} (hx : tTxn.wt x ≤ 1048576) (ht : tTxn.wt t ≤ 1048576) (k) : impl_InOf_1_k x t.1 t.2.1 t.2.2.1 t.2.2.2.1 t.2.2.2.2.1 t.2.2.2.2.2.1 t.2.2.2.2.2.2.1 t.2.2.2.2.2.2.2 k = k (inOfB t x, t.1, t.2.1, t.2.2.1, t.2.2.2.1, t.2.2.2.2.1, t.2.2.2.2.2.1, t.2.2.2.2.2.2.1, t.2.2.2.2.2.2.2) := by
  rw [impl_InOf_1_e]
  unfold impl_InOf_1_d inOfB
  simp only [impl_isReady_is, impl_isDone_is, pair_eta, impl_Ahead_is hx ht]
  cases (x.2.1 == 2) <;> cases (x.2.1 == 3) <;> cases aheadB x t <;> rfl

theorem slices_IndexFunc_Txn_InOf_1_w0_is {u0 u1} {t : tTxn.D} (ht : tTxn.wt t ≤ 1048576) : ∀ (l : List tTxn.D) (i : Nat), (∀ y ∈ l, tTxn.wt y ≤ 1048576) → ∃ a : Nat, ∃ b : Int, ∀ k,
    slices_IndexFunc_Txn_InOf_1_w0 u0 u1 l t.1 t.2.1 t.2.2.1 t.2.2.2.1 t.2.2.2.2.1 t.2.2.2.2.2.1 t.2.2.2.2.2.2.1 t.2.2.2.2.2.2.2 i k = k (bif l.any (fun x => inOfB t x) then .inl ((a : Int), b, t.1, t.2.1, t.2.2.1, t.2.2.2.1, t.2.2.2.2.1, t.2.2.2.2.2.1, t.2.2.2.2.2.2.1, t.2.2.2.2.2.2.2) else .inr (b, t.1, t.2.1, t.2.2.1, t.2.2.2.1, t.2.2.2.2.1, t.2.2.2.2.2.1, t.2.2.2.2.2.2.1, t.2.2.2.2.2.2.2))
  | [], i, _ => ⟨0, _, fun k => rfl⟩
  | y :: l, i, h => by
    obtain ⟨a, b, hab⟩ := slices_IndexFunc_Txn_InOf_1_w0_is (u0 := u0) (u1 := u1) ht l (i + 1) (fun y hy => h y (by simp [hy]))
    simp only [slices_IndexFunc_Txn_InOf_1_w0, impl_InOf_1_is (h y (by simp)) ht, hab, List.any_cons]
    cases inOfB t y
    · exact ⟨a, b, fun k => rfl⟩
    · exact ⟨i, (i : Int), fun k => rfl⟩

theorem impl_InOf_is {t : tTxn.D} {l : List tTxn.D} (ht : tTxn.wt t ≤ 1048576) (hl : (Ty.slice tTxn).wt l ≤ 1048576) (k) : impl_InOf_k t l k = k (l.any fun x => inOfB t x) := by
  have hlen := len_le hl
  obtain ⟨a, b, hab⟩ := slices_IndexFunc_Txn_InOf_1_w0_is (u0 := l) (u1 := 0) ht l 0 (fun y hy => wt_mem_le hy hl)
  rw [impl_InOf_e]
  unfold impl_InOf_d
  rw [impl_some_InOf_1_e]
  unfold impl_some_InOf_1_d
  rw [slices_ContainsFunc_Txn_InOf_1_e]
  unfold slices_ContainsFunc_Txn_InOf_1_d
  rw [slices_IndexFunc_Txn_InOf_1_r (by omega)]
  unfold slices_IndexFunc_Txn_InOf_1_t
  rw [hab]
  cases (l.any fun x => inOfB t x)
  · rfl
  · have : decide ((a : Int) ≥ 0) = true := by simp
    simp only [cond_true, Sum.elim_inl, this]

theorem spec_InOf_w0_is {u0 u1} {t : tTxn.D} (ht : tTxn.wt t ≤ 1048576) : ∀ (l : List tTxn.D) (i : Nat), (∀ y ∈ l, tTxn.wt y ≤ 1048576) → ∃ j : Int, ∀ k,
    spec_InOf_w0 u0 u1 t.1 t.2.1 t.2.2.1 t.2.2.2.1 t.2.2.2.2.1 t.2.2.2.2.2.1 t.2.2.2.2.2.2.1 t.2.2.2.2.2.2.2 l i k = k (bif l.any (fun x => inOfB t x) then .inl (true, j) else .inr j)
  | [], i, _ => ⟨_, fun k => rfl⟩
  | x :: l, i, h => by
    obtain ⟨j, hj⟩ := spec_InOf_w0_is (u0 := u0) (u1 := u1) ht l (i + 1) (fun y hy => h y (by simp [hy]))
    have hx := h x (by simp)
    simp only [spec_InOf_w0, pair_eta, spec_Ahead_is hx ht, hj, List.any_cons, inOfB]
    cases (x.2.1 == 2) <;> cases (x.2.1 == 3) <;> cases aheadB x t <;> first | exact ⟨j, fun k => rfl⟩ | exact ⟨(i : Int), fun k => rfl⟩

theorem spec_InOf_is {t : tTxn.D} {l : List tTxn.D} (ht : tTxn.wt t ≤ 1048576) (hl : (Ty.slice tTxn).wt l ≤ 1048576) (k) : spec_InOf_k t l k = k (l.any fun x => inOfB t x) := by
  have hlen := len_le hl
  rw [spec_InOf_r (by omega)]
  unfold spec_InOf_t
  obtain ⟨j, hj⟩ := spec_InOf_w0_is (u0 := l) (u1 := false) ht l 0 (fun y hy => wt_mem_le hy hl)
  rw [hj]
  cases (l.any fun x => inOfB t x) <;> rfl

/-! ### what is seen -/

def zV : tVersion.D := Ty.zero tVersion
def lastAtF (u0 : List tVersion.D) (key : ByteArray) (snap : Int) : List tVersion.D → Int → Nat → Int
  | [], s, _ => s
  | y :: l, s, i => bif strEq y.1 key && (decide (y.2.2.2 ≤ snap) && (decide (s < 0) || decide (y.2.2.2 > (rd zV u0 s).2.2.2))) then lastAtF u0 key snap l (i : Int) (i + 1) else lastAtF u0 key snap l s (i + 1)
def lastAtB (xs : List tVersion.D) (key : ByteArray) (snap : Int) : Int := lastAtF xs key snap xs (-1) 0


theorem lastAtF_bound {u0 : List tVersion.D} {key : ByteArray} {snap : Int} : ∀ (l : List tVersion.D) (s : Int) (i : Nat), i + l.length ≤ u0.length → (s < 0 ∨ 0 ≤ s ∧ s < (u0.length : Int)) → (lastAtF u0 key snap l s i < 0 ∨ 0 ≤ lastAtF u0 key snap l s i ∧ lastAtF u0 key snap l s i < (u0.length : Int))
  | [], s, i, _, hs => hs
  | y :: l, s, i, h, hs => by
    simp only [List.length_cons] at h
    simp only [lastAtF]
    cases (strEq y.1 key && (decide (y.2.2.2 ≤ snap) && (decide (s < 0) || decide (y.2.2.2 > (rd zV u0 s).2.2.2))))
    · exact lastAtF_bound l s (i + 1) (by omega) hs
    · exact lastAtF_bound l (i : Int) (i + 1) (by omega) (.inr (by omega))

theorem lastAtB_bound (xs : List tVersion.D) (key : ByteArray) (snap : Int) : lastAtB xs key snap < 0 ∨ 0 ≤ lastAtB xs key snap ∧ lastAtB xs key snap < (xs.length : Int) :=
  lastAtF_bound xs (-1) 0 (by omega) (.inl (by omega))

def seenAtB (xs : List tVersion.D) (key : ByteArray) (snap : Int) : ByteArray × Bool :=
  bif decide (lastAtB xs key snap < 0) then (⟨#[]⟩, false) else bif (rd zV xs (lastAtB xs key snap)).2.2.1 then (⟨#[]⟩, false) else ((rd zV xs (lastAtB xs key snap)).2.1, true)


def ownGetB (t : tTxn.D) (xs : List tVersion.D) (key : ByteArray) : ByteArray × Bool :=
  match t.2.2.2.2.2.1.find? fun w => strEq w.1 key with
  | some w => bif w.2.2 then (⟨#[]⟩, false) else (w.2.1, true)
  | none => seenAtB xs key t.2.2.1

def oldestB (n : Int) (l : List tTxn.D) : Int := l.foldl (fun s y => if y.2.2.1 < s then y.2.2.1 else s) n
theorem fuel_succ : ∃ n, Fuel = n + 1 := ⟨Fuel - 1, by have := fuel_big; omega⟩
end
end Go.VE
