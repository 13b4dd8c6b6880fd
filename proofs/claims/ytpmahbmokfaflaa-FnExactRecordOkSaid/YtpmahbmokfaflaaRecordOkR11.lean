/- Plain laws: an engine and a record are right. -/
import Derived.Test.YtpmahbmokfaflaaRecordOkR10
namespace Go.VE
noncomputable section
set_option linter.unusedVariables false
set_option linter.unusedSimpArgs false
set_option maxRecDepth 100000

theorem slices_Concat_Txn_is3 {a b c : List tTxn.D} (ha : a.length ≤ 1048577) (hb : b.length ≤ 1048577) (hc : c.length ≤ 1048577) (k) : slices_Concat_Txn_k [a, b, c] k = k (a ++ (b ++ c)) := by
  rw [slices_Concat_Txn_r (by simp)]
  unfold slices_Concat_Txn_t
  obtain ⟨j, hj⟩ := concat_w0 (u0 := [a, b, c]) (u2 := [a, b, c]) (α := Unit) [a, b, c] 0 0 (by omega) (by simp; omega)
  rw [hj]
  have hg : ∀ n : Int, 0 ≤ n → n ≤ 100000000 → ∀ k, slices_Grow_Txn_vn_k n k = k [] := by
    intro n h0 h1 k
    rw [slices_Grow_Txn_vn_e]
    unfold slices_Grow_Txn_vn_d
    have e0 : IntKind.wrap .i64 ((0 : Int) - 0) = 0 := wrap64 (by omega) (by omega)
    have e1 : IntKind.wrap .i64 (n - 0) = n := by rw [wrap64 (by omega) (by omega)]; omega
    simp only [e0, e1, show decide (n < 0) = false by simp; omega, cond_false]
    by_cases hn : n > 0
    · have e3 : 0 ≤ n ∧ n ≤ (VE.maxLen : Int) := ⟨h0, by show n ≤ 4294967296; omega⟩
      simp only [hn, decide_true, cond_true]
      rw [if_pos (by omega), if_pos e3, if_pos ⟨by omega, by omega⟩]
      simp
    · simp only [hn, decide_false, cond_false]
  simp only [Int.zero_add]
  rw [hg _ (by omega) (by simp; omega)]
  obtain ⟨j2, hj2⟩ := concat_w2 (u0 := [a, b, c]) [a, b, c] [] 0 (by simp; omega)
  rw [hj2]
  simp

/-- What is open: right, numbers ascending. -/
def openFrom (cs : Int) : Option tTxn.D → List tTxn.D → Bool
  | _, [] => true
  | p, y :: l => txnOkB y && (y.2.1 == 1) && decide (y.2.2.1 ≤ cs) && (match p with | none => true | some x => decide (x.1 < y.1)) && openFrom cs (some y) l
def notIn (y : Int) (l : List tTxn.D) : Bool := !(l.any fun z => z.1 == y)
def openAll (cs nx : Int) (p r : List tTxn.D) : Option tTxn.D → List tTxn.D → Bool
  | _, [] => true
  | o, y :: l => txnOkB y && (y.2.1 == 1) && decide (y.1 < nx) && decide (y.2.2.1 ≤ cs) && (match o with | none => true | some x => decide (x.1 < y.1)) && notIn y.1 p && notIn y.1 r && openAll cs nx p r (some y) l

theorem idsFrom_append (nx : Int) : ∀ (A pre B : List Int), idsFrom nx pre (A ++ B) = (idsFrom nx pre A && idsFrom nx (pre ++ A) B)
  | [], pre, B => by simp [idsFrom]
  | y :: A, pre, B => by
    simp only [List.cons_append, idsFrom, idsFrom_append nx A (pre ++ [y]) B, List.append_assoc, List.nil_append, Bool.and_assoc]

theorem idsFrom_open (cs nx : Int) (P : List Int) : ∀ (l : List tTxn.D) (Q : List Int) (o : Option tTxn.D), (∀ x, o = some x → ∀ q ∈ Q, q ≤ x.1) → (o = none → Q = []) → openFrom cs o l = true →
    idsFrom nx (P ++ Q) (l.map (·.1)) = l.all (fun y => decide (y.1 < nx) && !(P.any fun z => z == y.1))
  | [], Q, o, _, _, _ => rfl
  | y :: l, Q, o, h1, h2, h => by
    simp only [openFrom, Bool.and_eq_true] at h
    have hQ : ∀ q ∈ Q, q < y.1 := by
      intro q hq
      cases o with
      | none => rw [h2 rfl] at hq; cases hq
      | some x =>
        have a1 := h1 x rfl q hq
        have a2 : x.1 < y.1 := of_decide_eq_true h.1.2
        exact Int.lt_of_le_of_lt a1 a2
    have hno : (Q.any fun z => z == y.1) = false := by
      rw [List.any_eq_false]
      intro q hq hc
      have a1 := hQ q hq
      have : q = y.1 := by simpa using hc
      omega
    have ih := idsFrom_open cs nx P l (Q ++ [y.1]) (some y) (fun x hx q hq => by
      cases hx
      rcases List.mem_append.1 hq with hq | hq
      · exact Int.le_of_lt (hQ q hq)
      · rw [List.mem_singleton] at hq; omega) (fun h => by cases h) h.2
    simp only [List.map_cons, idsFrom, List.all_cons, List.any_append, hno, Bool.or_false]
    rw [List.append_assoc, ih]

theorem openAll_is (cs nx : Int) (p r : List tTxn.D) : ∀ (l : List tTxn.D) (o : Option tTxn.D), openAll cs nx p r o l = (openFrom cs o l && l.all (fun y => decide (y.1 < nx) && !((p.map (·.1) ++ r.map (·.1)).any fun z => z == y.1)))
  | [], o => rfl
  | y :: l, o => by
    have e : (!((p.map (·.1) ++ r.map (·.1)).any fun z => z == y.1)) = (notIn y.1 p && notIn y.1 r) := by
      unfold notIn
      rw [List.any_append, List.any_map, List.any_map, Bool.not_or]; rfl
    simp only [openAll, openFrom, List.all_cons, openAll_is cs nx p r l (some y), e]
    generalize openFrom cs (some y) l = c1
    generalize (match o with | none => true | some x => decide (x.1 < y.1)) = c2
    generalize (l.all fun y => decide (y.1 < nx) && !((p.map (·.1) ++ r.map (·.1)).any fun z => z == y.1)) = c3
    cases txnOkB y <;> cases (y.2.1 == 1) <;> cases decide (y.1 < nx) <;> cases decide (y.2.2.1 ≤ cs) <;> cases c2 <;> cases notIn y.1 p <;> cases notIn y.1 r <;> cases c1 <;> cases c3 <;> rfl

def engineOkB (e : tEngine.D) : Bool := baseOkB e.1 && decide ((e.2.length : Int) ≤ 4) && openAll e.1.2.2.2.1 e.1.2.2.2.2 e.1.2.1 e.1.2.2.1 none e.2

def noTxnB (t : tTxn.D) : Bool := (t.1 == 0) && (t.2.1 == 0) && (t.2.2.1 == 0) && (t.2.2.2.1 == 0) && ((t.2.2.2.2.1.length : Int) == 0) && ((t.2.2.2.2.2.1.length : Int) == 0) && !t.2.2.2.2.2.2.1 && strEq t.2.2.2.2.2.2.2 ⟨#[]⟩
def noBaseB (b : tBase.D) : Bool := (b.2.2.2.1 == 0) && (b.2.2.2.2 == 0) && ((b.1.length : Int) == 0) && ((b.2.1.length : Int) == 0) && ((b.2.2.1.length : Int) == 0)

theorem impl_emptyTxn_is (t : tTxn.D) (k) : impl_emptyTxn_k t k = k (noTxnB t) := by
  rw [impl_emptyTxn_e]; unfold impl_emptyTxn_d noTxnB
  cases (t.1 == 0) <;> cases (t.2.1 == 0) <;> cases (t.2.2.1 == 0) <;> cases (t.2.2.2.1 == 0) <;> cases ((t.2.2.2.2.1.length : Int) == 0) <;> cases ((t.2.2.2.2.2.1.length : Int) == 0) <;> cases t.2.2.2.2.2.2.1 <;> rfl
theorem spec_l10NoTxn_is (t : tTxn.D) (k) : spec_l10NoTxn_k t k = k (noTxnB t) := by
  rw [spec_l10NoTxn_e]; unfold spec_l10NoTxn_d noTxnB
  cases (t.1 == 0) <;> cases (t.2.1 == 0) <;> cases (t.2.2.1 == 0) <;> cases (t.2.2.2.1 == 0) <;> cases ((t.2.2.2.2.1.length : Int) == 0) <;> cases ((t.2.2.2.2.2.1.length : Int) == 0) <;> cases t.2.2.2.2.2.2.1 <;> rfl
theorem impl_emptyBase_is (b : tBase.D) (k) : impl_emptyBase_k b k = k (noBaseB b) := by
  rw [impl_emptyBase_e]; unfold impl_emptyBase_d noBaseB
  cases (b.2.2.2.1 == 0) <;> cases (b.2.2.2.2 == 0) <;> cases ((b.1.length : Int) == 0) <;> cases ((b.2.1.length : Int) == 0) <;> cases ((b.2.2.1.length : Int) == 0) <;> rfl
theorem spec_l10NoBase_is (b : tBase.D) (k) : spec_l10NoBase_k b k = k (noBaseB b) := by
  rw [spec_l10NoBase_e]; unfold spec_l10NoBase_d noBaseB
  cases (b.2.2.2.1 == 0) <;> cases (b.2.2.2.2 == 0) <;> cases ((b.1.length : Int) == 0) <;> cases ((b.2.1.length : Int) == 0) <;> cases ((b.2.2.1.length : Int) == 0) <;> rfl

def recordOkB (r : tRecord.D) : Bool :=
  bif r.1 == 1 then txnOkB r.2.1 && (r.2.1.2.1 == 3) && strEq r.2.2.1 ⟨#[]⟩ && noBaseB r.2.2.2.2 && !r.2.2.2.1 else
  bif r.1 == 2 then txnOkB r.2.1 && (r.2.1.2.1 == 2) && strEq r.2.2.1 ⟨#[]⟩ && noBaseB r.2.2.2.2 && !r.2.2.2.1 else
  bif r.1 == 3 then noTxnB r.2.1 && keyOkB r.2.2.1 && noBaseB r.2.2.2.2 else
  bif r.1 == 4 then noTxnB r.2.1 && strEq r.2.2.1 ⟨#[]⟩ && baseOkB r.2.2.2.2 && !r.2.2.2.1 else false

theorem impl_RecordOk_is {r : tRecord.D} (hr : tRecord.wt r ≤ 1048576) (k) : impl_RecordOk_k r k = k (recordOkB r) := by
  rw [wtRecord] at hr
  have h1 : tTxn.wt r.2.1 ≤ 1048576 := by omega
  have h2 : r.2.2.1.size ≤ 1048576 := by omega
  have h3 : tBase.wt r.2.2.2.2 ≤ 1048576 := by omega
  rw [impl_RecordOk_r]
  unfold impl_RecordOk_t recordOkB
  simp only [impl_emptyTxn_is, impl_emptyBase_is, impl_TxnOk_is h1, impl_isDone_is, impl_isReady_is, impl_KeyOk_is h2, impl_BaseOk_is h3, impl_RecordOk_wj5000012]
  by_cases k1 : r.1 = 1
  · rw [k1]
    cases txnOkB r.2.1 <;> cases (r.2.1.2.1 == 3) <;> cases strEq r.2.2.1 ⟨#[]⟩ <;> cases noBaseB r.2.2.2.2 <;> cases r.2.2.2.1 <;> rfl
  by_cases k2 : r.1 = 2
  · rw [k2]
    cases txnOkB r.2.1 <;> cases (r.2.1.2.1 == 2) <;> cases strEq r.2.2.1 ⟨#[]⟩ <;> cases noBaseB r.2.2.2.2 <;> cases r.2.2.2.1 <;> rfl
  by_cases k3 : r.1 = 3
  · rw [k3]
    cases noTxnB r.2.1 <;> cases keyOkB r.2.2.1 <;> cases noBaseB r.2.2.2.2 <;> cases r.2.2.2.1 <;> rfl
  by_cases k4 : r.1 = 4
  · rw [k4]
    cases noTxnB r.2.1 <;> cases strEq r.2.2.1 ⟨#[]⟩ <;> cases baseOkB r.2.2.2.2 <;> cases r.2.2.2.1 <;> rfl
  simp only [beq_eq_false_iff_ne.2 k1, beq_eq_false_iff_ne.2 k2, beq_eq_false_iff_ne.2 k3, beq_eq_false_iff_ne.2 k4, cond_false]

theorem withinB_14 {n : Int} (k1 : n ≠ 1) (k2 : n ≠ 2) (k3 : n ≠ 3) (k4 : n ≠ 4) : withinB n 1 4 = false := by
  unfold withinB
  by_cases q1 : n ≥ 1
  · rw [decide_eq_false (show ¬ n ≤ 4 by omega), Bool.and_false]
  · rw [decide_eq_false q1]; rfl

theorem spec_RecordOk_is {r : tRecord.D} (hr : tRecord.wt r ≤ 1048576) (k) : spec_RecordOk_k r k = k (recordOkB r) := by
  rw [wtRecord] at hr
  have h1 : tTxn.wt r.2.1 ≤ 1048576 := by omega
  have h2 : r.2.2.1.size ≤ 1048576 := by omega
  have h3 : tBase.wt r.2.2.2.2 ≤ 1048576 := by omega
  rw [spec_RecordOk_r]
  unfold spec_RecordOk_t recordOkB
  simp only [spec_l01In_is, spec_RecordOk_wj5000004, spec_RecordOk_wj5000006, spec_RecordOk_wj5000008, pair_eta, spec_l10NoTxn_is, spec_l10NoBase_is, spec_TxnOk_is h1, spec_KeyOk_is h2, spec_BaseOk_is h3]
  have hs : (r.2.1.2.1 != 3) = !(r.2.1.2.1 == 3) := rfl
  have hs2 : (r.2.1.2.1 != 2) = !(r.2.1.2.1 == 2) := rfl
  rw [hs, hs2]
  by_cases k1 : r.1 = 1
  · rw [k1]
    cases txnOkB r.2.1 <;> cases (r.2.1.2.1 == 3) <;> cases strEq r.2.2.1 ⟨#[]⟩ <;> cases noBaseB r.2.2.2.2 <;> cases r.2.2.2.1 <;> rfl
  by_cases k2 : r.1 = 2
  · rw [k2]
    cases txnOkB r.2.1 <;> cases (r.2.1.2.1 == 2) <;> cases strEq r.2.2.1 ⟨#[]⟩ <;> cases noBaseB r.2.2.2.2 <;> cases r.2.2.2.1 <;> rfl
  by_cases k3 : r.1 = 3
  · rw [k3]
    cases noTxnB r.2.1 <;> cases keyOkB r.2.2.1 <;> cases noBaseB r.2.2.2.2 <;> cases r.2.2.2.1 <;> rfl
  by_cases k4 : r.1 = 4
  · rw [k4]
    cases noTxnB r.2.1 <;> cases strEq r.2.2.1 ⟨#[]⟩ <;> cases baseOkB r.2.2.2.2 <;> cases r.2.2.2.1 <;> rfl
  have hw : withinB r.1 1 4 = false := withinB_14 k1 k2 k3 k4
  simp only [hw, Bool.not_false, cond_true, beq_eq_false_iff_ne.2 k1, beq_eq_false_iff_ne.2 k2, beq_eq_false_iff_ne.2 k3, beq_eq_false_iff_ne.2 k4, cond_false]

end
end Go.VE
