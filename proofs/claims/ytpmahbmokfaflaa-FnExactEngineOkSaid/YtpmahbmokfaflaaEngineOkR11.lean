/- Plain laws: an engine and a record are right. -/
import Derived.Test.YtpmahbmokfaflaaEngineOkR10
namespace Go.VE
noncomputable section
set_option linter.unusedVariables false
set_option linter.unusedSimpArgs false
set_option maxRecDepth 100000

theorem slices_Concat_Txn_is3 {a b c : List tTxn.D} (ha : a.length ≤ 1048577) (hb : b.length ≤ 1048577) (hc : c.length ≤ 1048577) (k) : slices_Concat_Txn_k [a, b, c] k = k (a ++ (b ++ c)) := by
  rw [slices_Concat_Txn_r (by simp)]
  unfold slices_Concat_Txn_t
  obtain ⟨j, hj⟩ := concat_w0 (u0 := [a, b, c]) (u2 := [a, b, c]) (α := Unit) [a, b, c] 0 0 (by omega) (by simp; omega)
  rw [hj]
  have hg : ∀ n : Int, 0 ≤ n → n ≤ 100000000 → ∀ k, slices_Grow_Txn_vn_k n k = k [] := by
    intro n h0 h1 k
    rw [slices_Grow_Txn_vn_e]
    unfold slices_Grow_Txn_vn_d
    have e0 : IntKind.wrap .i64 ((0 : Int) - 0) = 0 := wrap64 (by omega) (by omega)
    have e1 : IntKind.wrap .i64 (n - 0) = n := by rw [wrap64 (by omega) (by omega)]; omega
    simp only [e0, e1, show decide (n < 0) = false by simp; omega, cond_false]
    by_cases hn : n > 0
    · have e3 : 0 ≤ n ∧ n ≤ (VE.maxLen : Int) := ⟨h0, by show n ≤ 4294967296; omega⟩
      simp only [hn, decide_true, cond_true]
      rw [if_pos (by omega), if_pos e3, if_pos ⟨by omega, by omega⟩]
      simp
    · simp only [hn, decide_false, cond_false]
  simp only [Int.zero_add]
  rw [hg _ (by omega) (by simp; omega)]
  obtain ⟨j2, hj2⟩ := concat_w2 (u0 := [a, b, c]) [a, b, c] [] 0 (by simp; omega)
  rw [hj2]
  simp

/-- What is open: right, numbers ascending. -/
def openFrom (cs : Int) : Option tTxn.D → List tTxn.D → Bool
  | _, [] => true
  | p, y :: l => txnOkB y && (y.2.1 == 1) && decide (y.2.2.1 ≤ cs) && (match p with | none => true | some x => decide (x.1 < y.1)) && openFrom cs (some y) l
def notIn (y : Int) (l : List tTxn.D) : Bool := !(l.any fun z => z.1 == y)
def openAll (cs nx : Int) (p r : List tTxn.D) : Option tTxn.D → List tTxn.D → Bool
  | _, [] => true
  | o, y :: l => txnOkB y && (y.2.1 == 1) && decide (y.1 < nx) && decide (y.2.2.1 ≤ cs) && (match o with | none => true | some x => decide (x.1 < y.1)) && notIn y.1 p && notIn y.1 r && openAll cs nx p r (some y) l

theorem impl_EngineOk_w0_is {u9 : List tTxn.D} (hu : ∀ y ∈ u9, tTxn.wt y ≤ 1048576) (hl : u9.length ≤ 1048576) {u0 u1 u4 u5 u6 u7 u8} : ∀ (l : List tTxn.D) (i : Nat), u9.drop i = l → ∃ j : Int, ∀ k,
    impl_EngineOk_w0 u0 u1 u4 u5 u6 u7 u8 u9 l i k = k (bif openFrom u7 (if i = 0 then none else some (u9.getD (i - 1) (Ty.zero tTxn))) l then .inr j else .inl (false, j))
  | [], i, _ => ⟨_, fun k => rfl⟩
  | y :: l, i, h => by
    obtain ⟨j, hj⟩ := impl_EngineOk_w0_is hu hl (u0 := u0) (u1 := u1) (u4 := u4) (u5 := u5) (u6 := u6) (u7 := u7) (u8 := u8) l (i + 1) (drop_succ h)
    have hlt := drop_lt h
    have hy := (lwl_get h).2 (Ty.zero tTxn)
    rw [if_neg (by omega), show i + 1 - 1 = i by omega, hy] at hj
    have hcs : decide (y.2.2.1 > u7) = !decide (y.2.2.1 ≤ u7) := by rw [Bool.eq_iff_iff]; simp
    have hb : (y.2.1 != 1) = !(y.2.1 == 1) := rfl
    simp only [impl_EngineOk_w0, impl_TxnOk_is (hu y (mem_of_drop h)), hj, openFrom, hcs, hb]
    by_cases hi : i = 0
    · subst hi
      simp only [if_pos, show ¬ ((0 : Nat) : Int) > 0 by omega, decide_false, cond_false, Bool.and_true]
      cases txnOkB y <;> cases (y.2.1 == 1) <;> cases decide (y.2.2.1 ≤ u7) <;> first | (refine ⟨((0 : Nat) : Int), fun k => ?_⟩; simp; done) | (refine ⟨j, fun k => ?_⟩; simp; done)
    · have hw : IntKind.wrap .i64 ((i : Int) - 1) = ((i - 1 : Nat) : Int) := by rw [wrap64 (by omega) (by omega)]; omega
      have hrd : rd (Ty.zero tTxn) u9 ((i - 1 : Nat) : Int) = u9.getD (i - 1) (Ty.zero tTxn) := rfl
      simp only [if_neg hi, show (i : Int) > 0 by omega, decide_true, cond_true, hw, hrd, if_pos (show 0 ≤ ((i - 1 : Nat) : Int) ∧ ((i - 1 : Nat) : Int) < (u9.length : Int) by omega)]
      generalize u9.getD (i - 1) (Ty.zero tTxn) = x
      have hge : decide (x.1 ≥ y.1) = !decide (x.1 < y.1) := by rw [Bool.eq_iff_iff]; simp
      rw [hge]
      cases txnOkB y <;> cases (y.2.1 == 1) <;> cases decide (y.2.2.1 ≤ u7) <;> cases decide (x.1 < y.1) <;> first | (refine ⟨(i : Int), fun k => ?_⟩; simp; done) | (refine ⟨j, fun k => ?_⟩; simp; done)

theorem spec_EngineOk_w2_is {u0 u1 u3 u4 u5 u6 u7 u8 u9 u10 u11 u12 u13 u14 u15 u16} : ∀ (l : List tTxn.D) (i : Nat), ∃ j : Int, ∀ k,
    spec_EngineOk_w2 u0 u1 u3 u4 u5 u6 u7 u8 u9 u10 u11 u12 u13 u14 u15 u16 l i k = k (bif notIn u9 l then .inr j else .inl (false, j))
  | [], i => ⟨_, fun k => rfl⟩
  | y :: l, i => by
    obtain ⟨j, hj⟩ := spec_EngineOk_w2_is (u0 := u0) (u1 := u1) (u3 := u3) (u4 := u4) (u5 := u5) (u6 := u6) (u7 := u7) (u8 := u8) (u9 := u9) (u10 := u10) (u11 := u11) (u12 := u12) (u13 := u13) (u14 := u14) (u15 := u15) (u16 := u16) l (i + 1)
    unfold notIn at hj ⊢
    simp only [spec_EngineOk_w2, hj, List.any_cons]
    cases (y.1 == u9)
    · exact ⟨j, fun k => rfl⟩
    · exact ⟨(i : Int), fun k => rfl⟩
theorem spec_EngineOk_w4_is {u0 u1 u3 u4 u5 u6 u7 u8 u9 u10 u11 u12 u13 u14 u15 u16} : ∀ (l : List tTxn.D) (i : Nat), ∃ j : Int, ∀ k,
    spec_EngineOk_w4 u0 u1 u3 u4 u5 u6 u7 u8 u9 u10 u11 u12 u13 u14 u15 u16 l i k = k (bif notIn u9 l then .inr j else .inl (false, j))
  | [], i => ⟨_, fun k => rfl⟩
  | y :: l, i => by
    obtain ⟨j, hj⟩ := spec_EngineOk_w4_is (u0 := u0) (u1 := u1) (u3 := u3) (u4 := u4) (u5 := u5) (u6 := u6) (u7 := u7) (u8 := u8) (u9 := u9) (u10 := u10) (u11 := u11) (u12 := u12) (u13 := u13) (u14 := u14) (u15 := u15) (u16 := u16) l (i + 1)
    unfold notIn at hj ⊢
    simp only [spec_EngineOk_w4, hj, List.any_cons]
    cases (y.1 == u9)
    · exact ⟨j, fun k => rfl⟩
    · exact ⟨(i : Int), fun k => rfl⟩

theorem spec_EngineOk_j9_is {u0 u1 u2 u3 u4 u5 u6 u7 u8 u9 u10 u11 u12 u13 u14 u15} (k) :
    spec_EngineOk_wj5000009 u0 u1 u2 u3 u4 u5 u6 u7 u8 u9 u10 u11 u12 u13 u14 u15 k = k (bif notIn u8 u3 && notIn u8 u4 then .inr () else .inl false) := by
  unfold spec_EngineOk_wj5000009
  obtain ⟨j, hj⟩ := spec_EngineOk_w2_is (u0 := u0) (u1 := u1) (u3 := u2) (u4 := u3) (u5 := u4) (u6 := u5) (u7 := u6) (u8 := u7) (u9 := u8) (u10 := u9) (u11 := u10) (u12 := u11) (u13 := u12) (u14 := u13) (u15 := u14) (u16 := u15) u3 0
  obtain ⟨j2, hj2⟩ := spec_EngineOk_w4_is (u0 := u0) (u1 := u1) (u3 := u2) (u4 := u3) (u5 := u4) (u6 := u5) (u7 := u6) (u8 := u7) (u9 := u8) (u10 := u9) (u11 := u10) (u12 := u11) (u13 := u12) (u14 := u13) (u15 := u14) (u16 := u15) u4 0
  rw [hj]
  cases notIn u8 u3
  · rfl
  · simp only [cond_true, Sum.elim_inr, hj2, Bool.true_and]
    cases notIn u8 u4 <;> rfl

theorem spec_EngineOk_w0_is {u7 : List tTxn.D} (hu : ∀ y ∈ u7, tTxn.wt y ≤ 1048576) (hl : u7.length ≤ 1048576) {u0 u2 u3 u4 u5 u6} : ∀ (l : List tTxn.D) (i : Nat), u7.drop i = l → ∃ j : Int, ∀ k,
    spec_EngineOk_w0 u0 u2 u3 u4 u5 u6 u7 l i k = k (bif openAll u5 u6 u3 u4 (if i = 0 then none else some (u7.getD (i - 1) (Ty.zero tTxn))) l then .inr j else .inl (false, j))
  | [], i, _ => ⟨_, fun k => rfl⟩
  | y :: l, i, h => by
    obtain ⟨j, hj⟩ := spec_EngineOk_w0_is hu hl (u0 := u0) (u2 := u2) (u3 := u3) (u4 := u4) (u5 := u5) (u6 := u6) l (i + 1) (drop_succ h)
    have hlt := drop_lt h
    have hy := (lwl_get h).2 (Ty.zero tTxn)
    rw [if_neg (by omega), show i + 1 - 1 = i by omega, hy] at hj
    have hcs : decide (y.2.2.1 > u5) = !decide (y.2.2.1 ≤ u5) := by rw [Bool.eq_iff_iff]; simp
    have hnx : decide (y.1 ≥ u6) = !decide (y.1 < u6) := by rw [Bool.eq_iff_iff]; simp
    have hb : (y.2.1 != 1) = !(y.2.1 == 1) := rfl
    simp only [spec_EngineOk_w0, spec_TxnOk_is (hu y (mem_of_drop h)), spec_EngineOk_j9_is, hj, openAll, hcs, hnx, hb]
    by_cases hi : i = 0
    · subst hi
      simp only [if_pos, show ¬ ((0 : Nat) : Int) > 0 by omega, decide_false, cond_false, Bool.and_true]
      cases txnOkB y <;> cases (y.2.1 == 1) <;> cases decide (y.1 < u6) <;> cases decide (y.2.2.1 ≤ u5) <;> cases notIn y.1 u3 <;> cases notIn y.1 u4 <;> first | (refine ⟨((0 : Nat) : Int), fun k => ?_⟩; simp; done) | (refine ⟨j, fun k => ?_⟩; simp; done)
    · have hw : IntKind.wrap .i64 ((i : Int) - 1) = ((i - 1 : Nat) : Int) := by rw [wrap64 (by omega) (by omega)]; omega
      have hrd : rd (Ty.zero tTxn) u7 ((i - 1 : Nat) : Int) = u7.getD (i - 1) (Ty.zero tTxn) := rfl
      simp only [if_neg hi, show (i : Int) > 0 by omega, decide_true, cond_true, hw, hrd, if_pos (show 0 ≤ ((i - 1 : Nat) : Int) ∧ ((i - 1 : Nat) : Int) < (u7.length : Int) by omega)]
      generalize u7.getD (i - 1) (Ty.zero tTxn) = x
      have hge : decide (x.1 ≥ y.1) = !decide (x.1 < y.1) := by rw [Bool.eq_iff_iff]; simp
      rw [hge]
      cases txnOkB y <;> cases (y.2.1 == 1) <;> cases decide (y.1 < u6) <;> cases decide (y.2.2.1 ≤ u5) <;> cases decide (x.1 < y.1) <;> cases notIn y.1 u3 <;> cases notIn y.1 u4 <;> first | (refine ⟨(i : Int), fun k => ?_⟩; simp; done) | (refine ⟨j, fun k => ?_⟩; simp; done)

/-! ### numbers that ascend are unlike -/

theorem idsFrom_append (nx : Int) : ∀ (A pre B : List Int), idsFrom nx pre (A ++ B) = (idsFrom nx pre A && idsFrom nx (pre ++ A) B)
  | [], pre, B => by simp [idsFrom]
  | y :: A, pre, B => by
    simp only [List.cons_append, idsFrom, idsFrom_append nx A (pre ++ [y]) B, List.append_assoc, List.nil_append, Bool.and_assoc]

theorem idsFrom_open (cs nx : Int) (P : List Int) : ∀ (l : List tTxn.D) (Q : List Int) (o : Option tTxn.D), (∀ x, o = some x → ∀ q ∈ Q, q ≤ x.1) → (o = none → Q = []) → openFrom cs o l = true →
    idsFrom nx (P ++ Q) (l.map (·.1)) = l.all (fun y => decide (y.1 < nx) && !(P.any fun z => z == y.1))
  | [], Q, o, _, _, _ => rfl
  | y :: l, Q, o, h1, h2, h => by
    simp only [openFrom, Bool.and_eq_true] at h
    have hQ : ∀ q ∈ Q, q < y.1 := by
      intro q hq
      cases o with
      | none => rw [h2 rfl] at hq; cases hq
      | some x =>
        have a1 := h1 x rfl q hq
        have a2 : x.1 < y.1 := of_decide_eq_true h.1.2
        exact Int.lt_of_le_of_lt a1 a2
    have hno : (Q.any fun z => z == y.1) = false := by
      rw [List.any_eq_false]
      intro q hq hc
      have a1 := hQ q hq
      have : q = y.1 := by simpa using hc
      omega
    have ih := idsFrom_open cs nx P l (Q ++ [y.1]) (some y) (fun x hx q hq => by
      cases hx
      rcases List.mem_append.1 hq with hq | hq
      · exact Int.le_of_lt (hQ q hq)
      · rw [List.mem_singleton] at hq; omega) (fun h => by cases h) h.2
    simp only [List.map_cons, idsFrom, List.all_cons, List.any_append, hno, Bool.or_false]
    rw [List.append_assoc, ih]

theorem openAll_is (cs nx : Int) (p r : List tTxn.D) : ∀ (l : List tTxn.D) (o : Option tTxn.D), openAll cs nx p r o l = (openFrom cs o l && l.all (fun y => decide (y.1 < nx) && !((p.map (·.1) ++ r.map (·.1)).any fun z => z == y.1)))
  | [], o => rfl
  | y :: l, o => by
    have e : (!((p.map (·.1) ++ r.map (·.1)).any fun z => z == y.1)) = (notIn y.1 p && notIn y.1 r) := by
      unfold notIn
      rw [List.any_append, List.any_map, List.any_map, Bool.not_or]; rfl
    simp only [openAll, openFrom, List.all_cons, openAll_is cs nx p r l (some y), e]
    generalize openFrom cs (some y) l = c1
    generalize (match o with | none => true | some x => decide (x.1 < y.1)) = c2
    generalize (l.all fun y => decide (y.1 < nx) && !((p.map (·.1) ++ r.map (·.1)).any fun z => z == y.1)) = c3
    cases txnOkB y <;> cases (y.2.1 == 1) <;> cases decide (y.1 < nx) <;> cases decide (y.2.2.1 ≤ cs) <;> cases c2 <;> cases notIn y.1 p <;> cases notIn y.1 r <;> cases c1 <;> cases c3 <;> rfl

def engineOkB (e : tEngine.D) : Bool := baseOkB e.1 && decide ((e.2.length : Int) ≤ 4) && openAll e.1.2.2.2.1 e.1.2.2.2.2 e.1.2.1 e.1.2.2.1 none e.2

theorem spec_EngineOk_is {e : tEngine.D} (he : tEngine.wt e ≤ 1048576) (k) : spec_EngineOk_k e k = k (engineOkB e) := by
  rw [wtEngine] at he
  have hb : tBase.wt e.1 ≤ 1048576 := by omega
  have ho : (Ty.slice tTxn).wt e.2 ≤ 1048576 := by omega
  obtain ⟨h1, h2, h3⟩ := partsBase hb
  have l2 := len_le h2
  have l3 := len_le h3
  have l4 := len_le ho
  rw [spec_EngineOk_r (by omega) (by omega) (by omega)]
  unfold spec_EngineOk_t engineOkB
  have hs : decide ((e.2.length : Int) > 4) = !decide ((e.2.length : Int) ≤ 4) := by rw [Bool.eq_iff_iff]; simp
  simp only [spec_BaseOk_is hb, hs]
  cases baseOkB e.1
  · rfl
  cases decide ((e.2.length : Int) ≤ 4)
  · rfl
  obtain ⟨j, hj⟩ := spec_EngineOk_w0_is (u7 := e.2) (fun y hy => wt_mem_le hy ho) l4 (u0 := false) (u2 := e.1.1) (u3 := e.1.2.1) (u4 := e.1.2.2.1) (u5 := e.1.2.2.2.1) (u6 := e.1.2.2.2.2) e.2 0 rfl
  simp only [Bool.not_true, cond_false, spec_EngineOk_wj5000003, hj, if_true, Bool.true_and]
  cases openAll e.1.2.2.2.1 e.1.2.2.2.2 e.1.2.1 e.1.2.2.1 none e.2 <;> rfl

theorem impl_EngineOk_is {e : tEngine.D} (he : tEngine.wt e ≤ 1048576) (k) : impl_EngineOk_k e k = k (engineOkB e) := by
  rw [wtEngine] at he
  have hb : tBase.wt e.1 ≤ 1048576 := by omega
  have ho : (Ty.slice tTxn).wt e.2 ≤ 1048576 := by omega
  obtain ⟨h1, h2, h3⟩ := partsBase hb
  have l2 := len_le h2
  have l3 := len_le h3
  have l4 := len_le ho
  rw [impl_EngineOk_r (by omega)]
  unfold impl_EngineOk_t engineOkB
  have hs : decide ((e.2.length : Int) > 4) = !decide ((e.2.length : Int) ≤ 4) := by rw [Bool.eq_iff_iff]; simp
  simp only [impl_BaseOk_is hb, hs]
  cases hB : baseOkB e.1
  · rfl
  cases decide ((e.2.length : Int) ≤ 4)
  · rfl
  have hids : idsFrom e.1.2.2.2.2 [] (e.1.2.1.map (·.1) ++ e.1.2.2.1.map (·.1)) = true := by
    unfold baseOkB at hB
    simp only [Bool.and_eq_true] at hB
    exact hB.2
  obtain ⟨j, hj⟩ := impl_EngineOk_w0_is (u9 := e.2) (fun y hy => wt_mem_le hy ho) l4 (u0 := false) (u1 := e.2) (u4 := e.1.1) (u5 := e.1.2.1) (u6 := e.1.2.2.1) (u7 := e.1.2.2.2.1) (u8 := e.1.2.2.2.2) e.2 0 rfl
  have hlen : (e.1.2.1 ++ (e.1.2.2.1 ++ e.2)).length ≤ 3145728 := by simp only [List.length_append]; omega
  have hlen2 : (e.1.2.1 ++ (e.1.2.2.1 ++ e.2)).length ≤ 3000000 := by
    have : e.1.2.1.length + e.1.2.2.1.length + e.2.length ≤ 2097152 := by
      have q1 : tBase.wt e.1 = _ := wtBase e.1
      rw [Ty.wt_slice, Ty.wt_slice, Ty.wt_slice] at q1
      rw [Ty.wt_slice] at he
      omega
    simp only [List.length_append]; omega
  simp only [Bool.not_true, cond_false, Bool.true_and, slices_Concat_Txn_is3 (show e.1.2.1.length ≤ 1048577 by omega) (show e.1.2.2.1.length ≤ 1048577 by omega) (show e.2.length ≤ 1048577 by omega), impl_idsUnlike_is hlen2, impl_EngineOk_wj5000003, hj, if_true]
  rw [show (e.1.2.1 ++ (e.1.2.2.1 ++ e.2)).map (·.1) = (e.1.2.1.map (·.1) ++ e.1.2.2.1.map (·.1)) ++ e.2.map (·.1) by simp, idsFrom_append, hids, openAll_is, Bool.true_and, List.nil_append]
  cases hO : openFrom e.1.2.2.2.1 none e.2
  · cases idsFrom e.1.2.2.2.2 (e.1.2.1.map (·.1) ++ e.1.2.2.1.map (·.1)) (e.2.map (·.1)) <;> rfl
  · have := idsFrom_open e.1.2.2.2.1 e.1.2.2.2.2 (e.1.2.1.map (·.1) ++ e.1.2.2.1.map (·.1)) e.2 [] none (fun x h => by cases h) (fun _ => rfl) hO
    rw [List.append_nil] at this
    rw [this, Bool.true_and]
    cases e.2.all (fun y => decide (y.1 < e.1.2.2.2.2) && !((e.1.2.1.map (·.1) ++ e.1.2.2.1.map (·.1)).any fun z => z == y.1)) <;> rfl

/-! ### records -/

def noTxnB (t : tTxn.D) : Bool := (t.1 == 0) && (t.2.1 == 0) && (t.2.2.1 == 0) && (t.2.2.2.1 == 0) && ((t.2.2.2.2.1.length : Int) == 0) && ((t.2.2.2.2.2.1.length : Int) == 0) && !t.2.2.2.2.2.2.1 && strEq t.2.2.2.2.2.2.2 ⟨#[]⟩
def noBaseB (b : tBase.D) : Bool := (b.2.2.2.1 == 0) && (b.2.2.2.2 == 0) && ((b.1.length : Int) == 0) && ((b.2.1.length : Int) == 0) && ((b.2.2.1.length : Int) == 0)

def recordOkB (r : tRecord.D) : Bool :=
  bif r.1 == 1 then txnOkB r.2.1 && (r.2.1.2.1 == 3) && strEq r.2.2.1 ⟨#[]⟩ && noBaseB r.2.2.2.2 && !r.2.2.2.1 else
  bif r.1 == 2 then txnOkB r.2.1 && (r.2.1.2.1 == 2) && strEq r.2.2.1 ⟨#[]⟩ && noBaseB r.2.2.2.2 && !r.2.2.2.1 else
  bif r.1 == 3 then noTxnB r.2.1 && keyOkB r.2.2.1 && noBaseB r.2.2.2.2 else
  bif r.1 == 4 then noTxnB r.2.1 && strEq r.2.2.1 ⟨#[]⟩ && baseOkB r.2.2.2.2 && !r.2.2.2.1 else false

theorem withinB_14 {n : Int} (k1 : n ≠ 1) (k2 : n ≠ 2) (k3 : n ≠ 3) (k4 : n ≠ 4) : withinB n 1 4 = false := by
  unfold withinB
  by_cases q1 : n ≥ 1
  · rw [decide_eq_false (show ¬ n ≤ 4 by omega), Bool.and_false]
  · rw [decide_eq_false q1]; rfl

end
end Go.VE
