/- Plain laws: an engine and a record are right. -/
import Derived.Test.YtpmahbmokfaflaaBaseTextR10
namespace Go.VE
noncomputable section
set_option linter.unusedVariables false
set_option linter.unusedSimpArgs false
set_option maxRecDepth 100000

theorem slices_Concat_Txn_is3 {a b c : List tTxn.D} (ha : a.length ≤ 1048577) (hb : b.length ≤ 1048577) (hc : c.length ≤ 1048577) (k) : slices_Concat_Txn_k [a, b, c] k = k (a ++ (b ++ c)) := by
  rw [slices_Concat_Txn_r (by simp)]
  unfold slices_Concat_Txn_t
  obtain ⟨j, hj⟩ := concat_w0 (u0 := [a, b, c]) (u2 := [a, b, c]) (α := Unit) [a, b, c] 0 0 (by omega) (by simp; omega)
  rw [hj]
  have hg : ∀ n : Int, 0 ≤ n → n ≤ 100000000 → ∀ k, slices_Grow_Txn_vn_k n k = k [] := by
    intro n h0 h1 k
    rw [slices_Grow_Txn_vn_e]
    unfold slices_Grow_Txn_vn_d
    have e0 : IntKind.wrap .i64 ((0 : Int) - 0) = 0 := wrap64 (by omega) (by omega)
    have e1 : IntKind.wrap .i64 (n - 0) = n := by rw [wrap64 (by omega) (by omega)]; omega
    simp only [e0, e1, show decide (n < 0) = false by simp; omega, cond_false]
    by_cases hn : n > 0
    · have e3 : 0 ≤ n ∧ n ≤ (VE.maxLen : Int) := ⟨h0, by show n ≤ 4294967296; omega⟩
      simp only [hn, decide_true, cond_true]
      rw [if_pos (by omega), if_pos e3, if_pos ⟨by omega, by omega⟩]
      simp
    · simp only [hn, decide_false, cond_false]
  simp only [Int.zero_add]
  rw [hg _ (by omega) (by simp; omega)]
  obtain ⟨j2, hj2⟩ := concat_w2 (u0 := [a, b, c]) [a, b, c] [] 0 (by simp; omega)
  rw [hj2]
  simp

/-- What is open: right, numbers ascending. -/
def openFrom (cs : Int) : Option tTxn.D → List tTxn.D → Bool
  | _, [] => true
  | p, y :: l => txnOkB y && (y.2.1 == 1) && decide (y.2.2.1 ≤ cs) && (match p with | none => true | some x => decide (x.1 < y.1)) && openFrom cs (some y) l
def notIn (y : Int) (l : List tTxn.D) : Bool := !(l.any fun z => z.1 == y)
def openAll (cs nx : Int) (p r : List tTxn.D) : Option tTxn.D → List tTxn.D → Bool
  | _, [] => true
  | o, y :: l => txnOkB y && (y.2.1 == 1) && decide (y.1 < nx) && decide (y.2.2.1 ≤ cs) && (match o with | none => true | some x => decide (x.1 < y.1)) && notIn y.1 p && notIn y.1 r && openAll cs nx p r (some y) l

theorem idsFrom_append (nx : Int) : ∀ (A pre B : List Int), idsFrom nx pre (A ++ B) = (idsFrom nx pre A && idsFrom nx (pre ++ A) B)
  | [], pre, B => by simp [idsFrom]
  | y :: A, pre, B => by
    simp only [List.cons_append, idsFrom, idsFrom_append nx A (pre ++ [y]) B, List.append_assoc, List.nil_append, Bool.and_assoc]

theorem idsFrom_open (cs nx : Int) (P : List Int) : ∀ (l : List tTxn.D) (Q : List Int) (o : Option tTxn.D), (∀ x, o = some x → ∀ q ∈ Q, q ≤ x.1) → (o = none → Q = []) → openFrom cs o l = true →
    idsFrom nx (P ++ Q) (l.map (·.1)) = l.all (fun y => decide (y.1 < nx) && !(P.any fun z => z == y.1))
  | [], Q, o, _, _, _ => rfl
  | y :: l, Q, o, h1, h2, h => by
    simp only [openFrom, Bool.and_eq_true] at h
    have hQ : ∀ q ∈ Q, q < y.1 := by
      intro q hq
      cases o with
      | none => rw [h2 rfl] at hq; cases hq
      | some x =>
        have a1 := h1 x rfl q hq
        have a2 : x.1 < y.1 := of_decide_eq_true h.1.2
        exact Int.lt_of_le_of_lt a1 a2
    have hno : (Q.any fun z => z == y.1) = false := by
      rw [List.any_eq_false]
      intro q hq hc
      have a1 := hQ q hq
      have : q = y.1 := by simpa using hc
      omega
    have ih := idsFrom_open cs nx P l (Q ++ [y.1]) (some y) (fun x hx q hq => by
      cases hx
      rcases List.mem_append.1 hq with hq | hq
      · exact Int.le_of_lt (hQ q hq)
      · rw [List.mem_singleton] at hq; omega) (fun h => by cases h) h.2
    simp only [List.map_cons, idsFrom, List.all_cons, List.any_append, hno, Bool.or_false]
    rw [List.append_assoc, ih]

theorem openAll_is (cs nx : Int) (p r : List tTxn.D) : ∀ (l : List tTxn.D) (o : Option tTxn.D), openAll cs nx p r o l = (openFrom cs o l && l.all (fun y => decide (y.1 < nx) && !((p.map (·.1) ++ r.map (·.1)).any fun z => z == y.1)))
  | [], o => rfl
  | y :: l, o => by
    have e : (!((p.map (·.1) ++ r.map (·.1)).any fun z => z == y.1)) = (notIn y.1 p && notIn y.1 r) := by
      unfold notIn
      rw [List.any_append, List.any_map, List.any_map, Bool.not_or]; rfl
    simp only [openAll, openFrom, List.all_cons, openAll_is cs nx p r l (some y), e]
    generalize openFrom cs (some y) l = c1
    generalize (match o with | none => true | some x => decide (x.1 < y.1)) = c2
    generalize (l.all fun y => decide (y.1 < nx) && !((p.map (·.1) ++ r.map (·.1)).any fun z => z == y.1)) = c3
    cases txnOkB y <;> cases (y.2.1 == 1) <;> cases decide (y.1 < nx) <;> cases decide (y.2.2.1 ≤ cs) <;> cases c2 <;> cases notIn y.1 p <;> cases notIn y.1 r <;> cases c1 <;> cases c3 <;> rfl

def engineOkB (e : tEngine.D) : Bool := baseOkB e.1 && decide ((e.2.length : Int) ≤ 4) && openAll e.1.2.2.2.1 e.1.2.2.2.2 e.1.2.1 e.1.2.2.1 none e.2

def noTxnB (t : tTxn.D) : Bool := (t.1 == 0) && (t.2.1 == 0) && (t.2.2.1 == 0) && (t.2.2.2.1 == 0) && ((t.2.2.2.2.1.length : Int) == 0) && ((t.2.2.2.2.2.1.length : Int) == 0) && !t.2.2.2.2.2.2.1 && strEq t.2.2.2.2.2.2.2 ⟨#[]⟩
def noBaseB (b : tBase.D) : Bool := (b.2.2.2.1 == 0) && (b.2.2.2.2 == 0) && ((b.1.length : Int) == 0) && ((b.2.1.length : Int) == 0) && ((b.2.2.1.length : Int) == 0)

def recordOkB (r : tRecord.D) : Bool :=
  bif r.1 == 1 then txnOkB r.2.1 && (r.2.1.2.1 == 3) && strEq r.2.2.1 ⟨#[]⟩ && noBaseB r.2.2.2.2 && !r.2.2.2.1 else
  bif r.1 == 2 then txnOkB r.2.1 && (r.2.1.2.1 == 2) && strEq r.2.2.1 ⟨#[]⟩ && noBaseB r.2.2.2.2 && !r.2.2.2.1 else
  bif r.1 == 3 then noTxnB r.2.1 && keyOkB r.2.2.1 && noBaseB r.2.2.2.2 else
  bif r.1 == 4 then noTxnB r.2.1 && strEq r.2.2.1 ⟨#[]⟩ && baseOkB r.2.2.2.2 && !r.2.2.2.1 else false

theorem withinB_14 {n : Int} (k1 : n ≠ 1) (k2 : n ≠ 2) (k3 : n ≠ 3) (k4 : n ≠ 4) : withinB n 1 4 = false := by
  unfold withinB
  by_cases q1 : n ≥ 1
  · rw [decide_eq_false (show ¬ n ≤ 4 by omega), Bool.and_false]
  · rw [decide_eq_false q1]; rfl

end
end Go.VE
