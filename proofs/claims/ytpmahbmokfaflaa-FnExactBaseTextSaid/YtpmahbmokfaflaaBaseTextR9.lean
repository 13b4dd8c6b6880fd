/- Plain laws: versions, bases. -/
import Derived.Test.YtpmahbmokfaflaaBaseTextR8
import Derived.Test.YtpmahbmokfaflaaP3
namespace Go.VE
noncomputable section
set_option linter.unusedVariables false
set_option linter.unusedSimpArgs false
set_option maxRecDepth 100000

def versionOkB (v : tVersion.D) : Bool := keyOkB v.1 && decide ((v.2.1.size : Int) ≤ 12) && (!v.2.2.1 || strEq v.2.1 ⟨#[]⟩) && withinB v.2.2.2 1 9999
def versLess (x y : tVersion.D) : Bool := strLess x.1 y.1 || (strEq x.1 y.1 && decide (x.2.2.2 < y.2.2.2))
def versFrom : Option tVersion.D → List tVersion.D → Bool
  | _, [] => true
  | p, y :: l => versionOkB y && (match p with | none => true | some x => versLess x y) && versFrom (some y) l
def versionsOkB (l : List tVersion.D) : Bool := versFrom none l && decide ((l.length : Int) ≤ 120)

def cmpS (x y : ByteArray) : Int := bif strLess x y then -1 else bif !(strLess x y || strEq x y) then 1 else 0
def cmpI (x y : Int) : Int := bif decide (x < y) then -1 else bif decide (x > y) then 1 else 0
def cmpV (x y : tVersion.D) : Int := bif cmpS x.1 y.1 != 0 then cmpS x.1 y.1 else cmpI x.2.2.2 y.2.2.2

theorem cmp_Compare_string_is (x y) (k) : cmp_Compare_string_k x y k = k (cmpS x y) := by
  rw [cmp_Compare_string_e]
  unfold cmp_Compare_string_d cmpS
  rw [cmp_isNaN_string_e]
  unfold cmp_isNaN_string_d
  simp only [strEq_self, Bool.not_true, cond_false]
  cases strLess x y <;> cases strEq x y <;> rfl

theorem cmp_Compare_int_is (x y) (k) : cmp_Compare_int_k x y k = k (cmpI x y) := by
  rw [cmp_Compare_int_e]
  unfold cmp_Compare_int_d cmpI
  rw [cmp_isNaN_int_e]
  unfold cmp_isNaN_int_d
  simp only [bne_self_eq_false, cond_false]
  cases decide (x < y) <;> cases decide (x > y) <;> rfl

theorem impl_compareVersion_is (x y : tVersion.D) (k) : impl_compareVersion_k x y k = k (cmpV x y) := by
  rw [impl_compareVersion_e]
  unfold impl_compareVersion_d cmpV
  simp only [cmp_Compare_string_is, cmp_Compare_int_is]
  cases cmpS x.1 y.1 != 0 <;> rfl

theorem cmpV_neg (x y : tVersion.D) : decide (cmpV x y ≥ 0) = !versLess x y := by
  unfold cmpV versLess cmpS cmpI
  cases h1 : strLess x.1 y.1
  · cases h2 : strEq x.1 y.1
    · simp
    · simp only [cond_false, Bool.or_true, Bool.not_true, bne_self_eq_false, Bool.false_or, Bool.true_and]
      by_cases h3 : x.2.2.2 < y.2.2.2
      · simp [h3]
      · by_cases h4 : x.2.2.2 > y.2.2.2
        · simp [h3, h4]
        · simp [h3, h4]
  · simp

theorem impl_VersionsOk_w0_is {u0 : List tVersion.D} (hu : ∀ y ∈ u0, tVersion.wt y ≤ 1048576) (hl : u0.length ≤ 1048576) {u1 u2} : ∀ (l : List tVersion.D) (i : Nat), u0.drop i = l → ∃ j : Int, ∀ k,
    impl_VersionsOk_w0 u0 u1 u2 l i k = k (bif versFrom (if i = 0 then none else some (u0.getD (i - 1) (Ty.zero tVersion))) l then .inr j else .inl (false, j))
  | [], i, _ => ⟨_, fun k => rfl⟩
  | y :: l, i, h => by
    obtain ⟨j, hj⟩ := impl_VersionsOk_w0_is hu hl (u1 := u1) (u2 := u2) l (i + 1) (drop_succ h)
    have hlt := drop_lt h
    have hy := (lwl_get h).2 (Ty.zero tVersion)
    have hyw := hu y (mem_of_drop h)
    rw [wtVersion] at hyw
    rw [if_neg (by omega), show i + 1 - 1 = i by omega, hy] at hj
    simp only [impl_VersionsOk_w0, impl_KeyOk_is (show y.1.size ≤ 1048576 by omega), impl_within_is, impl_compareVersion_is, cmpV_neg, hj, versFrom, versionOkB]
    have hsz : decide ((y.2.1.size : Int) > 12) = !decide ((y.2.1.size : Int) ≤ 12) := by
      by_cases h : (y.2.1.size : Int) ≤ 12
      · simp [h]
      · simp [h]; omega
    rw [hsz]
    by_cases hi : i = 0
    · subst hi
      simp only [if_pos, show ¬ ((0 : Nat) : Int) > 0 by omega, decide_false, cond_false, Bool.and_true]
      cases keyOkB y.1 <;> cases decide ((y.2.1.size : Int) ≤ 12) <;> cases y.2.2.1 <;> cases strEq y.2.1 ⟨#[]⟩ <;> cases withinB y.2.2.2 1 9999 <;> first | (refine ⟨((0 : Nat) : Int), fun k => ?_⟩; simp; done) | (refine ⟨j, fun k => ?_⟩; simp; done)
    · have hw : IntKind.wrap .i64 ((i : Int) - 1) = ((i - 1 : Nat) : Int) := by rw [wrap64 (by omega) (by omega)]; omega
      have hrd : rd (Ty.zero tVersion) u0 ((i - 1 : Nat) : Int) = u0.getD (i - 1) (Ty.zero tVersion) := rfl
      simp only [if_neg hi, show (i : Int) > 0 by omega, decide_true, cond_true, hw, hrd, if_pos (show 0 ≤ ((i - 1 : Nat) : Int) ∧ ((i - 1 : Nat) : Int) < (u0.length : Int) by omega)]
      cases keyOkB y.1 <;> cases decide ((y.2.1.size : Int) ≤ 12) <;> cases y.2.2.1 <;> cases strEq y.2.1 ⟨#[]⟩ <;> cases withinB y.2.2.2 1 9999 <;> cases versLess (u0.getD (i - 1) (Ty.zero tVersion)) y <;> first | (refine ⟨(i : Int), fun k => ?_⟩; simp; done) | (refine ⟨j, fun k => ?_⟩; simp; done)

theorem impl_VersionsOk_is {x : List tVersion.D} (hx : (Ty.slice tVersion).wt x ≤ 1048576) (k) : impl_VersionsOk_k x k = k (versionsOkB x) := by
  have hl := len_le hx
  rw [impl_VersionsOk_r (by omega)]
  unfold impl_VersionsOk_t versionsOkB
  obtain ⟨j, hj⟩ := impl_VersionsOk_w0_is (u0 := x) (fun y hy => wt_mem_le hy hx) hl (u1 := false) (u2 := x) x 0 rfl
  rw [hj]
  simp only [if_true]
  cases versFrom none x <;> rfl

theorem spec_VersionsOk_w0_is {u0 : List tVersion.D} (hu : ∀ y ∈ u0, tVersion.wt y ≤ 1048576) (hl : u0.length ≤ 1048576) : ∀ (l : List tVersion.D) (i : Nat), u0.drop i = l → ∃ j : Int, ∀ k,
    spec_VersionsOk_w0 u0 false l i k = k (bif versFrom (if i = 0 then none else some (u0.getD (i - 1) (Ty.zero tVersion))) l then .inr j else .inl (false, j))
  | [], i, _ => ⟨_, fun k => rfl⟩
  | y :: l, i, h => by
    obtain ⟨j, hj⟩ := spec_VersionsOk_w0_is hu hl l (i + 1) (drop_succ h)
    have hlt := drop_lt h
    have hy := (lwl_get h).2 (Ty.zero tVersion)
    have hyw := hu y (mem_of_drop h)
    rw [wtVersion] at hyw
    rw [if_neg (by omega), show i + 1 - 1 = i by omega, hy] at hj
    simp only [spec_VersionsOk_w0, spec_VersionsOk_wj5000007, spec_KeyOk_is (show y.1.size ≤ 1048576 by omega), spec_l01In_is, hj, versFrom, versionOkB]
    have hsz : decide ((y.2.1.size : Int) > 12) = !decide ((y.2.1.size : Int) ≤ 12) := by
      by_cases h : (y.2.1.size : Int) ≤ 12
      · simp [h]
      · simp [h]; omega
    rw [hsz]
    by_cases hi : i = 0
    · subst hi
      simp only [if_pos, show ¬ ((0 : Nat) : Int) > 0 by omega, decide_false, cond_false, Bool.and_true]
      cases keyOkB y.1 <;> cases decide ((y.2.1.size : Int) ≤ 12) <;> cases y.2.2.1 <;> cases strEq y.2.1 ⟨#[]⟩ <;> cases withinB y.2.2.2 1 9999 <;> first | (refine ⟨((0 : Nat) : Int), fun k => ?_⟩; simp; done) | (refine ⟨j, fun k => ?_⟩; simp; done)
    · have hw : IntKind.wrap .i64 ((i : Int) - 1) = ((i - 1 : Nat) : Int) := by rw [wrap64 (by omega) (by omega)]; omega
      have hrd : rd (Ty.zero tVersion) u0 ((i - 1 : Nat) : Int) = u0.getD (i - 1) (Ty.zero tVersion) := rfl
      simp only [if_neg hi, show (i : Int) > 0 by omega, decide_true, cond_true, hw, hrd, if_pos (show 0 ≤ ((i - 1 : Nat) : Int) ∧ ((i - 1 : Nat) : Int) < (u0.length : Int) by omega)]
      generalize u0.getD (i - 1) (Ty.zero tVersion) = x
      have hge : decide (x.2.2.2 ≥ y.2.2.2) = !decide (x.2.2.2 < y.2.2.2) := by rw [Bool.eq_iff_iff]; simp
      unfold versLess
      rw [hge]
      cases h1 : strLess x.1 y.1
      · cases keyOkB y.1 <;> cases decide ((y.2.1.size : Int) ≤ 12) <;> cases y.2.2.1 <;> cases strEq y.2.1 ⟨#[]⟩ <;> cases withinB y.2.2.2 1 9999 <;> cases strEq x.1 y.1 <;> cases decide (x.2.2.2 < y.2.2.2) <;> first | (refine ⟨(i : Int), fun k => ?_⟩; simp; done) | (refine ⟨j, fun k => ?_⟩; simp; done)
      · rw [strLess_ne h1]
        cases keyOkB y.1 <;> cases decide ((y.2.1.size : Int) ≤ 12) <;> cases y.2.2.1 <;> cases strEq y.2.1 ⟨#[]⟩ <;> cases withinB y.2.2.2 1 9999 <;> first | (refine ⟨(i : Int), fun k => ?_⟩; simp; done) | (refine ⟨j, fun k => ?_⟩; simp; done)

theorem spec_VersionsOk_is {x : List tVersion.D} (hx : (Ty.slice tVersion).wt x ≤ 1048576) (k) : spec_VersionsOk_k x k = k (versionsOkB x) := by
  have hl := len_le hx
  rw [spec_VersionsOk_r (by omega)]
  unfold spec_VersionsOk_t versionsOkB
  obtain ⟨j, hj⟩ := spec_VersionsOk_w0_is (u0 := x) (fun y hy => wt_mem_le hy hx) hl x 0 rfl
  rw [hj]
  simp only [if_true]
  cases versFrom none x <;> rfl

/-! ### transactions in a base -/

/-- What was let through: right, done, not behind the counter, numbers ascending. -/
def pastFrom (cs : Int) : Option tTxn.D → List tTxn.D → Bool
  | _, [] => true
  | p, y :: l => txnOkB y && (y.2.1 == 3) && decide (y.2.2.2.1 ≤ cs) && (match p with | none => true | some x => decide (x.2.2.2.1 < y.2.2.2.1)) && pastFrom cs (some y) l
/-- What is ready: right, names ascending. -/
def readyFrom (cs : Int) : Option tTxn.D → List tTxn.D → Bool
  | _, [] => true
  | p, y :: l => txnOkB y && (y.2.1 == 2) && decide (y.2.2.1 ≤ cs) && (match p with | none => true | some x => strLess x.2.2.2.2.2.2.2 y.2.2.2.2.2.2.2) && readyFrom cs (some y) l
/-- Numbers: below a bound, unlike. -/
def idsFrom (nx : Int) : List Int → List Int → Bool
  | _, [] => true
  | pre, y :: l => decide (y < nx) && !(pre.any fun z => z == y) && idsFrom nx (pre ++ [y]) l

theorem impl_BaseOk_w2_is {u5 : List tTxn.D} (hu : ∀ y ∈ u5, tTxn.wt y ≤ 1048576) (hl : u5.length ≤ 1048576) {u0 u1 u4 u6 u7 u8} : ∀ (l : List tTxn.D) (i : Nat), u5.drop i = l → ∃ j : Int, ∀ k,
    impl_BaseOk_w2 u0 u1 u4 u5 u6 u7 u8 l i k = k (bif pastFrom u7 (if i = 0 then none else some (u5.getD (i - 1) (Ty.zero tTxn))) l then .inr j else .inl (false, j))
  | [], i, _ => ⟨_, fun k => rfl⟩
  | y :: l, i, h => by
    obtain ⟨j, hj⟩ := impl_BaseOk_w2_is hu hl (u0 := u0) (u1 := u1) (u4 := u4) (u6 := u6) (u7 := u7) (u8 := u8) l (i + 1) (drop_succ h)
    have hlt := drop_lt h
    have hy := (lwl_get h).2 (Ty.zero tTxn)
    rw [if_neg (by omega), show i + 1 - 1 = i by omega, hy] at hj
    have hcs : decide (y.2.2.2.1 > u7) = !decide (y.2.2.2.1 ≤ u7) := by rw [Bool.eq_iff_iff]; simp
    simp only [impl_BaseOk_w2, impl_TxnOk_is (hu y (mem_of_drop h)), impl_isDone_is, hj, pastFrom, hcs]
    by_cases hi : i = 0
    · subst hi
      simp only [if_pos, show ¬ ((0 : Nat) : Int) > 0 by omega, decide_false, cond_false, Bool.and_true]
      cases txnOkB y <;> cases (y.2.1 == 3) <;> cases decide (y.2.2.2.1 ≤ u7) <;> first | (refine ⟨((0 : Nat) : Int), fun k => ?_⟩; simp; done) | (refine ⟨j, fun k => ?_⟩; simp; done)
    · have hw : IntKind.wrap .i64 ((i : Int) - 1) = ((i - 1 : Nat) : Int) := by rw [wrap64 (by omega) (by omega)]; omega
      have hrd : rd (Ty.zero tTxn) u5 ((i - 1 : Nat) : Int) = u5.getD (i - 1) (Ty.zero tTxn) := rfl
      simp only [if_neg hi, show (i : Int) > 0 by omega, decide_true, cond_true, hw, hrd, if_pos (show 0 ≤ ((i - 1 : Nat) : Int) ∧ ((i - 1 : Nat) : Int) < (u5.length : Int) by omega)]
      generalize u5.getD (i - 1) (Ty.zero tTxn) = x
      have hge : decide (x.2.2.2.1 ≥ y.2.2.2.1) = !decide (x.2.2.2.1 < y.2.2.2.1) := by rw [Bool.eq_iff_iff]; simp
      rw [hge]
      cases txnOkB y <;> cases (y.2.1 == 3) <;> cases decide (y.2.2.2.1 ≤ u7) <;> cases decide (x.2.2.2.1 < y.2.2.2.1) <;> first | (refine ⟨(i : Int), fun k => ?_⟩; simp; done) | (refine ⟨j, fun k => ?_⟩; simp; done)

theorem impl_BaseOk_w4_is {u6 : List tTxn.D} (hu : ∀ y ∈ u6, tTxn.wt y ≤ 1048576) (hl : u6.length ≤ 1048576) {u0 u1 u4 u5 u7 u8} : ∀ (l : List tTxn.D) (i : Nat), u6.drop i = l → ∃ j : Int, ∀ k,
    impl_BaseOk_w4 u0 u1 u4 u5 u6 u7 u8 l i k = k (bif readyFrom u7 (if i = 0 then none else some (u6.getD (i - 1) (Ty.zero tTxn))) l then .inr j else .inl (false, j))
  | [], i, _ => ⟨_, fun k => rfl⟩
  | y :: l, i, h => by
    obtain ⟨j, hj⟩ := impl_BaseOk_w4_is hu hl (u0 := u0) (u1 := u1) (u4 := u4) (u5 := u5) (u7 := u7) (u8 := u8) l (i + 1) (drop_succ h)
    have hlt := drop_lt h
    have hy := (lwl_get h).2 (Ty.zero tTxn)
    rw [if_neg (by omega), show i + 1 - 1 = i by omega, hy] at hj
    have hcs : decide (y.2.2.1 > u7) = !decide (y.2.2.1 ≤ u7) := by rw [Bool.eq_iff_iff]; simp
    simp only [impl_BaseOk_w4, impl_TxnOk_is (hu y (mem_of_drop h)), impl_isReady_is, hj, readyFrom, hcs]
    by_cases hi : i = 0
    · subst hi
      simp only [if_pos, show ¬ ((0 : Nat) : Int) > 0 by omega, decide_false, cond_false, Bool.and_true]
      cases txnOkB y <;> cases (y.2.1 == 2) <;> cases decide (y.2.2.1 ≤ u7) <;> first | (refine ⟨((0 : Nat) : Int), fun k => ?_⟩; simp; done) | (refine ⟨j, fun k => ?_⟩; simp; done)
    · have hw : IntKind.wrap .i64 ((i : Int) - 1) = ((i - 1 : Nat) : Int) := by rw [wrap64 (by omega) (by omega)]; omega
      have hrd : rd (Ty.zero tTxn) u6 ((i - 1 : Nat) : Int) = u6.getD (i - 1) (Ty.zero tTxn) := rfl
      simp only [if_neg hi, show (i : Int) > 0 by omega, decide_true, cond_true, hw, hrd, if_pos (show 0 ≤ ((i - 1 : Nat) : Int) ∧ ((i - 1 : Nat) : Int) < (u6.length : Int) by omega)]
      generalize u6.getD (i - 1) (Ty.zero tTxn) = x
      cases txnOkB y <;> cases (y.2.1 == 2) <;> cases decide (y.2.2.1 ≤ u7) <;> cases strLess x.2.2.2.2.2.2.2 y.2.2.2.2.2.2.2 <;> first | (refine ⟨(i : Int), fun k => ?_⟩; simp; done) | (refine ⟨j, fun k => ?_⟩; simp; done)

theorem impl_BaseOk_w0_is {u0 u1 u4 u5 u6 u7 u8} : ∀ (l : List tVersion.D) (i : Nat), ∃ j : Int, ∀ k,
    impl_BaseOk_w0 u0 u1 u4 u5 u6 u7 u8 l i k = k (bif l.all (fun y => decide (y.2.2.2 ≤ u7)) then .inr j else .inl (false, j))
  | [], i => ⟨_, fun k => rfl⟩
  | y :: l, i => by
    obtain ⟨j, hj⟩ := impl_BaseOk_w0_is (u0 := u0) (u1 := u1) (u4 := u4) (u5 := u5) (u6 := u6) (u7 := u7) (u8 := u8) l (i + 1)
    have hcs : decide (y.2.2.2 > u7) = !decide (y.2.2.2 ≤ u7) := by rw [Bool.eq_iff_iff]; simp
    simp only [impl_BaseOk_w0, hj, List.all_cons, hcs]
    cases decide (y.2.2.2 ≤ u7)
    · exact ⟨(i : Int), fun k => rfl⟩
    · exact ⟨j, fun k => rfl⟩

/-! ### one behind the other -/

theorem concat_w0 {u0 u2} {α : Type} : ∀ (l : List (List tTxn.D)) (s : Int) (i : Nat), 0 ≤ s → s + ((l.map List.length).sum : Int) ≤ 100000000 → ∃ j : Int, ∀ k, slices_Concat_Txn_w0 u0 u2 l s i k = k (s + ((l.map List.length).sum : Int), j)
  | [], s, i, _, _ => ⟨_, fun k => by simp [slices_Concat_Txn_w0]; rfl⟩
  | y :: l, s, i, h0, h => by
    simp only [List.map_cons, List.sum_cons] at h
    have hw : IntKind.wrap .i64 (s + (y.length : Int)) = s + (y.length : Int) := wrap64 (by omega) (by omega)
    obtain ⟨j, hj⟩ := concat_w0 (u0 := u0) (u2 := u2) (α := α) l (s + (y.length : Int)) (i + 1) (by omega) (by push_cast at h; omega)
    refine ⟨j, fun k => ?_⟩
    simp only [slices_Concat_Txn_w0, hw, show decide (s + (y.length : Int) < 0) = false by simp; omega, cond_false, hj]
    congr 2
    simp only [List.map_cons, List.sum_cons]
    push_cast
    omega

theorem concat_w2 {u0} : ∀ (l : List (List tTxn.D)) (s : List tTxn.D) (i : Nat), s.length + (l.map List.length).sum ≤ 100000000 → ∃ j : Int, ∀ k, slices_Concat_Txn_w2 u0 l s i k = k (j, s ++ l.flatten)
  | [], s, i, _ => ⟨_, fun k => by simp [slices_Concat_Txn_w2]; rfl⟩
  | y :: l, s, i, h => by
    simp only [List.map_cons, List.sum_cons] at h
    obtain ⟨j, hj⟩ := concat_w2 (u0 := u0) l (s ++ y) (i + 1) (by simp; omega)
    refine ⟨j, fun k => ?_⟩
    have hm : s.length + y.length ≤ VE.maxLen := by show _ ≤ 4294967296; omega
    simp only [slices_Concat_Txn_w2, if_pos hm, hj, List.flatten_cons, List.append_assoc]

theorem slices_Concat_Txn_is {a b : List tTxn.D} (ha : a.length ≤ 1048577) (hb : b.length ≤ 1048577) (k) : slices_Concat_Txn_k [a, b] k = k (a ++ b) := by
  rw [slices_Concat_Txn_r (by simp)]
  unfold slices_Concat_Txn_t
  obtain ⟨j, hj⟩ := concat_w0 (u0 := [a, b]) (u2 := [a, b]) (α := Unit) [a, b] 0 0 (by omega) (by simp; omega)
  rw [hj]
  have hg : ∀ n : Int, 0 ≤ n → n ≤ 100000000 → ∀ k, slices_Grow_Txn_vn_k n k = k [] := by
    intro n h0 h1 k
    rw [slices_Grow_Txn_vn_e]
    unfold slices_Grow_Txn_vn_d
    have e0 : IntKind.wrap .i64 ((0 : Int) - 0) = 0 := wrap64 (by omega) (by omega)
    have e1 : IntKind.wrap .i64 (n - 0) = n := by rw [wrap64 (by omega) (by omega)]; omega
    simp only [e0, e1, show decide (n < 0) = false by simp; omega, cond_false]
    by_cases hn : n > 0
    · have e3 : 0 ≤ n ∧ n ≤ (VE.maxLen : Int) := ⟨h0, by show n ≤ 4294967296; omega⟩
      simp only [hn, decide_true, cond_true]
      rw [if_pos (by omega), if_pos e3, if_pos ⟨by omega, by omega⟩]
      simp
    · simp only [hn, decide_false, cond_false]
  simp only [Int.zero_add]
  rw [hg _ (by omega) (by simp; omega)]
  obtain ⟨j2, hj2⟩ := concat_w2 (u0 := [a, b]) [a, b] [] 0 (by simp; omega)
  rw [hj2]
  simp

/-! ### numbers that are unlike -/

theorem impl_idsUnlike_1_is (x t : tTxn.D) (k) : impl_idsUnlike_1_k x t.1 t.2.1 t.2.2.1 t.2.2.2.1 t.2.2.2.2.1 t.2.2.2.2.2.1 t.2.2.2.2.2.2.1 t.2.2.2.2.2.2.2 k = k ((x.1 == t.1), t.1, t.2.1, t.2.2.1, t.2.2.2.1, t.2.2.2.2.1, t.2.2.2.2.2.1, t.2.2.2.2.2.2.1, t.2.2.2.2.2.2.2) := by
  rw [impl_idsUnlike_1_e]; rfl

theorem slices_IndexFunc_Txn_idsUnlike_1_w0_is {u0 u1} {t : tTxn.D} : ∀ (l : List tTxn.D) (i : Nat), ∃ a : Nat, ∃ b : Int, ∀ k,
    slices_IndexFunc_Txn_idsUnlike_1_w0 u0 u1 l t.1 t.2.1 t.2.2.1 t.2.2.2.1 t.2.2.2.2.1 t.2.2.2.2.2.1 t.2.2.2.2.2.2.1 t.2.2.2.2.2.2.2 i k = k (bif l.any (fun x => x.1 == t.1) then .inl ((a : Int), b, t.1, t.2.1, t.2.2.1, t.2.2.2.1, t.2.2.2.2.1, t.2.2.2.2.2.1, t.2.2.2.2.2.2.1, t.2.2.2.2.2.2.2) else .inr (b, t.1, t.2.1, t.2.2.1, t.2.2.2.1, t.2.2.2.2.1, t.2.2.2.2.2.1, t.2.2.2.2.2.2.1, t.2.2.2.2.2.2.2))
  | [], i => ⟨0, _, fun k => rfl⟩
  | y :: l, i => by
    obtain ⟨a, b, hab⟩ := slices_IndexFunc_Txn_idsUnlike_1_w0_is (u0 := u0) (u1 := u1) (t := t) l (i + 1)
    simp only [slices_IndexFunc_Txn_idsUnlike_1_w0, impl_idsUnlike_1_is, hab, List.any_cons]
    cases y.1 == t.1
    · exact ⟨a, b, fun k => rfl⟩
    · exact ⟨i, (i : Int), fun k => rfl⟩

theorem impl_some_idsUnlike_1_is {t : tTxn.D} {l : List tTxn.D} (hlen : l.length ≤ 3000000) (k) : impl_some_idsUnlike_1_k l t.1 t.2.1 t.2.2.1 t.2.2.2.1 t.2.2.2.2.1 t.2.2.2.2.2.1 t.2.2.2.2.2.2.1 t.2.2.2.2.2.2.2 k = k (l.any (fun x => x.1 == t.1), t.1, t.2.1, t.2.2.1, t.2.2.2.1, t.2.2.2.2.1, t.2.2.2.2.2.1, t.2.2.2.2.2.2.1, t.2.2.2.2.2.2.2) := by
  obtain ⟨a, b, hab⟩ := slices_IndexFunc_Txn_idsUnlike_1_w0_is (u0 := l) (u1 := 0) (t := t) l 0
  rw [impl_some_idsUnlike_1_e]
  unfold impl_some_idsUnlike_1_d
  rw [slices_ContainsFunc_Txn_idsUnlike_1_e]
  unfold slices_ContainsFunc_Txn_idsUnlike_1_d
  rw [slices_IndexFunc_Txn_idsUnlike_1_r (by omega)]
  unfold slices_IndexFunc_Txn_idsUnlike_1_t
  rw [hab]
  cases (l.any fun x => x.1 == t.1)
  · rfl
  · have : decide ((a : Int) ≥ 0) = true := by simp
    simp only [cond_true, Sum.elim_inl, this]

theorem impl_idsUnlike_w0_is {u0 : List tTxn.D} (hl : u0.length ≤ 3000000) {u1 u2 u3} : ∀ (l : List tTxn.D) (i : Nat), u0.drop i = l → ∃ j : Int, ∀ k,
    impl_idsUnlike_w0 u0 u1 u2 u3 l i k = k (bif idsFrom u1 ((u0.take i).map (·.1)) (l.map (·.1)) then .inr j else .inl (false, j))
  | [], i, _ => ⟨_, fun k => rfl⟩
  | y :: l, i, h => by
    obtain ⟨j, hj⟩ := impl_idsUnlike_w0_is hl (u1 := u1) (u2 := u2) (u3 := u3) l (i + 1) (drop_succ h)
    have hlt := drop_lt h
    have hge : decide (y.1 ≥ u1) = !decide (y.1 < u1) := by rw [Bool.eq_iff_iff]; simp
    have hy : u0[i] = y := by have := drop_get h; rw [List.getElem?_eq_getElem hlt] at this; exact Option.some.inj this
    have htk : (u0.take (i + 1)).map (·.1) = (u0.take i).map (·.1) ++ [y.1] := by rw [List.take_succ_eq_append_getElem hlt, List.map_append, hy]; rfl
    have han : ((u0.take i).map (·.1)).any (fun z => z == y.1) = (u0.take i).any (fun x => x.1 == y.1) := by rw [List.any_map]; rfl
    rw [htk] at hj
    have hsl : ((u0.take (i : Int).toNat).drop (0 : Int).toNat) = u0.take i := by simp
    simp only [impl_idsUnlike_w0, if_pos (show 0 ≤ (0 : Int) ∧ (0 : Int) ≤ (i : Int) ∧ (i : Int) ≤ (u0.length : Int) by omega), hsl, impl_some_idsUnlike_1_is (t := y) (show (u0.take i).length ≤ 3000000 by simp; omega), hj, hge, List.map_cons, idsFrom, han]
    cases decide (y.1 < u1) <;> cases (u0.take i).any (fun x => x.1 == y.1) <;> first | (refine ⟨(i : Int), fun k => ?_⟩; simp; done) | (refine ⟨j, fun k => ?_⟩; simp; done)

theorem impl_idsUnlike_is {l : List tTxn.D} (hl : l.length ≤ 3000000) (n : Int) (k) : impl_idsUnlike_k l n k = k (idsFrom n [] (l.map (·.1))) := by
  rw [impl_idsUnlike_r (by omega)]
  unfold impl_idsUnlike_t
  obtain ⟨j, hj⟩ := impl_idsUnlike_w0_is (u0 := l) hl (u1 := n) (u2 := false) (u3 := l) l 0 rfl
  rw [hj]
  simp only [List.take_zero, List.map_nil]
  cases idsFrom n [] (l.map (·.1)) <;> rfl

def baseOkB (b : tBase.D) : Bool :=
  versionsOkB b.1 && decide ((b.2.1.length : Int) ≤ 12) && decide ((b.2.2.1.length : Int) ≤ 3) && withinB b.2.2.2.1 0 9999 && withinB b.2.2.2.2 1 9999 &&
    (b.1.all fun y => decide (y.2.2.2 ≤ b.2.2.2.1)) && pastFrom b.2.2.2.1 none b.2.1 && readyFrom b.2.2.2.1 none b.2.2.1 && idsFrom b.2.2.2.2 [] (b.2.1.map (·.1) ++ b.2.2.1.map (·.1))

theorem partsBase {b : tBase.D} (hb : tBase.wt b ≤ 1048576) : (Ty.slice tVersion).wt b.1 ≤ 1048576 ∧ (Ty.slice tTxn).wt b.2.1 ≤ 1048576 ∧ (Ty.slice tTxn).wt b.2.2.1 ≤ 1048576 := by
  rw [wtBase] at hb; omega

theorem impl_BaseOk_is {b : tBase.D} (hb : tBase.wt b ≤ 1048576) (k) : impl_BaseOk_k b k = k (baseOkB b) := by
  obtain ⟨h1, h2, h3⟩ := partsBase hb
  have l1 := len_le h1
  have l2 := len_le h2
  have l3 := len_le h3
  rw [impl_BaseOk_r (by omega) (by omega) (by omega)]
  unfold impl_BaseOk_t baseOkB
  have hs1 : decide ((b.2.1.length : Int) > 12) = !decide ((b.2.1.length : Int) ≤ 12) := by rw [Bool.eq_iff_iff]; simp
  have hs2 : decide ((b.2.2.1.length : Int) > 3) = !decide ((b.2.2.1.length : Int) ≤ 3) := by rw [Bool.eq_iff_iff]; simp
  simp only [impl_VersionsOk_is h1, impl_within_is, hs1, hs2]
  cases versionsOkB b.1
  · rfl
  cases decide ((b.2.1.length : Int) ≤ 12)
  · rfl
  cases decide ((b.2.2.1.length : Int) ≤ 3)
  · rfl
  cases withinB b.2.2.2.1 0 9999
  · rfl
  cases withinB b.2.2.2.2 1 9999
  · rfl
  simp only [Bool.not_true, cond_false, Bool.true_and, Bool.and_self, impl_BaseOk_wj5000003]
  obtain ⟨j0, hj0⟩ := impl_BaseOk_w0_is (u0 := false) (u1 := b.1) (u4 := b.1) (u5 := b.2.1) (u6 := b.2.2.1) (u7 := b.2.2.2.1) (u8 := b.2.2.2.2) b.1 0
  rw [hj0]
  cases (b.1.all fun y => decide (y.2.2.2 ≤ b.2.2.2.1))
  · rfl
  obtain ⟨j2, hj2⟩ := impl_BaseOk_w2_is (u5 := b.2.1) (fun y hy => wt_mem_le hy h2) l2 (u0 := false) (u1 := b.2.1) (u4 := b.1) (u6 := b.2.2.1) (u7 := b.2.2.2.1) (u8 := b.2.2.2.2) b.2.1 0 rfl
  simp only [cond_true, Sum.elim_inr, hj2, if_true]
  cases pastFrom b.2.2.2.1 none b.2.1
  · rfl
  obtain ⟨j4, hj4⟩ := impl_BaseOk_w4_is (u6 := b.2.2.1) (fun y hy => wt_mem_le hy h3) l3 (u0 := false) (u1 := b.2.2.1) (u4 := b.1) (u5 := b.2.1) (u7 := b.2.2.2.1) (u8 := b.2.2.2.2) b.2.2.1 0 rfl
  simp only [cond_true, Sum.elim_inr, hj4, if_true]
  cases readyFrom b.2.2.2.1 none b.2.2.1
  · rfl
  simp only [cond_true, Sum.elim_inr, slices_Concat_Txn_is (show b.2.1.length ≤ 1048577 by omega) (show b.2.2.1.length ≤ 1048577 by omega), impl_idsUnlike_is (show (b.2.1 ++ b.2.2.1).length ≤ 3000000 by simp; omega), List.map_append, Bool.true_and]

/-! ### the same, as the reference says it -/

theorem spec_BaseOk_w0_is {u0 u2 u3 u4 u5 u6} : ∀ (l : List tVersion.D) (i : Nat), ∃ j : Int, ∀ k,
    spec_BaseOk_w0 u0 u2 u3 u4 u5 u6 l i k = k (bif l.all (fun y => decide (y.2.2.2 ≤ u5)) then .inr j else .inl (false, j))
  | [], i => ⟨_, fun k => rfl⟩
  | y :: l, i => by
    obtain ⟨j, hj⟩ := spec_BaseOk_w0_is (u0 := u0) (u2 := u2) (u3 := u3) (u4 := u4) (u5 := u5) (u6 := u6) l (i + 1)
    have hcs : decide (y.2.2.2 > u5) = !decide (y.2.2.2 ≤ u5) := by rw [Bool.eq_iff_iff]; simp
    simp only [spec_BaseOk_w0, hj, List.all_cons, hcs]
    cases decide (y.2.2.2 ≤ u5)
    · exact ⟨(i : Int), fun k => rfl⟩
    · exact ⟨j, fun k => rfl⟩

theorem spec_BaseOk_w2_is {u3 : List tTxn.D} (hu : ∀ y ∈ u3, tTxn.wt y ≤ 1048576) (hl : u3.length ≤ 1048576) {u0 u2 u4 u5 u6} : ∀ (l : List tTxn.D) (s : List Int) (i : Nat), u3.drop i = l → s.length + l.length ≤ 3000000 → ∃ j : Int, ∃ s' : List Int, ∀ k,
    spec_BaseOk_w2 u0 u2 u3 u4 u5 u6 l s i k = k (bif pastFrom u5 (if i = 0 then none else some (u3.getD (i - 1) (Ty.zero tTxn))) l then .inr (j, s ++ l.map (·.1)) else .inl (false, j, s'))
  | [], s, i, _, _ => ⟨_, s, fun k => by simp [spec_BaseOk_w2, pastFrom]; rfl⟩
  | y :: l, s, i, h, hs => by
    obtain ⟨j, s', hj⟩ := spec_BaseOk_w2_is hu hl (u0 := u0) (u2 := u2) (u4 := u4) (u5 := u5) (u6 := u6) l (s ++ [y.1]) (i + 1) (drop_succ h) (by simp at hs ⊢; omega)
    have hlt := drop_lt h
    have hy := (lwl_get h).2 (Ty.zero tTxn)
    rw [if_neg (by omega), show i + 1 - 1 = i by omega, hy] at hj
    have hcs : decide (y.2.2.2.1 > u5) = !decide (y.2.2.2.1 ≤ u5) := by rw [Bool.eq_iff_iff]; simp
    have hm : s.length + [y.1].length ≤ VE.maxLen := by show _ ≤ 4294967296; simp at hs ⊢; omega
    have hb : (y.2.1 != 3) = !(y.2.1 == 3) := rfl
    simp only [spec_BaseOk_w2, spec_TxnOk_is (hu y (mem_of_drop h)), if_pos hm, hj, pastFrom, hcs, hb]
    by_cases hi : i = 0
    · subst hi
      simp only [if_pos, show ¬ ((0 : Nat) : Int) > 0 by omega, decide_false, cond_false, Bool.and_true]
      cases txnOkB y <;> cases (y.2.1 == 3) <;> cases decide (y.2.2.2.1 ≤ u5) <;> first | (refine ⟨((0 : Nat) : Int), s, fun k => ?_⟩; simp; done) | (refine ⟨j, s', fun k => ?_⟩; simp; done)
    · have hw : IntKind.wrap .i64 ((i : Int) - 1) = ((i - 1 : Nat) : Int) := by rw [wrap64 (by omega) (by omega)]; omega
      have hrd : rd (Ty.zero tTxn) u3 ((i - 1 : Nat) : Int) = u3.getD (i - 1) (Ty.zero tTxn) := rfl
      simp only [if_neg hi, show (i : Int) > 0 by omega, decide_true, cond_true, hw, hrd, if_pos (show 0 ≤ ((i - 1 : Nat) : Int) ∧ ((i - 1 : Nat) : Int) < (u3.length : Int) by omega)]
      generalize u3.getD (i - 1) (Ty.zero tTxn) = x
      have hge : decide (x.2.2.2.1 ≥ y.2.2.2.1) = !decide (x.2.2.2.1 < y.2.2.2.1) := by rw [Bool.eq_iff_iff]; simp
      rw [hge]
      cases txnOkB y <;> cases (y.2.1 == 3) <;> cases decide (y.2.2.2.1 ≤ u5) <;> cases decide (x.2.2.2.1 < y.2.2.2.1) <;> first | (refine ⟨(i : Int), s, fun k => ?_⟩; simp; done) | (refine ⟨j, s', fun k => ?_⟩; simp; done)

theorem spec_BaseOk_w4_is {u4 : List tTxn.D} (hu : ∀ y ∈ u4, tTxn.wt y ≤ 1048576) (hl : u4.length ≤ 1048576) {u0 u2 u3 u5 u6} : ∀ (l : List tTxn.D) (s : List Int) (i : Nat), u4.drop i = l → s.length + l.length ≤ 3000000 → ∃ j : Int, ∃ s' : List Int, ∀ k,
    spec_BaseOk_w4 u0 u2 u3 u4 u5 u6 l s i k = k (bif readyFrom u5 (if i = 0 then none else some (u4.getD (i - 1) (Ty.zero tTxn))) l then .inr (j, s ++ l.map (·.1)) else .inl (false, j, s'))
  | [], s, i, _, _ => ⟨_, s, fun k => by simp [spec_BaseOk_w4, readyFrom]; rfl⟩
  | y :: l, s, i, h, hs => by
    obtain ⟨j, s', hj⟩ := spec_BaseOk_w4_is hu hl (u0 := u0) (u2 := u2) (u3 := u3) (u5 := u5) (u6 := u6) l (s ++ [y.1]) (i + 1) (drop_succ h) (by simp at hs ⊢; omega)
    have hlt := drop_lt h
    have hy := (lwl_get h).2 (Ty.zero tTxn)
    rw [if_neg (by omega), show i + 1 - 1 = i by omega, hy] at hj
    have hcs : decide (y.2.2.1 > u5) = !decide (y.2.2.1 ≤ u5) := by rw [Bool.eq_iff_iff]; simp
    have hm : s.length + [y.1].length ≤ VE.maxLen := by show _ ≤ 4294967296; simp at hs ⊢; omega
    have hb : (y.2.1 != 2) = !(y.2.1 == 2) := rfl
    simp only [spec_BaseOk_w4, spec_TxnOk_is (hu y (mem_of_drop h)), if_pos hm, hj, readyFrom, hcs, hb]
    by_cases hi : i = 0
    · subst hi
      simp only [if_pos, show ¬ ((0 : Nat) : Int) > 0 by omega, decide_false, cond_false, Bool.and_true]
      cases txnOkB y <;> cases (y.2.1 == 2) <;> cases decide (y.2.2.1 ≤ u5) <;> first | (refine ⟨((0 : Nat) : Int), s, fun k => ?_⟩; simp; done) | (refine ⟨j, s', fun k => ?_⟩; simp; done)
    · have hw : IntKind.wrap .i64 ((i : Int) - 1) = ((i - 1 : Nat) : Int) := by rw [wrap64 (by omega) (by omega)]; omega
      have hrd : rd (Ty.zero tTxn) u4 ((i - 1 : Nat) : Int) = u4.getD (i - 1) (Ty.zero tTxn) := rfl
      simp only [if_neg hi, show (i : Int) > 0 by omega, decide_true, cond_true, hw, hrd, if_pos (show 0 ≤ ((i - 1 : Nat) : Int) ∧ ((i - 1 : Nat) : Int) < (u4.length : Int) by omega)]
      generalize u4.getD (i - 1) (Ty.zero tTxn) = x
      cases txnOkB y <;> cases (y.2.1 == 2) <;> cases decide (y.2.2.1 ≤ u5) <;> cases strLess x.2.2.2.2.2.2.2 y.2.2.2.2.2.2.2 <;> first | (refine ⟨(i : Int), s, fun k => ?_⟩; simp; done) | (refine ⟨j, s', fun k => ?_⟩; simp; done)

theorem spec_BaseOk_b8_is {U : List Int} (hU : U.length ≤ 3000000) {x1 : Bool} {v p r cs nx} {n : Nat} (hn : n < U.length) : ∀ (d m q : Nat), n - m = d → m ≤ n → d < q → ∃ m' : Int, ∀ K,
    loopK spec_BaseOk_b8 q (x1, (n : Int), (m : Int), v, p, r, cs, nx, U) K = K (bif ((U.take n).drop m).any (fun z => z == U.getD n 0) then .inl (false, (n : Int), m', v, p, r, cs, nx, U) else .inr (x1, (n : Int), m', v, p, r, cs, nx, U))
  | d, m, 0, _, _, h => by omega
  | d, m, q + 1, hd, hm, hq => by
    by_cases hlt : m < n
    · obtain ⟨m', hm'⟩ := spec_BaseOk_b8_is hU hn (x1 := x1) (v := v) (p := p) (r := r) (cs := cs) (nx := nx) (d - 1) (m + 1) q (by omega) (by omega) (by omega)
      have hdr : (U.take n).drop m = U.getD m 0 :: (U.take n).drop (m + 1) := by
        rw [List.drop_eq_getElem_cons (by simp; omega), List.getElem_take]
        congr 1
        exact (getD_get 0 (by omega)).symm
      have hw : IntKind.wrap .i64 ((m : Int) + 1) = ((m + 1 : Nat) : Int) := wrap_succ (by omega)
      have z0 : Ty.zero (.int .i64) = (0 : Int) := rfl
      simp only [loopK, spec_BaseOk_b8, show (m : Int) < (n : Int) by omega, decide_true, cond_true, if_pos (show 0 ≤ (m : Int) ∧ (m : Int) < (U.length : Int) by omega), if_pos (show 0 ≤ (n : Int) ∧ (n : Int) < (U.length : Int) by omega), Int.toNat_natCast, hdr, List.any_cons, z0]
      cases hc : U.getD m 0 == U.getD n 0
      · refine ⟨m', fun K => ?_⟩
        simp only [cond_false, Sum.elim_inl, hw, Bool.false_or]
        exact hm' K
      · exact ⟨(m : Int), fun K => by simp⟩
    · have hmn : m = n := by omega
      subst hmn
      refine ⟨(m : Int), fun K => ?_⟩
      simp only [loopK, spec_BaseOk_b8, show ¬ (m : Int) < (m : Int) by omega, decide_false, cond_false, Sum.elim_inr]
      have : (U.take m).drop m = [] := List.drop_eq_nil_of_le (by simp; omega)
      rw [this]; rfl

theorem spec_BaseOk_b6_is {U : List Int} (hU : U.length ≤ 3000000) {x1 : Bool} {v p r cs nx} : ∀ (l : List Int) (n q : Nat), U.drop n = l → l.length < q → ∃ b : Bool, ∃ n' : Int, ∀ K,
    loopK spec_BaseOk_b6 q (x1, (n : Int), v, p, r, cs, nx, U) K = K (bif idsFrom nx (U.take n) l then .inl (b, n', v, p, r, cs, nx, U) else .inr (false, n', v, p, r, cs, nx, U))
  | l, n, 0, _, h => by omega
  | [], n, q + 1, h, _ => by
    have hge := lwl_nil h
    refine ⟨x1, (n : Int), fun K => ?_⟩
    simp only [loopK, spec_BaseOk_b6, hge, decide_false, cond_false, Sum.elim_inr]
    rfl
  | y :: l, n, q + 1, h, hq => by
    have hlt := drop_lt h
    have hy : U.getD n 0 = y := (lwl_get h).2 0
    have hy2 : U[n] = y := by have := drop_get h; rw [List.getElem?_eq_getElem hlt] at this; exact Option.some.inj this
    obtain ⟨m', hm'⟩ := spec_BaseOk_b8_is hU (x1 := x1) (v := v) (p := p) (r := r) (cs := cs) (nx := nx) hlt n 0 Fuel (by omega) (Nat.zero_le _) (Nat.lt_of_lt_of_le (by omega) fuel_big)
    obtain ⟨b, n', hn'⟩ := spec_BaseOk_b6_is hU (x1 := x1) (v := v) (p := p) (r := r) (cs := cs) (nx := nx) l (n + 1) q (drop_succ h) (by simpa using hq)
    have htk : U.take (n + 1) = U.take n ++ [y] := by rw [List.take_succ_eq_append_getElem hlt, hy2]
    rw [htk] at hn'
    have hw : IntKind.wrap .i64 ((n : Int) + 1) = ((n + 1 : Nat) : Int) := wrap_succ (by omega)
    have z0 : Ty.zero (.int .i64) = (0 : Int) := rfl
    have hge : decide (y ≥ nx) = !decide (y < nx) := by rw [Bool.eq_iff_iff]; simp
    have hz : ((0 : Nat) : Int) = 0 := rfl
    rw [hz] at hm'
    simp only [loopK, spec_BaseOk_b6, show (n : Int) < (U.length : Int) by omega, decide_true, cond_true, hm', List.drop_zero, idsFrom, hy]
    cases (U.take n).any (fun z => z == y)
    · cases hc : decide (y < nx)
      · refine ⟨b, (n : Int), fun K => ?_⟩
        simp only [cond_false, Sum.elim_inr, if_pos (show 0 ≤ (n : Int) ∧ (n : Int) < (U.length : Int) by omega), Int.toNat_natCast, z0, hy, hge, hc, Bool.not_false, cond_true, Bool.false_and]
      · refine ⟨b, n', fun K => ?_⟩
        simp only [cond_false, Sum.elim_inr, Sum.elim_inl, if_pos (show 0 ≤ (n : Int) ∧ (n : Int) < (U.length : Int) by omega), Int.toNat_natCast, z0, hy, hge, hc, Bool.not_true, Bool.not_false, Bool.true_and, hw]
        exact hn' K
    · refine ⟨b, (n : Int), fun K => ?_⟩
      simp only [cond_true, Sum.elim_inl, Sum.elim_inr, Bool.not_true, Bool.and_false, Bool.false_and, cond_false]

theorem spec_BaseOk_is {b : tBase.D} (hb : tBase.wt b ≤ 1048576) (k) : spec_BaseOk_k b k = k (baseOkB b) := by
  obtain ⟨h1, h2, h3⟩ := partsBase hb
  have l1 := len_le h1
  have l2 := len_le h2
  have l3 := len_le h3
  rw [spec_BaseOk_r (by omega) (by omega) (by omega)]
  unfold spec_BaseOk_t baseOkB
  have hs1 : decide ((b.2.1.length : Int) > 12) = !decide ((b.2.1.length : Int) ≤ 12) := by rw [Bool.eq_iff_iff]; simp
  have hs2 : decide ((b.2.2.1.length : Int) > 3) = !decide ((b.2.2.1.length : Int) ≤ 3) := by rw [Bool.eq_iff_iff]; simp
  simp only [spec_VersionsOk_is h1, spec_l01In_is, hs1, hs2]
  cases versionsOkB b.1
  · rfl
  cases decide ((b.2.1.length : Int) ≤ 12)
  · rfl
  cases decide ((b.2.2.1.length : Int) ≤ 3)
  · rfl
  cases withinB b.2.2.2.1 0 9999
  · rfl
  cases withinB b.2.2.2.2 1 9999
  · rfl
  simp only [Bool.not_true, cond_false, Bool.true_and, Bool.and_self, spec_BaseOk_wj5000003]
  obtain ⟨j0, hj0⟩ := spec_BaseOk_w0_is (u0 := false) (u2 := b.1) (u3 := b.2.1) (u4 := b.2.2.1) (u5 := b.2.2.2.1) (u6 := b.2.2.2.2) b.1 0
  rw [hj0]
  cases (b.1.all fun y => decide (y.2.2.2 ≤ b.2.2.2.1))
  · rfl
  obtain ⟨j2, s2, hj2⟩ := spec_BaseOk_w2_is (u3 := b.2.1) (fun y hy => wt_mem_le hy h2) l2 (u0 := false) (u2 := b.1) (u4 := b.2.2.1) (u5 := b.2.2.2.1) (u6 := b.2.2.2.2) b.2.1 [] 0 rfl (by simp; omega)
  simp only [cond_true, Sum.elim_inr, hj2, if_true]
  cases pastFrom b.2.2.2.1 none b.2.1
  · rfl
  obtain ⟨j4, s4, hj4⟩ := spec_BaseOk_w4_is (u4 := b.2.2.1) (fun y hy => wt_mem_le hy h3) l3 (u0 := false) (u2 := b.1) (u3 := b.2.1) (u5 := b.2.2.2.1) (u6 := b.2.2.2.2) b.2.2.1 (b.2.1.map (·.1)) 0 rfl (by simp; omega)
  simp only [cond_true, Sum.elim_inr, List.nil_append, hj4, if_true]
  cases readyFrom b.2.2.2.1 none b.2.2.1
  · rfl
  obtain ⟨bb, n', hn'⟩ := spec_BaseOk_b6_is (U := b.2.1.map (·.1) ++ b.2.2.1.map (·.1)) (by simp; omega) (x1 := false) (v := b.1) (p := b.2.1) (r := b.2.2.1) (cs := b.2.2.2.1) (nx := b.2.2.2.2) _ 0 Fuel rfl (Nat.lt_of_lt_of_le (by simp; omega) fuel_big)
  have hz : ((0 : Nat) : Int) = 0 := rfl
  rw [hz] at hn'
  simp only [cond_true, Sum.elim_inr, hn', List.take_zero, List.drop_zero, Bool.true_and]
  cases idsFrom b.2.2.2.2 [] (b.2.1.map (·.1) ++ b.2.2.1.map (·.1)) <;> rfl

end

end Go.VE
