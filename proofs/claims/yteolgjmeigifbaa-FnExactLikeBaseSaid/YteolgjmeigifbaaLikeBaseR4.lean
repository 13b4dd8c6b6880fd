/- Plain laws: where a name or an Id stands; a transaction's text. -/
import Derived.Test.YteolgjmeigifbaaLikeBaseR3
namespace Go.VE
noncomputable section
set_option linter.unusedVariables false
set_option linter.unusedSimpArgs false
set_option maxRecDepth 100000

theorem push_data (f : Int → UInt8) : ∀ (l : List Int) (s : ByteArray), (l.foldl (fun s n => s.push (f n)) s).data.toList = s.data.toList ++ l.map f
  | [], s => by simp
  | n :: l, s => by
    rw [List.foldl_cons, push_data f l]
    simp [ByteArray.push]

theorem bytesOf_data (l : List Int) : (bytesOf l).data.toList = l.map fun n => UInt8.ofNat n.toNat := by
  unfold bytesOf
  rw [push_data (fun n => UInt8.ofNat n.toNat)]
  rfl

theorem bytes_ext {a b : ByteArray} (h : a.data.toList = b.data.toList) : a = b := by
  cases a; cases b; congr 1; exact Array.toList_inj.mp h

theorem strEq_true {a b : ByteArray} (h : strEq a b = true) : a = b := by
  rw [strEq_eq, beq_iff_eq, ByteArray.toList_eq, ByteArray.toList_eq] at h
  exact bytes_ext h

theorem bytesOf_append (a b : List Int) : bytesOf (a ++ b) = bytesOf a ++ bytesOf b := by
  apply bytes_ext
  rw [ByteArray.data_append, Array.toList_append, bytesOf_data, bytesOf_data, bytesOf_data, List.map_append]

theorem bytesOf_intsOf (b : ByteArray) : bytesOf (intsOf b) = b := by
  apply bytes_ext
  rw [bytesOf_data]
  unfold intsOf
  rw [List.map_map]
  conv => rhs; rw [← List.map_id b.data.toList]
  apply List.map_congr_left
  intro x _
  show UInt8.ofNat ((x.toNat : Int)).toNat = x
  rw [Int.toNat_natCast]
  exact UInt8.ofNat_toNat

theorem bytesOf_size (l : List Int) : (bytesOf l).size = l.length := by
  have := congrArg List.length (bytesOf_data l)
  rw [List.length_map, Array.length_toList] at this
  exact this

def varL (n : Int) : List Int := if n > 127 then [IntKind.wrap .u8 (IntKind.wrap .i64 (n.tmod 128 + 128)), IntKind.wrap .u8 (IntKind.wrap .i64 (n.tdiv 128))] else [IntKind.wrap .u8 n]
def varB (n : Int) : ByteArray := bytesOf (varL n)
theorem varB_size (n : Int) : (varB n).size ≤ 2 := by unfold varB; rw [bytesOf_size]; unfold varL; split <;> simp
def shB (s : ByteArray) : ByteArray := varB s.size ++ s
theorem shB_size (s : ByteArray) : (shB s).size ≤ 2 + s.size := by unfold shB; rw [ByteArray.size_append]; have := varB_size s.size; omega
def bitB (b : Bool) : ByteArray := bif b then ⟨#[1]⟩ else ⟨#[0]⟩
theorem bitB_size (b : Bool) : (bitB b).size = 1 := by cases b <;> rfl

theorem fuel_two : ∃ n, Fuel = n + 3 := ⟨Fuel - 3, by have := fuel_big; omega⟩
theorem tdiv_small {n : Int} (h0 : 127 < n) (h1 : n ≤ 16383) : IntKind.wrap .i64 (n.tdiv 128) = n.tdiv 128 ∧ ¬ (n.tdiv 128 > 127) := by
  have e : n.tdiv 128 = n / 128 := Int.tdiv_eq_ediv_of_nonneg (by omega)
  rw [e]
  have a1 : n / 128 ≤ 127 := by omega
  have a2 : 0 ≤ n / 128 := by omega
  exact ⟨wrap64 (by omega) (by omega), by omega⟩

theorem spec_l01Var_is {n : Int} (h1 : n ≤ 16383) (k) : spec_l01Var_k n k = k (varB n) := by
  obtain ⟨f, hf⟩ := fuel_two
  rw [spec_l01Var_e]
  unfold spec_l01Var_d varB varL
  rw [hf]
  by_cases c : n > 127
  · obtain ⟨e1, e2⟩ := tdiv_small c h1
    simp only [loopK, spec_l01Var_b0, c, decide_true, cond_true, List.length_nil, List.length_cons, VE.maxLen, Nat.reduceAdd, Nat.reduceLeDiff, if_true, Sum.elim_inl, Sum.elim_inr, e1, e2, decide_false, cond_false, List.nil_append, List.cons_append]
  · simp only [loopK, spec_l01Var_b0, c, decide_false, cond_false, List.length_nil, List.length_cons, VE.maxLen, Nat.reduceAdd, Nat.reduceLeDiff, if_true, if_false, Sum.elim_inr, List.nil_append]

theorem impl_VarText_is {n : Int} (h0 : 0 ≤ n) (h1 : n ≤ 16383) (k) : impl_VarText_k n k = k (varB n, true) := by
  obtain ⟨f, hf⟩ := fuel_two
  rw [impl_VarText_e]
  unfold impl_VarText_d varB varL
  have w : withinB n 0 1000000000 = true := by
    unfold withinB
    rw [decide_eq_true (show n ≥ 0 by omega), decide_eq_true (show n ≤ 1000000000 by omega)]; rfl
  rw [hf]
  simp only [impl_within_is, w, Bool.not_true, cond_false]
  by_cases c : n > 127
  · obtain ⟨e1, e2⟩ := tdiv_small c h1
    simp only [loopK, impl_VarText_b0, c, decide_true, cond_true, List.length_nil, List.length_cons, VE.maxLen, Nat.reduceAdd, Nat.reduceLeDiff, if_true, Sum.elim_inl, Sum.elim_inr, e1, e2, decide_false, cond_false, List.nil_append, List.cons_append]
  · simp only [loopK, impl_VarText_b0, c, decide_false, cond_false, List.length_nil, List.length_cons, VE.maxLen, Nat.reduceAdd, Nat.reduceLeDiff, if_true, if_false, Sum.elim_inr, List.nil_append]

theorem spec_l07Short_is {s : ByteArray} (h : s.size ≤ 12) (k) : spec_l07Short_k s k = k (shB s) := by
  rw [spec_l07Short_e]
  unfold spec_l07Short_d shB
  rw [spec_l01Var_is (by omega)]
  have := varB_size s.size
  rw [if_pos (by omega)]

theorem impl_ShortText_is {s : ByteArray} (h : s.size ≤ 12) (k) : impl_ShortText_k s k = k (shB s, true) := by
  rw [impl_ShortText_e]
  unfold impl_ShortText_d shB
  have := varB_size s.size
  rw [decide_eq_false (by omega), cond_false, impl_VarText_is (by omega) (by omega)]
  simp only []
  rw [if_pos (by omega)]

theorem spec_l07Bit_is (b : Bool) (k) : spec_l07Bit_k b k = k (bitB b) := by rw [spec_l07Bit_e]; cases b <;> rfl
theorem impl_plan_flag_is (b : Bool) {s : List Int} (h : s.length ≤ 100000) (k) : impl_plan_flag_k b s k = k (s ++ intsOf (bitB b)) := by
  rw [impl_plan_flag_e]
  unfold impl_plan_flag_d impl_plan_flag_j5000003
  have e : ∀ x : Int, s.length + [x].length ≤ VE.maxLen := fun x => by simp only [List.length_cons, List.length_nil, VE.maxLen]; omega
  cases b <;> simp only [cond_true, cond_false, e, if_true] <;> rfl

theorem impl_plan_text_two {a b : ByteArray} (ha : a.size ≤ 12) (hb : b.size ≤ 12) {s : List Int} (h : s.length ≤ 100000) (k) : impl_plan_text_k [a, b] s k = k (.inr ((s ++ intsOf (shB a)) ++ intsOf (shB b))) := by
  obtain ⟨f, hf⟩ := fuel_two
  have sa := shB_size a
  have sb := shB_size b
  rw [impl_plan_text_e]
  unfold impl_plan_text_d
  rw [hf]
  have c1 : s.length + (intsOf (shB a)).length ≤ VE.maxLen := by rw [intsOf_length]; simp only [VE.maxLen]; omega
  have c2 : (s ++ intsOf (shB a)).length + (intsOf (shB b)).length ≤ VE.maxLen := by rw [List.length_append, intsOf_length, intsOf_length]; simp only [VE.maxLen]; omega
  have w0 : IntKind.wrap .i64 ((0 : Int) + 1) = 1 := by decide
  have w1 : IntKind.wrap .i64 ((1 : Int) + 1) = 2 := by decide
  have r0 : ∀ z : ByteArray, rd z [a, b] 0 = a := fun z => rfl
  have r1 : ∀ z : ByteArray, rd z [a, b] 1 = b := fun z => rfl
  simp only [loopK, impl_plan_text_b0, Sum.elim_inl, Sum.elim_inr, List.length_cons, List.length_nil, show ((0 + 1 + 1 : Nat) : Int) = 2 from rfl, show decide ((0 : Int) < 2) = true from rfl, show decide ((1 : Int) < 2) = true from rfl, show decide ((2 : Int) < 2) = false from rfl, decide_true, cond_true, cond_false, show (0 : Int) ≤ 0 ∧ (0 : Int) < 2 from by decide, show (0 : Int) ≤ 1 ∧ (1 : Int) < 2 from by decide, and_self, if_true, w0, w1, r0, r1, impl_ShortText_is ha, impl_ShortText_is hb, c1, c2]

theorem impl_plan_text_one {a : ByteArray} (ha : a.size ≤ 12) {s : List Int} (h : s.length ≤ 100000) (k) : impl_plan_text_k [a] s k = k (.inr (s ++ intsOf (shB a))) := by
  obtain ⟨f, hf⟩ := fuel_two
  have sa := shB_size a
  rw [impl_plan_text_e]
  unfold impl_plan_text_d
  rw [hf]
  have c1 : s.length + (intsOf (shB a)).length ≤ VE.maxLen := by rw [intsOf_length]; simp only [VE.maxLen]; omega
  have w0 : IntKind.wrap .i64 ((0 : Int) + 1) = 1 := by decide
  have r0 : ∀ z : ByteArray, rd z [a] 0 = a := fun z => rfl
  simp only [loopK, impl_plan_text_b0, Sum.elim_inl, Sum.elim_inr, List.length_cons, List.length_nil, show ((0 + 1 : Nat) : Int) = 1 from rfl, show decide ((0 : Int) < 1) = true from rfl, show decide ((1 : Int) < 1) = false from rfl, decide_true, cond_true, cond_false, show (0 : Int) ≤ 0 ∧ (0 : Int) < 1 from by decide, and_self, if_true, w0, r0, impl_ShortText_is ha, c1]

theorem impl_plan_num_one {n : Int} (h0 : 0 ≤ n) (h1 : n ≤ 16383) {s : List Int} (h : s.length ≤ 100000) (k) : impl_plan_num_61bd_k [n] s k = k (.inr (s ++ intsOf (varB n))) := by
  obtain ⟨f, hf⟩ := fuel_two
  have sa := varB_size n
  rw [impl_plan_num_61bd_e]
  unfold impl_plan_num_61bd_d
  rw [hf]
  have c1 : s.length + (intsOf (varB n)).length ≤ VE.maxLen := by rw [intsOf_length]; simp only [VE.maxLen]; omega
  have w0 : IntKind.wrap .i64 ((0 : Int) + 1) = 1 := by decide
  have r0 : ∀ z : Int, rd z [n] 0 = n := fun z => rfl
  simp only [loopK, impl_plan_num_61bd_b0, Sum.elim_inl, Sum.elim_inr, List.length_cons, List.length_nil, show ((0 + 1 : Nat) : Int) = 1 from rfl, show decide ((0 : Int) < 1) = true from rfl, show decide ((1 : Int) < 1) = false from rfl, decide_true, cond_true, cond_false, show (0 : Int) ≤ 0 ∧ (0 : Int) < 1 from by decide, and_self, if_true, w0, r0, impl_VarText_is h0 h1, c1]

/-- Numbers, one after the other. -/
def numsF : List Int → List Int → List Int
  | [], s => s
  | n :: l, s => numsF l (s ++ intsOf (varB n))
theorem numsF_len : ∀ (l s : List Int), (numsF l s).length ≤ s.length + 2 * l.length
  | [], s => by simp [numsF]
  | n :: l, s => by
    have := numsF_len l (s ++ intsOf (varB n))
    have v := varB_size n
    rw [List.length_append, intsOf_length] at this
    simp only [numsF, List.length_cons]; omega
theorem impl_plan_num_w0_is {u0} : ∀ (l s : List Int) (i : Nat), (∀ n ∈ l, 0 ≤ n ∧ n ≤ 16383) → s.length + 2 * l.length ≤ 100000 → ∃ j : Int, ∀ k, impl_plan_num_w0 u0 l s i k = k (j, numsF l s)
  | [], s, i, _, _ => ⟨_, fun k => rfl⟩
  | n :: l, s, i, h, hs => by
    simp only [List.length_cons] at hs
    have v := varB_size n
    have e : (s ++ intsOf (varB n)).length ≤ s.length + 2 := by rw [List.length_append, intsOf_length]; omega
    obtain ⟨j, hj⟩ := impl_plan_num_w0_is (u0 := u0) l (s ++ intsOf (varB n)) (i + 1) (fun y hy => h y (by simp [hy])) (by omega)
    refine ⟨j, fun k => ?_⟩
    simp only [impl_plan_num_w0, impl_VarText_is (h n (by simp)).1 (h n (by simp)).2, numsF]
    rw [if_pos (by rw [intsOf_length]; simp only [VE.maxLen]; omega), hj]
theorem impl_plan_num_is {l : List Int} (h : ∀ n ∈ l, 0 ≤ n ∧ n ≤ 16383) (hl : l.length ≤ 100) (k) : impl_plan_num_k l k = k (numsF l []) := by
  rw [impl_plan_num_r (by omega)]
  unfold impl_plan_num_t
  obtain ⟨j, hj⟩ := impl_plan_num_w0_is (u0 := l) l [] 0 h (by simp; omega)
  rw [hj]

def rangesI : List tRange.D → List Int → List Int
  | [], s => s
  | y :: l, s => rangesI l ((s ++ intsOf (shB y.1)) ++ intsOf (shB y.2))
def rangesT : List tRange.D → ByteArray → ByteArray
  | [], s => s
  | y :: l, s => rangesT l ((s ++ shB y.1) ++ shB y.2)
theorem rangesI_T : ∀ l s, bytesOf (rangesI l s) = rangesT l (bytesOf s)
  | [], s => rfl
  | y :: l, s => by rw [rangesI, rangesT, rangesI_T, bytesOf_append, bytesOf_append, bytesOf_intsOf, bytesOf_intsOf]
def writesI : List tWrite.D → List Int → List Int
  | [], s => s
  | y :: l, s => writesI l (((s ++ intsOf (shB y.1)) ++ intsOf (shB y.2.1)) ++ intsOf (bitB y.2.2))
def writesT : List tWrite.D → ByteArray → ByteArray
  | [], s => s
  | y :: l, s => writesT l (((s ++ shB y.1) ++ shB y.2.1) ++ bitB y.2.2)
theorem writesI_T : ∀ l s, bytesOf (writesI l s) = writesT l (bytesOf s)
  | [], s => rfl
  | y :: l, s => by rw [writesI, writesT, writesI_T, bytesOf_append, bytesOf_append, bytesOf_append, bytesOf_intsOf, bytesOf_intsOf, bytesOf_intsOf]

theorem impl_TxnText_w0_is {u0 u3 u4 u5 u6 u7 u8 u9 u10} : ∀ (l : List tRange.D) (s : List Int) (i : Nat), (∀ y ∈ l, y.1.size ≤ 12 ∧ y.2.size ≤ 12) → s.length + 40 * l.length ≤ 10000 →
    ∃ j : Int, (∀ k, impl_TxnText_w0 u0 u3 u4 u5 u6 u7 u8 u9 u10 l s i k = k (j, rangesI l s)) ∧ (rangesI l s).length ≤ s.length + 40 * l.length
  | [], s, i, _, _ => ⟨_, fun k => rfl, by simp [rangesI]⟩
  | y :: l, s, i, h, hs => by
    simp only [List.length_cons] at hs
    have hy := h y (by simp)
    have s1 := shB_size y.1
    have s2 := shB_size y.2
    have e : ((s ++ intsOf (shB y.1)) ++ intsOf (shB y.2)).length ≤ s.length + 28 := by rw [List.length_append, List.length_append, intsOf_length, intsOf_length]; omega
    obtain ⟨j, hj, hl⟩ := impl_TxnText_w0_is (u0 := u0) (u3 := u3) (u4 := u4) (u5 := u5) (u6 := u6) (u7 := u7) (u8 := u8) (u9 := u9) (u10 := u10) l ((s ++ intsOf (shB y.1)) ++ intsOf (shB y.2)) (i + 1) (fun y hy => h y (by simp [hy])) (by omega)
    refine ⟨j, fun k => ?_, by simp only [rangesI, List.length_cons]; omega⟩
    simp only [impl_TxnText_w0, impl_plan_text_two hy.1 hy.2 (show s.length ≤ 100000 by omega), Sum.elim_inr, hj, rangesI]

theorem impl_TxnText_w2_is {u0 u3 u4 u5 u6 u7 u8 u9 u10} : ∀ (l : List tWrite.D) (s : List Int) (i : Nat), (∀ y ∈ l, y.1.size ≤ 12 ∧ y.2.1.size ≤ 12) → s.length + 40 * l.length ≤ 10000 →
    ∃ j : Int, (∀ k, impl_TxnText_w2 u0 u3 u4 u5 u6 u7 u8 u9 u10 l s i k = k (j, writesI l s)) ∧ (writesI l s).length ≤ s.length + 40 * l.length
  | [], s, i, _, _ => ⟨_, fun k => rfl, by simp [writesI]⟩
  | y :: l, s, i, h, hs => by
    simp only [List.length_cons] at hs
    have hy := h y (by simp)
    have s1 := shB_size y.1
    have s2 := shB_size y.2.1
    have s3 := bitB_size y.2.2
    have e0 : ((s ++ intsOf (shB y.1)) ++ intsOf (shB y.2.1)).length ≤ s.length + 28 := by rw [List.length_append, List.length_append, intsOf_length, intsOf_length]; omega
    have e : (((s ++ intsOf (shB y.1)) ++ intsOf (shB y.2.1)) ++ intsOf (bitB y.2.2)).length ≤ s.length + 29 := by rw [List.length_append, intsOf_length]; omega
    obtain ⟨j, hj, hl⟩ := impl_TxnText_w2_is (u0 := u0) (u3 := u3) (u4 := u4) (u5 := u5) (u6 := u6) (u7 := u7) (u8 := u8) (u9 := u9) (u10 := u10) l (((s ++ intsOf (shB y.1)) ++ intsOf (shB y.2.1)) ++ intsOf (bitB y.2.2)) (i + 1) (fun y hy => h y (by simp [hy])) (by omega)
    refine ⟨j, fun k => ?_, by simp only [writesI, List.length_cons]; omega⟩
    simp only [impl_TxnText_w2, impl_plan_text_two hy.1 hy.2 (show s.length ≤ 100000 by omega), Sum.elim_inr, impl_plan_flag_is y.2.2 (show ((s ++ intsOf (shB y.1)) ++ intsOf (shB y.2.1)).length ≤ 100000 by omega), hj, writesI]

theorem spec_TxnText_w0_is {u2 u3 u4 u5 u6 u7 u8 u9} : ∀ (l : List tRange.D) (s : ByteArray) (i : Nat), (∀ y ∈ l, y.1.size ≤ 12 ∧ y.2.size ≤ 12) → s.size + 40 * l.length ≤ 10000 →
    ∃ j : Int, (∀ k, spec_TxnText_w0 u2 u3 u4 u5 u6 u7 u8 u9 l s i k = k (rangesT l s, j)) ∧ (rangesT l s).size ≤ s.size + 40 * l.length
  | [], s, i, _, _ => ⟨_, fun k => rfl, by simp [rangesT]⟩
  | y :: l, s, i, h, hs => by
    simp only [List.length_cons] at hs
    have hy := h y (by simp)
    have s1 := shB_size y.1
    have s2 := shB_size y.2
    have e1 : (s ++ shB y.1).size ≤ s.size + 14 := by rw [ByteArray.size_append]; omega
    have e : ((s ++ shB y.1) ++ shB y.2).size ≤ s.size + 28 := by rw [ByteArray.size_append]; omega
    obtain ⟨j, hj, hl⟩ := spec_TxnText_w0_is (u2 := u2) (u3 := u3) (u4 := u4) (u5 := u5) (u6 := u6) (u7 := u7) (u8 := u8) (u9 := u9) l ((s ++ shB y.1) ++ shB y.2) (i + 1) (fun y hy => h y (by simp [hy])) (by omega)
    refine ⟨j, fun k => ?_, by simp only [rangesT, List.length_cons]; omega⟩
    simp only [spec_TxnText_w0, spec_l07Short_is hy.1, spec_l07Short_is hy.2, rangesT]
    rw [if_pos (by omega), if_pos (by omega), hj]

theorem spec_TxnText_w2_is {u2 u3 u4 u5 u6 u7 u8 u9} : ∀ (l : List tWrite.D) (s : ByteArray) (i : Nat), (∀ y ∈ l, y.1.size ≤ 12 ∧ y.2.1.size ≤ 12) → s.size + 40 * l.length ≤ 10000 →
    ∃ j : Int, (∀ k, spec_TxnText_w2 u2 u3 u4 u5 u6 u7 u8 u9 l s i k = k (writesT l s, j)) ∧ (writesT l s).size ≤ s.size + 40 * l.length
  | [], s, i, _, _ => ⟨_, fun k => rfl, by simp [writesT]⟩
  | y :: l, s, i, h, hs => by
    simp only [List.length_cons] at hs
    have hy := h y (by simp)
    have s1 := shB_size y.1
    have s2 := shB_size y.2.1
    have s3 := bitB_size y.2.2
    have e1 : (s ++ shB y.1).size ≤ s.size + 14 := by rw [ByteArray.size_append]; omega
    have e2 : ((s ++ shB y.1) ++ shB y.2.1).size ≤ s.size + 28 := by rw [ByteArray.size_append]; omega
    have e : (((s ++ shB y.1) ++ shB y.2.1) ++ bitB y.2.2).size ≤ s.size + 29 := by rw [ByteArray.size_append]; omega
    obtain ⟨j, hj, hl⟩ := spec_TxnText_w2_is (u2 := u2) (u3 := u3) (u4 := u4) (u5 := u5) (u6 := u6) (u7 := u7) (u8 := u8) (u9 := u9) l (((s ++ shB y.1) ++ shB y.2.1) ++ bitB y.2.2) (i + 1) (fun y hy => h y (by simp [hy])) (by omega)
    refine ⟨j, fun k => ?_, by simp only [writesT, List.length_cons]; omega⟩
    simp only [spec_TxnText_w2, spec_l07Short_is hy.1, spec_l07Short_is hy.2, spec_l07Bit_is, writesT]
    rw [if_pos (by omega), if_pos (by omega), if_pos (by omega), hj]

theorem keyOk_size {s : ByteArray} (h : keyOkB s = true) : s.size ≤ 3 := by
  unfold keyOkB withinB at h
  simp only [Bool.and_eq_true, decide_eq_true_eq] at h
  omega
theorem writesFrom_mem : ∀ {l : List tWrite.D} {p}, writesFrom p l = true → ∀ y ∈ l, writeOkB y = true
  | [], _, _, y, hy => by cases hy
  | z :: l, p, h, y, hy => by
    simp only [writesFrom, Bool.and_eq_true] at h
    cases hy with
    | head => exact h.1.1
    | tail _ hm => exact writesFrom_mem h.2 y hm
def smallN (n : Int) : Prop := 0 ≤ n ∧ n ≤ 16383
theorem txnOk_small {t : tTxn.D} (h : txnOkB t = true) : smallN t.1 ∧ smallN t.2.1 ∧ smallN t.2.2.1 ∧ smallN t.2.2.2.1 ∧
    t.2.2.2.2.1.length ≤ 8 ∧ (∀ y ∈ t.2.2.2.2.1, y.1.size ≤ 12 ∧ y.2.size ≤ 12) ∧ t.2.2.2.2.2.1.length ≤ 8 ∧ (∀ y ∈ t.2.2.2.2.2.1, y.1.size ≤ 12 ∧ y.2.1.size ≤ 12) ∧ t.2.2.2.2.2.2.2.size ≤ 12 := by
  unfold txnOkB withinB writesOkB at h
  simp only [Bool.and_eq_true, Bool.not_eq_true', decide_eq_true_eq, decide_eq_false_iff_not, List.any_eq_false, Bool.not_eq_true, Bool.and_eq_false_iff, beq_eq_false_iff_ne, bne_eq_false_iff_eq, Bool.not_eq_false', Bool.or_eq_true, ne_eq] at h
  obtain ⟨⟨⟨⟨⟨⟨⟨⟨⟨⟨a1, a2⟩, a3⟩, a4⟩, ⟨a5, a6⟩⟩, a7⟩, a8⟩, a9⟩, a10⟩, a11⟩, a12⟩ := h
  unfold smallN
  refine ⟨by omega, by omega, by omega, ?_, by omega, fun y hy => ?_, by omega, fun y hy => ?_, ?_⟩
  · by_cases c : t.2.1 = 3
    · have := a8.resolve_left (fun hc => hc c)
      have w : IntKind.wrap .i64 (t.2.2.1 + 1) = t.2.2.1 + 1 := wrap64 (by omega) (by omega)
      rw [w] at this
      omega
    · have : @Eq Int t.2.2.2.1 0 := a9.resolve_left (fun hc => c hc)
      omega
  · have : rangeOkB y = true := by have := a7 y hy; revert this; cases rangeOkB y <;> simp
    unfold rangeOkB at this
    simp only [Bool.and_eq_true] at this
    have b1 := keyOk_size this.1.1
    have b2 := keyOk_size this.1.2
    omega
  · have := writesFrom_mem a5 y hy
    unfold writeOkB at this
    simp only [Bool.and_eq_true, decide_eq_true_eq] at this
    have b1 := keyOk_size this.1.1
    omega
  · by_cases c : t.2.1 = 2
    · have := keyOk_size (a10.resolve_left (fun hc => hc c))
      omega
    · have := strEq_true (a11.resolve_left (fun hc => c hc))
      rw [this]; decide

def txnTextB (t : tTxn.D) : ByteArray :=
  (writesT t.2.2.2.2.2.1 (rangesT t.2.2.2.2.1 (varB t.1 ++ varB t.2.1 ++ varB t.2.2.1 ++ varB t.2.2.2.1 ++ varB t.2.2.2.2.1.length) ++ varB t.2.2.2.2.2.1.length) ++ bitB t.2.2.2.2.2.2.1) ++ shB t.2.2.2.2.2.2.2

theorem spec_TxnText_is {t : tTxn.D} (ht : tTxn.wt t ≤ 1048576) (k) : spec_TxnText_k t k = k (bif txnOkB t then (txnTextB t, true) else (⟨#[]⟩, false)) := by
  rw [spec_TxnText_r (by have := wtTxn t; have := len_le (show (Ty.slice tWrite).wt t.2.2.2.2.2.1 ≤ 1048576 by omega); omega) (by have := wtTxn t; have := len_le (show (Ty.slice tRange).wt t.2.2.2.2.1 ≤ 1048576 by omega); omega)]
  unfold spec_TxnText_t txnTextB
  simp only [spec_TxnOk_is ht]
  cases h : txnOkB t
  · rfl
  · obtain ⟨⟨_, b1⟩, ⟨_, b2⟩, ⟨_, b3⟩, ⟨_, b4⟩, b5, b6, b7, b8, b9⟩ := txnOk_small h
    have v1 := varB_size t.1
    have v2 := varB_size t.2.1
    have v3 := varB_size t.2.2.1
    have v4 := varB_size t.2.2.2.1
    have v5 := varB_size (t.2.2.2.2.1.length : Int)
    have v6 := varB_size (t.2.2.2.2.2.1.length : Int)
    have v7 := bitB_size t.2.2.2.2.2.2.1
    have v8 := shB_size t.2.2.2.2.2.2.2
    have s2 := ByteArray.size_append (a := (varB t.1)) (b := (varB t.2.1))
    have s3 := ByteArray.size_append (a := (varB t.1 ++ varB t.2.1)) (b := (varB t.2.2.1))
    have s4 := ByteArray.size_append (a := (varB t.1 ++ varB t.2.1 ++ varB t.2.2.1)) (b := (varB t.2.2.2.1))
    have s5 := ByteArray.size_append (a := (varB t.1 ++ varB t.2.1 ++ varB t.2.2.1 ++ varB t.2.2.2.1)) (b := (varB t.2.2.2.2.1.length))
    obtain ⟨j1, h1, z1⟩ := spec_TxnText_w0_is (u2 := t.1) (u3 := t.2.1) (u4 := t.2.2.1) (u5 := t.2.2.2.1) (u6 := t.2.2.2.2.1) (u7 := t.2.2.2.2.2.1) (u8 := t.2.2.2.2.2.2.1) (u9 := t.2.2.2.2.2.2.2) t.2.2.2.2.1 (varB t.1 ++ varB t.2.1 ++ varB t.2.2.1 ++ varB t.2.2.2.1 ++ varB t.2.2.2.2.1.length) 0 b6 (by omega)
    have s6 := ByteArray.size_append (a := (rangesT t.2.2.2.2.1 (varB t.1 ++ varB t.2.1 ++ varB t.2.2.1 ++ varB t.2.2.2.1 ++ varB t.2.2.2.2.1.length))) (b := (varB t.2.2.2.2.2.1.length))
    obtain ⟨j2, h2, z2⟩ := spec_TxnText_w2_is (u2 := t.1) (u3 := t.2.1) (u4 := t.2.2.1) (u5 := t.2.2.2.1) (u6 := t.2.2.2.2.1) (u7 := t.2.2.2.2.2.1) (u8 := t.2.2.2.2.2.2.1) (u9 := t.2.2.2.2.2.2.2) t.2.2.2.2.2.1 (rangesT t.2.2.2.2.1 (varB t.1 ++ varB t.2.1 ++ varB t.2.2.1 ++ varB t.2.2.2.1 ++ varB t.2.2.2.2.1.length) ++ varB t.2.2.2.2.2.1.length) 0 b8 (by omega)
    have s7 := ByteArray.size_append (a := (writesT t.2.2.2.2.2.1 (rangesT t.2.2.2.2.1 (varB t.1 ++ varB t.2.1 ++ varB t.2.2.1 ++ varB t.2.2.2.1 ++ varB t.2.2.2.2.1.length) ++ varB t.2.2.2.2.2.1.length))) (b := (bitB t.2.2.2.2.2.2.1))
    simp only [Bool.not_true, cond_false, cond_true, spec_l01Var_is b1, spec_l01Var_is b2, spec_l01Var_is b3, spec_l01Var_is b4, spec_l01Var_is (show (t.2.2.2.2.1.length : Int) ≤ 16383 by omega), spec_l01Var_is (show (t.2.2.2.2.2.1.length : Int) ≤ 16383 by omega), spec_l07Bit_is, spec_l07Short_is b9]
    rw [if_pos (by omega), if_pos (by omega), if_pos (by omega), if_pos (by omega), h1]
    simp only []
    rw [if_pos (by omega), h2]
    simp only []
    rw [if_pos (by omega), if_pos (by omega)]

theorem impl_TxnText_is {t : tTxn.D} (ht : tTxn.wt t ≤ 1048576) (k) : impl_TxnText_k t k = k (bif txnOkB t then (txnTextB t, true) else (⟨#[]⟩, false)) := by
  rw [impl_TxnText_r (by have := wtTxn t; have := len_le (show (Ty.slice tWrite).wt t.2.2.2.2.2.1 ≤ 1048576 by omega); omega) (by have := wtTxn t; have := len_le (show (Ty.slice tRange).wt t.2.2.2.2.1 ≤ 1048576 by omega); omega)]
  unfold impl_TxnText_t txnTextB
  simp only [impl_TxnOk_is ht]
  cases h : txnOkB t
  · rfl
  · obtain ⟨b1, b2, b3, b4, b5, b6, b7, b8, b9⟩ := txnOk_small h
    have hn : ∀ n ∈ ([t.1, t.2.1, t.2.2.1, t.2.2.2.1, (t.2.2.2.2.1.length : Int)] : List Int), 0 ≤ n ∧ n ≤ 16383 := by
      intro n hn
      simp only [List.mem_cons, List.not_mem_nil, or_false] at hn
      rcases hn with rfl | rfl | rfl | rfl | rfl
      · exact b1
      · exact b2
      · exact b3
      · exact b4
      · exact ⟨Int.natCast_nonneg _, by omega⟩
    have n1 := numsF_len [t.1, t.2.1, t.2.2.1, t.2.2.2.1, (t.2.2.2.2.1.length : Int)] []
    simp only [List.length_cons, List.length_nil] at n1
    obtain ⟨j1, h1, z1⟩ := impl_TxnText_w0_is (u0 := t.2.2.2.2.1) (u3 := t.1) (u4 := t.2.1) (u5 := t.2.2.1) (u6 := t.2.2.2.1) (u7 := t.2.2.2.2.1) (u8 := t.2.2.2.2.2.1) (u9 := t.2.2.2.2.2.2.1) (u10 := t.2.2.2.2.2.2.2) t.2.2.2.2.1 (numsF [t.1, t.2.1, t.2.2.1, t.2.2.2.1, (t.2.2.2.2.1.length : Int)] []) 0 b6 (by omega)
    have v6 := varB_size (t.2.2.2.2.2.1.length : Int)
    have e1 : (rangesI t.2.2.2.2.1 (numsF [t.1, t.2.1, t.2.2.1, t.2.2.2.1, (t.2.2.2.2.1.length : Int)] []) ++ intsOf (varB (t.2.2.2.2.2.1.length : Int))).length ≤ 500 := by rw [List.length_append, intsOf_length]; omega
    obtain ⟨j2, h2, z2⟩ := impl_TxnText_w2_is (u0 := t.2.2.2.2.2.1) (u3 := t.1) (u4 := t.2.1) (u5 := t.2.2.1) (u6 := t.2.2.2.1) (u7 := t.2.2.2.2.1) (u8 := t.2.2.2.2.2.1) (u9 := t.2.2.2.2.2.2.1) (u10 := t.2.2.2.2.2.2.2) t.2.2.2.2.2.1 (rangesI t.2.2.2.2.1 (numsF [t.1, t.2.1, t.2.2.1, t.2.2.2.1, (t.2.2.2.2.1.length : Int)] []) ++ intsOf (varB (t.2.2.2.2.2.1.length : Int))) 0 b8 (by omega)
    have v7 := bitB_size t.2.2.2.2.2.2.1
    have e2 : (writesI t.2.2.2.2.2.1 (rangesI t.2.2.2.2.1 (numsF [t.1, t.2.1, t.2.2.1, t.2.2.2.1, (t.2.2.2.2.1.length : Int)] []) ++ intsOf (varB (t.2.2.2.2.2.1.length : Int))) ++ intsOf (bitB t.2.2.2.2.2.2.1)).length ≤ 1000 := by rw [List.length_append, intsOf_length]; omega
    simp only [Bool.not_true, cond_false, cond_true, impl_plan_num_is hn (show _ ≤ 100 by simp), h1, impl_plan_num_one (s := rangesI t.2.2.2.2.1 (numsF [t.1, t.2.1, t.2.2.1, t.2.2.2.1, (t.2.2.2.2.1.length : Int)] [])) (show (0 : Int) ≤ (t.2.2.2.2.2.1.length : Int) by omega) (show (t.2.2.2.2.2.1.length : Int) ≤ 16383 by omega) (by omega), Sum.elim_inr, h2, impl_plan_flag_is t.2.2.2.2.2.2.1 (s := writesI t.2.2.2.2.2.1 (rangesI t.2.2.2.2.1 (numsF [t.1, t.2.1, t.2.2.1, t.2.2.2.1, (t.2.2.2.2.1.length : Int)] []) ++ intsOf (varB (t.2.2.2.2.2.1.length : Int)))) (by omega), impl_plan_text_one b9 (s := (writesI t.2.2.2.2.2.1 (rangesI t.2.2.2.2.1 (numsF [t.1, t.2.1, t.2.2.1, t.2.2.2.1, (t.2.2.2.2.1.length : Int)] []) ++ intsOf (varB (t.2.2.2.2.2.1.length : Int))) ++ intsOf (bitB t.2.2.2.2.2.2.1))) (by omega)]
    congr 2
    simp only [bytesOf_append, bytesOf_intsOf, writesI_T, rangesI_T, numsF, show bytesOf [] = (⟨#[]⟩ : ByteArray) from rfl, List.nil_append]

end
end Go.VE
