/- Plain laws: sums; a record's text. -/
import Derived.Test.YteolgjmeigifbaaRecordTextR12
namespace Go.VE
noncomputable section
set_option linter.unusedVariables false
set_option linter.unusedSimpArgs false
set_option maxRecDepth 100000

theorem sum_b2 : ∀ (d : Nat) (c : Nat) (x : Int) (s : ByteArray) (i : Int) (q : Nat), 8 - c = d → c ≤ 8 → d < q → ∃ v : Int, ∀ K, loopK spec_SumMore_b2 q (x, s, i, (c : Int)) K = K (v, s, i, 8) := by
  intro d
  induction d with
  | zero =>
    intro c x s i q hd hc hq
    obtain ⟨q, rfl⟩ : ∃ q', q = q' + 1 := ⟨q - 1, by omega⟩
    have : c = 8 := by omega
    subst this
    refine ⟨x, fun K => ?_⟩
    simp only [loopK, spec_SumMore_b2, show ¬ ((8 : Nat) : Int) < 8 by omega, decide_false, cond_false, Sum.elim_inr]
    rfl
  | succ d ih =>
    intro c x s i q hd hc hq
    obtain ⟨q, rfl⟩ : ∃ q', q = q' + 1 := ⟨q - 1, by omega⟩
    have hw : IntKind.wrap .i64 ((c : Int) + 1) = ((c + 1 : Nat) : Int) := wrap_succ (by omega)
    cases ht : (x.tmod 2 == 1)
    · obtain ⟨v, hv⟩ := ih (c + 1) (IntKind.wrap .u32 (x.tdiv (2 : Int))) s i q (by omega) (by omega) (by omega)
      refine ⟨v, fun K => ?_⟩
      simp only [loopK, spec_SumMore_b2, show (c : Int) < 8 by omega, decide_true, cond_true, ht, cond_false, Sum.elim_inl, hw]
      exact hv K
    · obtain ⟨v, hv⟩ := ih (c + 1) (IntKind.wrap .u32 (BitVec.ofInt (IntKind.bits .u32) (IntKind.wrap .u32 (x.tdiv (2 : Int))) ^^^ BitVec.ofInt (IntKind.bits .u32) (3558460437 : Int)).toNat) s i q (by omega) (by omega) (by omega)
      refine ⟨v, fun K => ?_⟩
      simp only [loopK, spec_SumMore_b2, show (c : Int) < 8 by omega, decide_true, cond_true, ht, Sum.elim_inl, hw]
      exact hv K

theorem sum_b0 {s : ByteArray} (hs : s.size ≤ 1000000000) : ∀ (d i : Nat) (x : Int) (q : Nat), s.size - i = d → i ≤ s.size → d < q → ∃ v j : Int, ∀ K, loopK spec_SumMore_b0 q (x, s, (i : Int)) K = K (v, s, j) := by
  intro d
  induction d with
  | zero =>
    intro i x q hd hi hq
    obtain ⟨q, rfl⟩ : ∃ q', q = q' + 1 := ⟨q - 1, by omega⟩
    refine ⟨x, (i : Int), fun K => ?_⟩
    simp only [loopK, spec_SumMore_b0, show ¬ (i : Int) < (s.size : Int) by omega, decide_false, cond_false, Sum.elim_inr]
  | succ d ih =>
    intro i x q hd hi hq
    obtain ⟨q, rfl⟩ : ∃ q', q = q' + 1 := ⟨q - 1, by omega⟩
    have hw : IntKind.wrap .i64 ((i : Int) + 1) = ((i + 1 : Nat) : Int) := wrap_succ (by omega)
    obtain ⟨v, hv⟩ := sum_b2 8 0 (IntKind.wrap .u32 (BitVec.ofInt (IntKind.bits .u32) x ^^^ BitVec.ofInt (IntKind.bits .u32) (IntKind.wrap .u32 (bt s (i : Int)))).toNat) s (i : Int) Fuel rfl (by omega) (Nat.lt_of_lt_of_le (by omega) fuel_big)
    obtain ⟨v2, j, hj⟩ := ih (i + 1) v q (by omega) (by omega) (by omega)
    refine ⟨v2, j, fun K => ?_⟩
    have hz : ((0 : Nat) : Int) = 0 := rfl
    rw [hz] at hv
    simp only [loopK, spec_SumMore_b0, show (i : Int) < (s.size : Int) by omega, show (0 : Int) ≤ (i : Int) by omega, and_self, if_true, decide_true, cond_true, hv, Sum.elim_inl, hw]
    exact hj K

theorem spec_SumMore_ex (x : Int) (s : ByteArray) : ∃ v : Int, s.size ≤ 1000000000 → ∀ k, spec_SumMore_k x s k = k v := by
  by_cases hs : s.size ≤ 1000000000
  · obtain ⟨v, j, hj⟩ := sum_b0 hs (s.size - 0) 0 x Fuel rfl (by omega) (Nat.lt_of_lt_of_le (by omega) fuel_big)
    refine ⟨v, fun _ k => ?_⟩
    rw [spec_SumMore_e]
    unfold spec_SumMore_d
    have hz : ((0 : Nat) : Int) = 0 := rfl
    rw [hz] at hj
    rw [hj]
  · exact ⟨0, fun h => absurd h hs⟩

def sumB (s : ByteArray) : Int := Classical.choose (spec_SumMore_ex 4294967295 s)
theorem spec_SumOf_is {s : ByteArray} (hs : s.size ≤ 1000000000) (k) : spec_SumOf_k s k = k (sumB s) := by
  rw [spec_SumOf_e]; unfold spec_SumOf_d
  exact Classical.choose_spec (spec_SumMore_ex 4294967295 s) hs k
theorem sum_same (x : Int) (s : ByteArray) : impl_SumMore_k x s = spec_SumMore_k x s := by
  rw [impl_SumMore_e, spec_SumMore_e]
  have h2 : impl_SumMore_b2 = spec_SumMore_b2 := rfl
  have h0 : impl_SumMore_b0 = spec_SumMore_b0 := by
    funext x k
    unfold impl_SumMore_b0 spec_SumMore_b0
    rw [h2]
  funext k
  unfold impl_SumMore_d spec_SumMore_d
  rw [h0]
theorem impl_SumOf_is {s : ByteArray} (hs : s.size ≤ 1000000000) (k) : impl_SumOf_k s k = k (sumB s) := by
  rw [impl_SumOf_e]; unfold impl_SumOf_d
  rw [sum_same]
  exact Classical.choose_spec (spec_SumMore_ex 4294967295 s) hs k

def fourB (n : Int) : ByteArray := bytesOf [(IntKind.wrap .u8 (n.fdiv (2 ^ (min (24 : Int).toNat (IntKind.bits .u32))))), (IntKind.wrap .u8 (n.fdiv (2 ^ (min (16 : Int).toNat (IntKind.bits .u32))))), (IntKind.wrap .u8 (n.fdiv (2 ^ (min (8 : Int).toNat (IntKind.bits .u32))))), (IntKind.wrap .u8 n)]
def sealedB (s : ByteArray) : ByteArray × Bool := bif decide ((s.size : Int) > 20000) then (⟨#[]⟩, false) else (s ++ fourB (sumB s), true)
theorem fourB_size (n : Int) : (fourB n).size = 4 := by unfold fourB; rw [bytesOf_size]; rfl
theorem spec_Sealed_is {s : ByteArray} (hs : s.size ≤ 1000000000) (k) : spec_Sealed_k s k = k (sealedB s) := by
  rw [spec_Sealed_e]; unfold spec_Sealed_d sealedB
  cases decide ((s.size : Int) > 20000)
  · have : ∀ n k, spec_l02Four_k n k = k (fourB n) := fun n k => by rw [spec_l02Four_e]; rfl
    simp only [cond_false, spec_SumOf_is hs, this, fourB_size]
    rw [if_pos (by omega)]
  · rfl
theorem impl_Sealed_is {s : ByteArray} (hs : s.size ≤ 1000000000) (k) : impl_Sealed_k s k = k (sealedB s) := by
  rw [impl_Sealed_e]; unfold impl_Sealed_d sealedB
  cases decide ((s.size : Int) > 20000)
  · simp only [cond_false, impl_SumOf_is hs]
    rw [if_pos (by have := fourB_size (sumB s); unfold fourB at this; omega)]
    rfl
  · rfl

theorem versT_size : ∀ (l : List tVersion.D) (s : ByteArray), (∀ y ∈ l, smallV y) → (versT l s).size ≤ s.size + 40 * l.length
  | [], s, _ => by simp [versT]
  | y :: l, s, h => by
    obtain ⟨h1, h2, _, _⟩ := h y (by simp)
    have s1 := shB_size y.1
    have s2 := shB_size y.2.1
    have s3 := bitB_size y.2.2.1
    have s4 := varB_size y.2.2.2
    have ih := versT_size l ((((s ++ shB y.1) ++ shB y.2.1) ++ bitB y.2.2.1) ++ varB y.2.2.2) (fun y hy => h y (by simp [hy]))
    rw [ByteArray.size_append, ByteArray.size_append, ByteArray.size_append, ByteArray.size_append] at ih
    simp only [versT, List.length_cons]
    omega
theorem textsT_size : ∀ (l : List tTxn.D) (s : ByteArray), (∀ y ∈ l, txnOkB y = true) → (textsT l s).size ≤ s.size + 1000 * l.length
  | [], s, _ => by simp [textsT]
  | y :: l, s, h => by
    have s1 := txnText_size (h y (by simp))
    have ih := textsT_size l (s ++ txnTextB y) (fun y hy => h y (by simp [hy]))
    rw [ByteArray.size_append] at ih
    simp only [textsT, List.length_cons]
    omega
theorem baseText_size {b : tBase.D} (hw : tBase.wt b ≤ 1048576) (h : baseOkB b = true) : (baseTextB b).size ≤ 90000 := by
  obtain ⟨n1, n2, l1, v, l2, p, l3, r⟩ := baseOk_small hw h
  have v1 := varB_size b.2.2.2.1
  have v2 := varB_size b.2.2.2.2
  have v3 := varB_size (b.1.length : Int)
  have v4 := varB_size (b.2.1.length : Int)
  have v5 := varB_size (b.2.2.1.length : Int)
  have z1 := versT_size b.1 ((varB b.2.2.2.1 ++ varB b.2.2.2.2) ++ varB b.1.length) v
  have z2 := textsT_size b.2.1 (varB b.2.1.length) (fun y hy => (p y hy).2)
  have z3 := textsT_size b.2.2.1 (varB b.2.2.1.length) (fun y hy => (r y hy).2)
  unfold baseTextB
  simp only [ByteArray.size_append] at z1 z2 z3 ⊢
  omega

def recordTextB (r : tRecord.D) : ByteArray × Bool :=
  bif !recordOkB r then (⟨#[]⟩, false) else
  sealedB (bif r.1 == 3 then (bytesOf [IntKind.wrap .u8 r.1] ++ shB r.2.2.1) ++ bitB r.2.2.2.1 else bif r.1 == 4 then bytesOf [IntKind.wrap .u8 r.1] ++ baseTextB r.2.2.2.2 else bytesOf [IntKind.wrap .u8 r.1] ++ txnTextB r.2.1)

theorem record_cases {r : tRecord.D} (h : recordOkB r = true) : (r.1 = 3 ∧ r.2.2.1.size ≤ 3) ∨ (r.1 = 4 ∧ baseOkB r.2.2.2.2 = true) ∨ ((r.1 == 3) = false ∧ (r.1 == 4) = false ∧ txnOkB r.2.1 = true) := by
  unfold recordOkB at h
  by_cases k1 : r.1 = 1
  · rw [k1] at h ⊢
    right; right
    refine ⟨rfl, rfl, ?_⟩
    simp only [show ((1 : Int) == 1) = true from rfl, cond_true, Bool.and_eq_true] at h
    exact h.1.1.1.1
  by_cases k2 : r.1 = 2
  · rw [k2] at h ⊢
    right; right
    refine ⟨rfl, rfl, ?_⟩
    simp only [show ((2 : Int) == 1) = false from rfl, show ((2 : Int) == 2) = true from rfl, cond_false, cond_true, Bool.and_eq_true] at h
    exact h.1.1.1.1
  by_cases k3 : r.1 = 3
  · rw [k3] at h
    left
    simp only [show ((3 : Int) == 1) = false from rfl, show ((3 : Int) == 2) = false from rfl, show ((3 : Int) == 3) = true from rfl, cond_false, cond_true, Bool.and_eq_true] at h
    exact ⟨k3, keyOk_size h.1.2⟩
  by_cases k4 : r.1 = 4
  · rw [k4] at h
    right; left
    simp only [show ((4 : Int) == 1) = false from rfl, show ((4 : Int) == 2) = false from rfl, show ((4 : Int) == 3) = false from rfl, show ((4 : Int) == 4) = true from rfl, cond_false, cond_true, Bool.and_eq_true] at h
    exact ⟨k4, h.1.2⟩
  simp only [beq_eq_false_iff_ne.2 k1, beq_eq_false_iff_ne.2 k2, beq_eq_false_iff_ne.2 k3, beq_eq_false_iff_ne.2 k4, cond_false] at h
  cases h

theorem spec_RecordText_is {r : tRecord.D} (hr : tRecord.wt r ≤ 1048576) (k) : spec_RecordText_k r k = k (recordTextB r) := by
  have hr' := hr
  rw [wtRecord] at hr'
  have h1 : tTxn.wt r.2.1 ≤ 1048576 := by omega
  have h3 : tBase.wt r.2.2.2.2 ≤ 1048576 := by omega
  rw [spec_RecordText_e]
  unfold spec_RecordText_d recordTextB
  simp only [spec_RecordOk_is hr]
  cases h : recordOkB r
  · rfl
  · have b1 : (bytesOf [IntKind.wrap .u8 r.1]).size = 1 := rfl
    rcases record_cases h with ⟨e, hk⟩ | ⟨e, hb⟩ | ⟨e1, e2, ht⟩
    · have s1 := shB_size r.2.2.1
      have s2 := bitB_size r.2.2.2.1
      have s3 := ByteArray.size_append (a := bytesOf [IntKind.wrap .u8 r.1]) (b := shB r.2.2.1)
      have s4 := ByteArray.size_append (a := bytesOf [IntKind.wrap .u8 r.1] ++ shB r.2.2.1) (b := bitB r.2.2.2.1)
      have e' : (r.1 == 3) = true := by rw [e]; rfl
      simp only [Bool.not_true, cond_false, cond_true, e', spec_l07Short_is (show r.2.2.1.size ≤ 12 by omega), spec_l07Bit_is]
      rw [if_pos (by omega), if_pos (by omega), spec_Sealed_is (by omega)]
    · have s1 := baseText_size h3 hb
      have s4 := ByteArray.size_append (a := bytesOf [IntKind.wrap .u8 r.1]) (b := baseTextB r.2.2.2.2)
      have e' : (r.1 == 3) = false := by rw [e]; rfl
      have e2 : (r.1 == 4) = true := by rw [e]; rfl
      simp only [Bool.not_true, cond_false, cond_true, e', e2, spec_BaseText_is h3, hb]
      rw [if_pos (by omega), spec_Sealed_is (by omega)]
    · have s1 := txnText_size ht
      have s4 := ByteArray.size_append (a := bytesOf [IntKind.wrap .u8 r.1]) (b := txnTextB r.2.1)
      simp only [Bool.not_true, cond_false, cond_true, e1, e2, spec_TxnText_is h1, ht]
      rw [if_pos (by omega), spec_Sealed_is (by omega)]

theorem impl_RecordText_is {r : tRecord.D} (hr : tRecord.wt r ≤ 1048576) (k) : impl_RecordText_k r k = k (recordTextB r) := by
  have hr' := hr
  rw [wtRecord] at hr'
  have h1 : tTxn.wt r.2.1 ≤ 1048576 := by omega
  have h3 : tBase.wt r.2.2.2.2 ≤ 1048576 := by omega
  rw [impl_RecordText_e]
  unfold impl_RecordText_d recordTextB
  simp only [impl_RecordOk_is hr, impl_RecordText_j5000013]
  cases h : recordOkB r
  · rfl
  · have b1 : (bytesOf [IntKind.wrap .u8 r.1]).size = 1 := rfl
    rcases record_cases h with ⟨e, hk⟩ | ⟨e, hb⟩ | ⟨e1, e2, ht⟩
    · have s1 := shB_size r.2.2.1
      have s2 := bitB_size r.2.2.2.1
      have s3 := ByteArray.size_append (a := bytesOf [IntKind.wrap .u8 r.1]) (b := shB r.2.2.1)
      have s4 := ByteArray.size_append (a := bytesOf [IntKind.wrap .u8 r.1] ++ shB r.2.2.1) (b := bitB r.2.2.2.1)
      have e' : (r.1 == 3) = true := by rw [e]; rfl
      have hl : ([IntKind.wrap .u8 r.1] ++ intsOf (shB r.2.2.1)).length ≤ 100000 := by rw [List.length_append, intsOf_length]; simp; omega
      simp only [Bool.not_true, cond_false, cond_true, e', impl_plan_text_one (show r.2.2.1.size ≤ 12 by omega) (s := [IntKind.wrap .u8 r.1]) (by simp), Sum.elim_inr, impl_plan_flag_is _ hl, bytesOf_append, bytesOf_intsOf, impl_Sealed_is (show (bytesOf [IntKind.wrap .u8 r.1] ++ shB r.2.2.1 ++ bitB r.2.2.2.1).size ≤ 1000000000 by omega)]
    · have s1 := baseText_size h3 hb
      have s4 := ByteArray.size_append (a := bytesOf [IntKind.wrap .u8 r.1]) (b := baseTextB r.2.2.2.2)
      have e' : (r.1 == 3) = false := by rw [e]; rfl
      have e2 : (r.1 == 4) = true := by rw [e]; rfl
      have hm : [IntKind.wrap .u8 r.1].length + (intsOf (baseTextB r.2.2.2.2)).length ≤ VE.maxLen := by rw [intsOf_length]; show _ ≤ 4294967296; simp; omega
      simp only [Bool.not_true, cond_false, cond_true, e', e2, impl_BaseText_is h3, hb, if_pos hm, bytesOf_append, bytesOf_intsOf, impl_Sealed_is (show (bytesOf [IntKind.wrap .u8 r.1] ++ baseTextB r.2.2.2.2).size ≤ 1000000000 by omega)]
    · have s1 := txnText_size ht
      have s4 := ByteArray.size_append (a := bytesOf [IntKind.wrap .u8 r.1]) (b := txnTextB r.2.1)
      have hm : [IntKind.wrap .u8 r.1].length + (intsOf (txnTextB r.2.1)).length ≤ VE.maxLen := by rw [intsOf_length]; show _ ≤ 4294967296; simp; omega
      simp only [Bool.not_true, cond_false, cond_true, e1, e2, impl_TxnText_is h1, ht, if_pos hm, bytesOf_append, bytesOf_intsOf, impl_Sealed_is (show (bytesOf [IntKind.wrap .u8 r.1] ++ txnTextB r.2.1).size ≤ 1000000000 by omega)]

end
end Go.VE
