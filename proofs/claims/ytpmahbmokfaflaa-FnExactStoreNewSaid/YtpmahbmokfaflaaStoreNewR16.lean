/- Plain laws: a new store. -/
import Derived.Test.YtpmahbmokfaflaaStoreNewR6
namespace Go.VE
noncomputable section
set_option linter.unusedVariables false
set_option linter.unusedSimpArgs false
set_option maxRecDepth 100000

def zS : ByteArray := bytesOf (List.replicate 64 (0 : Int))
theorem zS_rep : repB (⟨#[0]⟩ : ByteArray) 64 = zS := by rfl

theorem set_same0 (n i : Nat) : (List.replicate n (0 : Int)).set i 0 = List.replicate n 0 := by
  apply List.ext_getElem
  · simp
  · intro j h1 h2
    rw [List.getElem_set]
    split <;> simp

theorem spec_l01Long_zero_loop : ∀ (m i q : Nat), i + m = 64 → m < q → ∃ j : Int, ∀ K, loopK spec_l01Long_b0 q ((64 : Int), (0 : Int), (i : Int), List.replicate 64 (0 : Int)) K = K ((64 : Int), (0 : Int), j, List.replicate 64 (0 : Int)) := by
  intro m
  induction m with
  | zero =>
    intro i q hi hq
    obtain ⟨q, rfl⟩ : ∃ q', q = q' + 1 := ⟨q - 1, by omega⟩
    refine ⟨(i : Int), fun K => ?_⟩
    simp only [loopK, spec_l01Long_b0, show ¬ (i : Int) < 64 by omega, decide_false, cond_false, Sum.elim_inr]
  | succ m ih =>
    intro i q hi hq
    obtain ⟨q, rfl⟩ : ∃ q', q = q' + 1 := ⟨q - 1, by omega⟩
    have hw : IntKind.wrap .i64 ((i : Int) + 1) = ((i + 1 : Nat) : Int) := wrap_succ (by omega)
    obtain ⟨j, hj⟩ := ih (i + 1) q (by omega) (by omega)
    refine ⟨j, fun K => ?_⟩
    simp only [loopK, spec_l01Long_b0, show (i : Int) < 64 by omega, decide_true, cond_true, List.length_replicate, show (0 : Int) ≤ (i : Int) by omega, show (i : Int) < ((64 : Nat) : Int) by omega, and_self, if_true, Int.toNat_natCast, set_same0, hw, Sum.elim_inl]
    exact hj K

theorem spec_l03Zero_is (k) : spec_l03Zero_k k = k zS := by
  rw [spec_l03Zero_e]
  unfold spec_l03Zero_d
  rw [spec_l01Long_e]
  unfold spec_l01Long_d
  obtain ⟨j, hj⟩ := spec_l01Long_zero_loop 64 0 Fuel rfl (Nat.lt_of_lt_of_le (by omega) fuel_big)
  have hz : ((0 : Nat) : Int) = 0 := rfl
  rw [hz] at hj
  rw [if_pos (by decide)]
  have he : List.replicate (64 : Int).toNat (Ty.zero (.int .u8)) = List.replicate 64 (0 : Int) := rfl
  rw [he, hj]
  rfl

theorem strings_Repeat_zero (k) : strings_Repeat_k (⟨#[0]⟩ : ByteArray) (64 : Int) k = k zS := by
  rw [strings_Repeat_e]
  unfold strings_Repeat_d
  rw [if_pos (by decide), zS_rep]

theorem spec_DiskNew_loop : ∀ (m i q : Nat), i + m = 97 → m < q → ∃ j : Int, ∀ K, loopK spec_DiskNew_b0 q ((97 : Int), (i : Int), List.replicate i zS) K = K ((97 : Int), j, List.replicate 97 zS) := by
  intro m
  induction m with
  | zero =>
    intro i q hi hq
    obtain ⟨q, rfl⟩ : ∃ q', q = q' + 1 := ⟨q - 1, by omega⟩
    have : i = 97 := by omega
    subst this
    refine ⟨((97 : Nat) : Int), fun K => ?_⟩
    simp only [loopK, spec_DiskNew_b0, show ¬ ((97 : Nat) : Int) < 97 by omega, decide_false, cond_false, Sum.elim_inr]
  | succ m ih =>
    intro i q hi hq
    obtain ⟨q, rfl⟩ : ∃ q', q = q' + 1 := ⟨q - 1, by omega⟩
    have hw : IntKind.wrap .i64 ((i : Int) + 1) = ((i + 1 : Nat) : Int) := wrap_succ (by omega)
    obtain ⟨j, hj⟩ := ih (i + 1) q (by omega) (by omega)
    refine ⟨j, fun K => ?_⟩
    have hm : (List.replicate i zS).length + [zS].length ≤ VE.maxLen := by show _ ≤ 4294967296; simp; omega
    simp only [loopK, spec_DiskNew_b0, show (i : Int) < 97 by omega, decide_true, cond_true, spec_l03Zero_is, if_pos hm, hw, Sum.elim_inl, ← List.replicate_succ']
    exact hj K

theorem impl_DiskNew_loop : ∀ (m i q : Nat), i + m = 97 → m < q → ∃ j : Int, ∀ K, loopK impl_DiskNew_b0 q ((97 : Int), (i : Int), List.replicate i zS) K = K ((97 : Int), j, List.replicate 97 zS) := by
  intro m
  induction m with
  | zero =>
    intro i q hi hq
    obtain ⟨q, rfl⟩ : ∃ q', q = q' + 1 := ⟨q - 1, by omega⟩
    have : i = 97 := by omega
    subst this
    refine ⟨((97 : Nat) : Int), fun K => ?_⟩
    simp only [loopK, impl_DiskNew_b0, show ¬ ((97 : Nat) : Int) < 97 by omega, decide_false, cond_false, Sum.elim_inr]
  | succ m ih =>
    intro i q hi hq
    obtain ⟨q, rfl⟩ : ∃ q', q = q' + 1 := ⟨q - 1, by omega⟩
    have hw : IntKind.wrap .i64 ((i : Int) + 1) = ((i + 1 : Nat) : Int) := wrap_succ (by omega)
    obtain ⟨j, hj⟩ := ih (i + 1) q (by omega) (by omega)
    refine ⟨j, fun K => ?_⟩
    have hm : (List.replicate i zS).length + [zS].length ≤ VE.maxLen := by show _ ≤ 4294967296; simp; omega
    simp only [loopK, impl_DiskNew_b0, show (i : Int) < 97 by omega, decide_true, cond_true, strings_Repeat_zero, if_pos hm, hw, Sum.elim_inl, ← List.replicate_succ']
    exact hj K

theorem spec_StoreNew_is (k) : spec_StoreNew_k k = k ((0 : Int), (1 : Int), List.replicate 97 zS) := by
  rw [spec_StoreNew_e]; unfold spec_StoreNew_d
  simp only [spec_EngineNew_is]
  rw [spec_LogNew_e]; unfold spec_LogNew_d
  rw [spec_l04Sectors_e]; unfold spec_l04Sectors_d
  rw [spec_DiskNew_e]; unfold spec_DiskNew_d
  obtain ⟨j, hj⟩ := spec_DiskNew_loop 97 0 Fuel rfl (Nat.lt_of_lt_of_le (by omega) fuel_big)
  have hz : ((0 : Nat) : Int) = 0 := rfl
  rw [hz] at hj
  have hj' : ∀ K, loopK spec_DiskNew_b0 Fuel ((97 : Int), (0 : Int), ([] : List ByteArray)) K = K ((97 : Int), j, List.replicate 97 zS) := hj
  simp only [spec_l01In_is, show withinB 97 1 100 = true by decide, Bool.not_true, cond_false, hj']

theorem impl_StoreNew_is (k) : impl_StoreNew_k k = k ((0 : Int), (1 : Int), List.replicate 97 zS) := by
  rw [impl_StoreNew_e]; unfold impl_StoreNew_d
  simp only [impl_EngineNew_is]
  rw [impl_LogNew_e]; unfold impl_LogNew_d
  rw [impl_DiskNew_e]; unfold impl_DiskNew_d
  obtain ⟨j, hj⟩ := impl_DiskNew_loop 97 0 Fuel rfl (Nat.lt_of_lt_of_le (by omega) fuel_big)
  have hz : ((0 : Nat) : Int) = 0 := rfl
  rw [hz] at hj
  have hj' : ∀ K, loopK impl_DiskNew_b0 Fuel ((97 : Int), (0 : Int), ([] : List ByteArray)) K = K ((97 : Int), j, List.replicate 97 zS) := hj
  simp only [impl_within_is, show withinB 97 1 100 = true by decide, Bool.not_true, cond_false, hj']


def markS : Int → List ByteArray → List ByteArray
  | _, [] => []
  | c, y :: l => markB c :: markS (c + 1) l

theorem markS_length : ∀ (c : Int) (l : List ByteArray), (markS c l).length = l.length
  | _, [] => rfl
  | c, y :: l => by simp [markS, markS_length (c + 1) l]

theorem markStringS_loop : ∀ (l pre : List ByteArray) (c : Int) (q : Nat), 0 ≤ c → c + l.length ≤ 9000000 → pre.length + l.length ≤ 1048576 → l.length < q →
    ∃ j : Int, ∀ k, loopK laws_markStringS_vo_b0 q (c, (pre.length : Int), pre ++ l) k = k (c + l.length, j, pre ++ markS c l)
  | [], pre, c, q, h0, hc, hl, hq => by
    obtain ⟨q, rfl⟩ : ∃ r, q = r + 1 := ⟨q - 1, by omega⟩
    refine ⟨pre.length, fun k => ?_⟩
    simp only [loopK, laws_markStringS_vo_b0, List.append_nil, Int.lt_irrefl, decide_false, cond_false, Sum.elim_inr, List.length_nil, markS]
    simp
  | y :: l, pre, c, q, h0, hc, hl, hq => by
    obtain ⟨q, rfl⟩ : ∃ r, q = r + 1 := ⟨q - 1, by omega⟩
    simp only [List.length_cons] at hc hl hq
    obtain ⟨j, hj⟩ := markStringS_loop l (pre ++ [markB c]) (c + 1) q (by omega) (by omega) (by rw [List.length_append, List.length_singleton]; omega) (by omega)
    refine ⟨j, fun k => ?_⟩
    have hlt : (pre.length : Int) < ((pre ++ y :: l).length : Int) := by rw [List.length_append, List.length_cons]; omega
    have w1 : IntKind.wrap .i64 (c + 1) = c + 1 := wrap64 (by omega) (by omega)
    have w3 : IntKind.wrap .i64 ((pre.length : Int) + 1) = ((pre.length + 1 : Nat) : Int) := wrap_succ (by omega)
    have hp : (0 : Int) ≤ (pre.length : Int) := Int.natCast_nonneg _
    have hj' := hj k
    rw [List.length_append, List.length_singleton, List.append_assoc, List.singleton_append, List.append_assoc, List.singleton_append] at hj'
    simp only [loopK, laws_markStringS_vo_b0, hlt, decide_true, cond_true, markText_is (show c ≤ 10000000 by omega), w1, Int.toNat_natCast, set_mid, hp, and_self, if_true, w3, Sum.elim_inl]
    rw [hj']
    simp only [markS, List.length_cons]
    congr 2
    push_cast
    omega

theorem laws_markStringS_vo_is {l : List ByteArray} (hl : l.length ≤ 1048576) {c : Int} (h0 : 0 ≤ c) (hc : c ≤ 5000000) (k) : laws_markStringS_vo_k c l k = k (c + l.length, markS c l) := by
  rw [laws_markStringS_vo_e]
  unfold laws_markStringS_vo_d
  obtain ⟨j, hj⟩ := markStringS_loop l [] c Fuel h0 (by omega) (by simpa using hl) (by have := fuel_big; omega)
  simp only [List.length_nil, List.nil_append] at hj
  rw [show ((0 : Int)) = ((0 : Nat) : Int) from rfl, hj]

theorem heldStringS_loop {u0 u2} : ∀ (l : List ByteArray) (c : Int) (i : Nat), 0 ≤ c → c + l.length ≤ 9000000 → ∃ j : Int, ∀ k, laws_heldStringS_w0 u0 u2 (markS c l) c i k = k (.inr (c + l.length, j))
  | [], c, i, _, _ => ⟨_, fun k => by simp only [markS, laws_heldStringS_w0, List.length_nil]; simp; rfl⟩
  | y :: l, c, i, h0, hc => by
    simp only [List.length_cons] at hc
    obtain ⟨j, hj⟩ := heldStringS_loop (u0 := u0) (u2 := u2) l (c + 1) (i + 1) (by omega) (by omega)
    have w1 : IntKind.wrap .i64 (c + 1) = c + 1 := wrap64 (by omega) (by omega)
    refine ⟨j, fun k => ?_⟩
    simp only [markS, laws_heldStringS_w0, markText_is (show c ≤ 10000000 by omega), w1, strEq_self, Bool.not_true, cond_false, hj, List.length_cons]
    congr 3
    push_cast
    omega

theorem markPutS_nil (a : Int) (k) : laws_markPutS_vn_k a k = k a := by
  obtain ⟨n, hn⟩ := fuel_succ
  rw [laws_markPutS_vn_e]
  simp only [laws_markPutS_vn_d, hn, loopK, laws_markPutS_vn_b0]
  rfl
theorem heldPutS_nil (a : Int) (k) : laws_heldPutS_k ([] : List dPut) a k = k a := by
  rw [laws_heldPutS_r (by simp)]
  rfl

theorem markStore_new {l : List ByteArray} (hl : l.length ≤ 1048576) (k) : laws_markStore_va_k (0 : Int) (1 : Int) (1 : Int) l k = k (1 + (l.length : Int), markS 1 l) := by
  rw [laws_markStore_va_e]
  simp only [laws_markStore_va_d, markEngine_nil]
  rw [laws_markDisk_va_e]
  simp only [laws_markDisk_va_d, laws_markStringS_vo_is hl (show (0 : Int) ≤ 1 by decide) (show (1 : Int) ≤ 5000000 by decide), markPutS_nil]

theorem heldStore_new {l : List ByteArray} (hl : l.length ≤ 1048576) (k) : laws_heldStore_k (((([] : List dVersion), (([] : List dTxn), (([] : List dTxn), ((0 : Int), (1 : Int))))), ([] : List dTxn)), (markS 1 l, ([] : List dPut))) (1 : Int) k = k (1 + (l.length : Int)) := by
  rw [laws_heldStore_e]
  have h1 := fun k => heldEngine_nil ((0 : Int), (1 : Int)) (a := 1) (by decide) k
  simp only [laws_heldStore_d, h1, show decide ((1 : Int) < 0) = false by decide, cond_false]
  rw [laws_heldDisk_e]
  have h2 : ∀ k, laws_heldStringS_k (markS 1 l) 1 k = k (1 + (l.length : Int)) := fun k => by
    rw [laws_heldStringS_r (by rw [markS_length]; omega)]
    unfold laws_heldStringS_t
    obtain ⟨j, hj⟩ := heldStringS_loop (u0 := markS 1 l) (u2 := 0) l 1 0 (by decide) (by omega)
    rw [hj]; rfl
  simp only [laws_heldDisk_d, h2, heldPutS_nil, decide_eq_false (show ¬ (1 + (l.length : Int)) < 0 by omega), cond_false]

theorem eqStringS_loop {u0 : List ByteArray} {u2 : Bool} : ∀ (l : List ByteArray) (i : Nat), u0.drop i = l → ∃ z, ∀ k, laws_eqStringS_w0 u0 u0 u2 l i k = k (.inr z)
  | [], i, h => ⟨_, fun k => rfl⟩
  | y :: l, i, h => by
    have hlt := drop_lt h
    obtain ⟨z, hz⟩ := eqStringS_loop (u2 := u2) l (i + 1) (drop_succ h)
    have hy := (lwl_get h).2 (Ty.zero .str)
    have hy' : rd (Ty.zero .str) u0 (i : Int) = y := hy
    refine ⟨z, fun k => ?_⟩
    simp only [laws_eqStringS_w0]
    rw [if_pos ⟨by omega, by omega⟩]
    simp only [hy', strEq_self, Bool.not_true, cond_false, hz]

theorem eqStore_new {l : List ByteArray} (hl : l.length ≤ 1048576) (k) : laws_eqStore_k (((([] : List dVersion), (([] : List dTxn), (([] : List dTxn), ((0 : Int), (1 : Int))))), ([] : List dTxn)), (l, ([] : List dPut))) (((([] : List dVersion), (([] : List dTxn), (([] : List dTxn), ((0 : Int), (1 : Int))))), ([] : List dTxn)), (l, ([] : List dPut))) k = k true := by
  have hb : tEngine.wt ((([] : List dVersion), (([] : List dTxn), (([] : List dTxn), ((0 : Int), (1 : Int))))), ([] : List dTxn)) ≤ 1048576 := by simp [Ty.wt]
  rw [laws_eqStore_e]
  simp only [laws_eqStore_d, eqEngine_w hb, Bool.not_true, cond_false]
  rw [laws_eqDisk_e]
  have h2 : ∀ k, laws_eqStringS_k l l k = k true := fun k => by
    rw [laws_eqStringS_r (by omega)]
    obtain ⟨z, hz⟩ := eqStringS_loop (u0 := l) (u2 := false) l 0 rfl
    simp [laws_eqStringS_t, hz]
  have h3 : ∀ k, laws_eqPutS_k ([] : List dPut) [] k = k true := fun k => by
    rw [laws_eqPutS_r (by simp)]
    rfl
  simp only [laws_eqDisk_d, h2, h3, Bool.not_true, cond_false]

end
end Go.VE
