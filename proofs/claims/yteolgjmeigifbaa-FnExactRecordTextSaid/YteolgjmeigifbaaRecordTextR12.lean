/- Plain laws: a base's text. -/
import Derived.Test.YteolgjmeigifbaaRecordTextR11
namespace Go.VE
noncomputable section
set_option linter.unusedVariables false
set_option linter.unusedSimpArgs false
set_option maxRecDepth 100000

theorem rangesT_size : ∀ (l : List tRange.D) (s : ByteArray), (∀ y ∈ l, y.1.size ≤ 12 ∧ y.2.size ≤ 12) → (rangesT l s).size ≤ s.size + 40 * l.length
  | [], s, _ => by simp [rangesT]
  | y :: l, s, h => by
    have hy := h y (by simp)
    have s1 := shB_size y.1
    have s2 := shB_size y.2
    have ih := rangesT_size l ((s ++ shB y.1) ++ shB y.2) (fun y hy => h y (by simp [hy]))
    rw [ByteArray.size_append, ByteArray.size_append] at ih
    simp only [rangesT, List.length_cons]
    omega
theorem writesT_size : ∀ (l : List tWrite.D) (s : ByteArray), (∀ y ∈ l, y.1.size ≤ 12 ∧ y.2.1.size ≤ 12) → (writesT l s).size ≤ s.size + 40 * l.length
  | [], s, _ => by simp [writesT]
  | y :: l, s, h => by
    have hy := h y (by simp)
    have s1 := shB_size y.1
    have s2 := shB_size y.2.1
    have s3 := bitB_size y.2.2
    have ih := writesT_size l (((s ++ shB y.1) ++ shB y.2.1) ++ bitB y.2.2) (fun y hy => h y (by simp [hy]))
    rw [ByteArray.size_append, ByteArray.size_append, ByteArray.size_append] at ih
    simp only [writesT, List.length_cons]
    omega
theorem txnText_size {t : tTxn.D} (h : txnOkB t = true) : (txnTextB t).size ≤ 1000 := by
  obtain ⟨_, _, _, _, b5, b6, b7, b8, b9⟩ := txnOk_small h
  have v1 := varB_size t.1
  have v2 := varB_size t.2.1
  have v3 := varB_size t.2.2.1
  have v4 := varB_size t.2.2.2.1
  have v5 := varB_size (t.2.2.2.2.1.length : Int)
  have v6 := varB_size (t.2.2.2.2.2.1.length : Int)
  have v7 := bitB_size t.2.2.2.2.2.2.1
  have v8 := shB_size t.2.2.2.2.2.2.2
  have r := rangesT_size t.2.2.2.2.1 (varB t.1 ++ varB t.2.1 ++ varB t.2.2.1 ++ varB t.2.2.2.1 ++ varB t.2.2.2.2.1.length) b6
  have w := writesT_size t.2.2.2.2.2.1 (rangesT t.2.2.2.2.1 (varB t.1 ++ varB t.2.1 ++ varB t.2.2.1 ++ varB t.2.2.2.1 ++ varB t.2.2.2.2.1.length) ++ varB t.2.2.2.2.2.1.length) b8
  unfold txnTextB
  simp only [ByteArray.size_append] at r w ⊢
  omega


def versI : List tVersion.D → List Int → List Int
  | [], s => s
  | y :: l, s => versI l ((((s ++ intsOf (shB y.1)) ++ intsOf (shB y.2.1)) ++ intsOf (bitB y.2.2.1)) ++ intsOf (varB y.2.2.2))
def versT : List tVersion.D → ByteArray → ByteArray
  | [], s => s
  | y :: l, s => versT l ((((s ++ shB y.1) ++ shB y.2.1) ++ bitB y.2.2.1) ++ varB y.2.2.2)
theorem versI_T : ∀ l s, bytesOf (versI l s) = versT l (bytesOf s)
  | [], s => rfl
  | y :: l, s => by rw [versI, versT, versI_T, bytesOf_append, bytesOf_append, bytesOf_append, bytesOf_append, bytesOf_intsOf, bytesOf_intsOf, bytesOf_intsOf, bytesOf_intsOf]
def textsI : List tTxn.D → List Int → List Int
  | [], s => s
  | y :: l, s => textsI l (s ++ intsOf (txnTextB y))
def textsT : List tTxn.D → ByteArray → ByteArray
  | [], s => s
  | y :: l, s => textsT l (s ++ txnTextB y)
theorem textsI_T : ∀ l s, bytesOf (textsI l s) = textsT l (bytesOf s)
  | [], s => rfl
  | y :: l, s => by rw [textsI, textsT, textsI_T, bytesOf_append, bytesOf_intsOf]
theorem textsT_app : ∀ (l : List tTxn.D) (a b : ByteArray), textsT l (a ++ b) = a ++ textsT l b
  | [], a, b => rfl
  | y :: l, a, b => by rw [textsT, textsT, ByteArray.append_assoc, textsT_app l a]

def smallV (y : tVersion.D) : Prop := y.1.size ≤ 12 ∧ y.2.1.size ≤ 12 ∧ 0 ≤ y.2.2.2 ∧ y.2.2.2 ≤ 16383
theorem versFrom_mem : ∀ {l : List tVersion.D} {p}, versFrom p l = true → ∀ y ∈ l, versionOkB y = true
  | [], _, _, y, hy => by cases hy
  | z :: l, p, h, y, hy => by
    simp only [versFrom, Bool.and_eq_true] at h
    cases hy with
    | head => exact h.1.1
    | tail _ hm => exact versFrom_mem h.2 y hm
theorem versionsOk_small {l : List tVersion.D} (h : versionsOkB l = true) : l.length ≤ 120 ∧ ∀ y ∈ l, smallV y := by
  unfold versionsOkB at h
  simp only [Bool.and_eq_true, decide_eq_true_eq] at h
  refine ⟨by omega, fun y hy => ?_⟩
  have := versFrom_mem h.1 y hy
  unfold versionOkB withinB at this
  simp only [Bool.and_eq_true, decide_eq_true_eq] at this
  have b1 := keyOk_size this.1.1.1
  have b2 := this.1.1.2
  have b3 := this.2
  exact ⟨by omega, by omega, Int.le_trans (by decide) b3.1, Int.le_trans b3.2 (by decide)⟩
theorem pastFrom_mem {cs : Int} : ∀ {l : List tTxn.D} {p}, pastFrom cs p l = true → ∀ y ∈ l, txnOkB y = true
  | [], _, _, y, hy => by cases hy
  | z :: l, p, h, y, hy => by
    simp only [pastFrom, Bool.and_eq_true] at h
    cases hy with
    | head => exact h.1.1.1.1
    | tail _ hm => exact pastFrom_mem h.2 y hm
theorem readyFrom_mem {cs : Int} : ∀ {l : List tTxn.D} {p}, readyFrom cs p l = true → ∀ y ∈ l, txnOkB y = true
  | [], _, _, y, hy => by cases hy
  | z :: l, p, h, y, hy => by
    simp only [readyFrom, Bool.and_eq_true] at h
    cases hy with
    | head => exact h.1.1.1.1
    | tail _ hm => exact readyFrom_mem h.2 y hm

theorem impl_BaseText_w0_is {u0 u3 u4 u5 u6 u7} : ∀ (l : List tVersion.D) (s : List Int) (i : Nat), (∀ y ∈ l, smallV y) → s.length + 40 * l.length ≤ 90000 →
    ∃ j : Int, (∀ k, impl_BaseText_w0 u0 u3 u4 u5 u6 u7 l s i k = k (j, versI l s)) ∧ (versI l s).length ≤ s.length + 40 * l.length
  | [], s, i, _, _ => ⟨_, fun k => rfl, by simp [versI]⟩
  | y :: l, s, i, h, hs => by
    simp only [List.length_cons] at hs
    have hy := h y (by simp)
    have s1 := shB_size y.1
    have s2 := shB_size y.2.1
    have s3 := bitB_size y.2.2.1
    have s4 := varB_size y.2.2.2
    obtain ⟨h1, h2, h3, h4⟩ := hy
    have e0 : ((s ++ intsOf (shB y.1)) ++ intsOf (shB y.2.1)).length ≤ s.length + 28 := by rw [List.length_append, List.length_append, intsOf_length, intsOf_length]; omega
    have e1 : (((s ++ intsOf (shB y.1)) ++ intsOf (shB y.2.1)) ++ intsOf (bitB y.2.2.1)).length ≤ s.length + 29 := by rw [List.length_append, intsOf_length]; omega
    have e2 : ((((s ++ intsOf (shB y.1)) ++ intsOf (shB y.2.1)) ++ intsOf (bitB y.2.2.1)) ++ intsOf (varB y.2.2.2)).length ≤ s.length + 31 := by rw [List.length_append, intsOf_length]; omega
    obtain ⟨j, hj, hl⟩ := impl_BaseText_w0_is (u0 := u0) (u3 := u3) (u4 := u4) (u5 := u5) (u6 := u6) (u7 := u7) l ((((s ++ intsOf (shB y.1)) ++ intsOf (shB y.2.1)) ++ intsOf (bitB y.2.2.1)) ++ intsOf (varB y.2.2.2)) (i + 1) (fun y hy => h y (by simp [hy])) (by omega)
    refine ⟨j, fun k => ?_, by simp only [versI, List.length_cons]; omega⟩
    simp only [impl_BaseText_w0, impl_plan_text_two h1 h2 (show s.length ≤ 100000 by omega), Sum.elim_inr, impl_plan_flag_is y.2.2.1 (show ((s ++ intsOf (shB y.1)) ++ intsOf (shB y.2.1)).length ≤ 100000 by omega), impl_plan_num_one h3 h4 (show (((s ++ intsOf (shB y.1)) ++ intsOf (shB y.2.1)) ++ intsOf (bitB y.2.2.1)).length ≤ 100000 by omega), hj, versI]

theorem spec_BaseText_w0_is {u2 u3 u4 u5 u6} : ∀ (l : List tVersion.D) (s : ByteArray) (i : Nat), (∀ y ∈ l, smallV y) → s.size + 40 * l.length ≤ 90000 →
    ∃ j : Int, (∀ k, spec_BaseText_w0 u2 u3 u4 u5 u6 l s i k = k (versT l s, j)) ∧ (versT l s).size ≤ s.size + 40 * l.length
  | [], s, i, _, _ => ⟨_, fun k => rfl, by simp [versT]⟩
  | y :: l, s, i, h, hs => by
    simp only [List.length_cons] at hs
    have hy := h y (by simp)
    have s1 := shB_size y.1
    have s2 := shB_size y.2.1
    have s3 := bitB_size y.2.2.1
    have s4 := varB_size y.2.2.2
    obtain ⟨h1, h2, h3, h4⟩ := hy
    have e1 : (s ++ shB y.1).size ≤ s.size + 14 := by rw [ByteArray.size_append]; omega
    have e2 : ((s ++ shB y.1) ++ shB y.2.1).size ≤ s.size + 28 := by rw [ByteArray.size_append]; omega
    have e3 : (((s ++ shB y.1) ++ shB y.2.1) ++ bitB y.2.2.1).size ≤ s.size + 29 := by rw [ByteArray.size_append]; omega
    have e4 : ((((s ++ shB y.1) ++ shB y.2.1) ++ bitB y.2.2.1) ++ varB y.2.2.2).size ≤ s.size + 31 := by rw [ByteArray.size_append]; omega
    obtain ⟨j, hj, hl⟩ := spec_BaseText_w0_is (u2 := u2) (u3 := u3) (u4 := u4) (u5 := u5) (u6 := u6) l ((((s ++ shB y.1) ++ shB y.2.1) ++ bitB y.2.2.1) ++ varB y.2.2.2) (i + 1) (fun y hy => h y (by simp [hy])) (by omega)
    refine ⟨j, fun k => ?_, by simp only [versT, List.length_cons]; omega⟩
    simp only [spec_BaseText_w0, spec_l07Short_is h1, spec_l07Short_is h2, spec_l07Bit_is, spec_l01Var_is h4, versT]
    rw [if_pos (by omega), if_pos (by omega), if_pos (by omega), if_pos (by omega), hj]

theorem spec_l10Txns_w0_is {u0} : ∀ (l : List tTxn.D) (s : ByteArray) (i : Nat), (∀ y ∈ l, tTxn.wt y ≤ 1048576 ∧ txnOkB y = true) → s.size + 1000 * l.length ≤ 90000 →
    ∃ j : Int, (∀ k, spec_l10Txns_w0 u0 l s i k = k (textsT l s, j)) ∧ (textsT l s).size ≤ s.size + 1000 * l.length
  | [], s, i, _, _ => ⟨_, fun k => rfl, by simp [textsT]⟩
  | y :: l, s, i, h, hs => by
    simp only [List.length_cons] at hs
    have hy := h y (by simp)
    have s1 := txnText_size hy.2
    have e1 : (s ++ txnTextB y).size ≤ s.size + 1000 := by rw [ByteArray.size_append]; omega
    obtain ⟨j, hj, hl⟩ := spec_l10Txns_w0_is (u0 := u0) l (s ++ txnTextB y) (i + 1) (fun y hy => h y (by simp [hy])) (by omega)
    refine ⟨j, fun k => ?_, by simp only [textsT, List.length_cons]; omega⟩
    simp only [spec_l10Txns_w0, spec_TxnText_is hy.1, hy.2, cond_true, textsT]
    rw [if_pos (by omega), hj]

theorem spec_l10Txns_is {l : List tTxn.D} (h : ∀ y ∈ l, tTxn.wt y ≤ 1048576 ∧ txnOkB y = true) (hl : l.length ≤ 12) (k) : spec_l10Txns_k l k = k (textsT l (varB l.length)) := by
  rw [spec_l10Txns_r (by omega)]
  unfold spec_l10Txns_t
  have v := varB_size (l.length : Int)
  obtain ⟨j, hj, _⟩ := spec_l10Txns_w0_is (u0 := l) l (varB l.length) 0 h (by omega)
  simp only [spec_l01Var_is (show (l.length : Int) ≤ 16383 by omega), hj]

theorem spec_l10Txns_size {l : List tTxn.D} (h : ∀ y ∈ l, tTxn.wt y ≤ 1048576 ∧ txnOkB y = true) (hl : l.length ≤ 12) : (textsT l (varB l.length)).size ≤ 13000 := by
  have v := varB_size (l.length : Int)
  obtain ⟨j, _, hs⟩ := spec_l10Txns_w0_is (u0 := l) l (varB l.length) 0 h (by omega)
  omega

def baseTextB (b : tBase.D) : ByteArray :=
  (versT b.1 ((varB b.2.2.2.1 ++ varB b.2.2.2.2) ++ varB b.1.length) ++ textsT b.2.1 (varB b.2.1.length)) ++ textsT b.2.2.1 (varB b.2.2.1.length)

theorem baseOk_small {b : tBase.D} (hw : tBase.wt b ≤ 1048576) (h : baseOkB b = true) : smallN b.2.2.2.1 ∧ smallN b.2.2.2.2 ∧ b.1.length ≤ 120 ∧ (∀ y ∈ b.1, smallV y) ∧ b.2.1.length ≤ 12 ∧ (∀ y ∈ b.2.1, tTxn.wt y ≤ 1048576 ∧ txnOkB y = true) ∧ b.2.2.1.length ≤ 3 ∧ (∀ y ∈ b.2.2.1, tTxn.wt y ≤ 1048576 ∧ txnOkB y = true) := by
  obtain ⟨p1, p2, p3⟩ := partsBase hw
  unfold baseOkB withinB at h
  simp only [Bool.and_eq_true, decide_eq_true_eq] at h
  obtain ⟨⟨⟨⟨⟨⟨⟨⟨h1, h2⟩, h3⟩, h4⟩, h5⟩, h6⟩, h7⟩, h8⟩, h9⟩ := h
  have v := versionsOk_small h1
  unfold smallN
  refine ⟨by omega, by omega, v.1, v.2, by omega, fun y hy => ⟨wt_mem_le hy p2, pastFrom_mem h7 y hy⟩, by omega, fun y hy => ⟨wt_mem_le hy p3, readyFrom_mem h8 y hy⟩⟩

theorem spec_BaseText_is {b : tBase.D} (hw : tBase.wt b ≤ 1048576) (k) : spec_BaseText_k b k = k (bif baseOkB b then (baseTextB b, true) else (⟨#[]⟩, false)) := by
  rw [spec_BaseText_r (by have := len_le (partsBase hw).1; omega)]
  unfold spec_BaseText_t
  simp only [spec_BaseOk_is hw]
  cases h : baseOkB b
  · rfl
  · obtain ⟨⟨_, n1⟩, ⟨_, n2⟩, l1, v, l2, p, l3, r⟩ := baseOk_small hw h
    have v1 := varB_size b.2.2.2.1
    have v2 := varB_size b.2.2.2.2
    have v3 := varB_size (b.1.length : Int)
    have t1 := spec_l10Txns_size p l2
    have t2 := spec_l10Txns_size r (by omega)
    have s2 := ByteArray.size_append (a := varB b.2.2.2.1) (b := varB b.2.2.2.2)
    have s3 := ByteArray.size_append (a := varB b.2.2.2.1 ++ varB b.2.2.2.2) (b := varB b.1.length)
    obtain ⟨j1, h1, z1⟩ := spec_BaseText_w0_is (u2 := b.1) (u3 := b.2.1) (u4 := b.2.2.1) (u5 := b.2.2.2.1) (u6 := b.2.2.2.2) b.1 ((varB b.2.2.2.1 ++ varB b.2.2.2.2) ++ varB b.1.length) 0 v (by omega)
    have s4 := ByteArray.size_append (a := versT b.1 ((varB b.2.2.2.1 ++ varB b.2.2.2.2) ++ varB b.1.length)) (b := textsT b.2.1 (varB b.2.1.length))
    simp only [Bool.not_true, cond_false, cond_true, spec_l01Var_is n1, spec_l01Var_is n2, spec_l01Var_is (show (b.1.length : Int) ≤ 16383 by omega), spec_l10Txns_is p l2, spec_l10Txns_is r (show b.2.2.1.length ≤ 12 by omega)]
    rw [if_pos (by omega), if_pos (by omega), h1]
    simp only []
    rw [if_pos (by omega), if_pos (by omega)]
    rfl

theorem impl_BaseText_b4_is {L : List tTxn.D} (h : ∀ y ∈ L, tTxn.wt y ≤ 1048576 ∧ txnOkB y = true) (hL : L.length ≤ 12) {x1 x2 : Int} {ls} : ∀ (l : List tTxn.D) (i : Nat) (s : List Int) (q : Nat), L.drop i = l → l.length < q → s.length + 1000 * l.length ≤ 90000 →
    ∃ j : Int, (∀ K, loopK impl_BaseText_b4 q (x1, x2, L, (L.length : Int), (i : Int), ls, s) K = K (x1, x2, L, (L.length : Int), j, ls, textsI l s)) ∧ (textsI l s).length ≤ s.length + 1000 * l.length
  | l, i, s, 0, _, h, _ => by omega
  | [], i, s, q + 1, hd, _, _ => by
    have hge := lwl_nil hd
    refine ⟨(i : Int), fun K => ?_, by simp [textsI]⟩
    simp only [loopK, impl_BaseText_b4, hge, decide_false, cond_false, Sum.elim_inr]
    rfl
  | y :: l, i, s, q + 1, hd, hq, hs => by
    simp only [List.length_cons] at hs
    have hlt := drop_lt hd
    have hy := (lwl_get hd).1
    have hm := h y (mem_of_drop hd)
    have s1 := txnText_size hm.2
    have e1 : (s ++ intsOf (txnTextB y)).length ≤ s.length + 1000 := by rw [List.length_append, intsOf_length]; omega
    obtain ⟨j, hj, hl⟩ := impl_BaseText_b4_is h hL (x1 := x1) (x2 := x2) (ls := ls) l (i + 1) (s ++ intsOf (txnTextB y)) q (drop_succ hd) (by simpa using hq) (by omega)
    refine ⟨j, fun K => ?_, by simp only [textsI, List.length_cons]; omega⟩
    have hw : IntKind.wrap .i64 ((i : Int) + 1) = ((i + 1 : Nat) : Int) := wrap_succ (by omega)
    have hml : s.length + (intsOf (txnTextB y)).length ≤ VE.maxLen := by rw [intsOf_length]; show _ ≤ 4294967296; omega
    simp only [loopK, impl_BaseText_b4, show (i : Int) < (L.length : Int) by omega, decide_true, cond_true, if_pos (show 0 ≤ (i : Int) ∧ (i : Int) < (L.length : Int) by omega), hy, impl_TxnText_is hm.1, hm.2, if_pos hml, Sum.elim_inl, hw, textsI]
    exact hj K

theorem impl_BaseText_b2_step {ls : List (List tTxn.D)} {i : Nat} {L : List tTxn.D} (hLs : ls.getD i (Ty.zero (.slice tTxn)) = L) (hi : i < ls.length) (hn : ls.length ≤ 10) (h : ∀ y ∈ L, tTxn.wt y ≤ 1048576 ∧ txnOkB y = true) (hL : L.length ≤ 12) {s : List Int} (hs : s.length ≤ 60000) (q : Nat) :
    (∀ K, loopK impl_BaseText_b2 (q + 1) ((ls.length : Int), (i : Int), ls, s) K = loopK impl_BaseText_b2 q ((ls.length : Int), ((i + 1 : Nat) : Int), ls, textsI L (s ++ intsOf (varB L.length))) K) ∧ (textsI L (s ++ intsOf (varB L.length))).length ≤ s.length + 13000 := by
  have v := varB_size (L.length : Int)
  have e1 : (s ++ intsOf (varB L.length)).length ≤ s.length + 2 := by rw [List.length_append, intsOf_length]; omega
  obtain ⟨j, hj, hl⟩ := impl_BaseText_b4_is h hL (x1 := (ls.length : Int)) (x2 := (i : Int)) (ls := ls) L 0 (s ++ intsOf (varB L.length)) Fuel rfl (Nat.lt_of_lt_of_le (by omega) fuel_big) (by omega)
  refine ⟨fun K => ?_, by omega⟩
  have hw : IntKind.wrap .i64 ((i : Int) + 1) = ((i + 1 : Nat) : Int) := wrap_succ (by omega)
  have hz : ((0 : Nat) : Int) = 0 := rfl
  rw [hz] at hj
  simp only [loopK, impl_BaseText_b2, show (i : Int) < (ls.length : Int) by omega, show (0 : Int) ≤ (i : Int) by omega, and_self, if_true, decide_true, cond_true, Int.toNat_natCast, hLs, impl_plan_num_one (show (0 : Int) ≤ (L.length : Int) by omega) (show (L.length : Int) ≤ 16383 by omega) (show s.length ≤ 100000 by omega), Sum.elim_inr, hj, Sum.elim_inl, hw]

theorem impl_BaseText_is {b : tBase.D} (hw : tBase.wt b ≤ 1048576) (k) : impl_BaseText_k b k = k (bif baseOkB b then (baseTextB b, true) else (⟨#[]⟩, false)) := by
  rw [impl_BaseText_r (by have := len_le (partsBase hw).1; omega)]
  unfold impl_BaseText_t
  simp only [impl_BaseOk_is hw]
  cases h : baseOkB b
  · rfl
  · obtain ⟨n1, n2, l1, v, l2, p, l3, r⟩ := baseOk_small hw h
    have hn : ∀ n ∈ ([b.2.2.2.1, b.2.2.2.2, (b.1.length : Int)] : List Int), 0 ≤ n ∧ n ≤ 16383 := by
      intro n hn
      simp only [List.mem_cons, List.not_mem_nil, or_false] at hn
      rcases hn with rfl | rfl | rfl
      · exact n1
      · exact n2
      · exact ⟨Int.natCast_nonneg _, by omega⟩
    have m1 := numsF_len [b.2.2.2.1, b.2.2.2.2, (b.1.length : Int)] []
    simp only [List.length_cons, List.length_nil] at m1
    obtain ⟨j1, h1, z1⟩ := impl_BaseText_w0_is (u0 := b.1) (u3 := b.1) (u4 := b.2.1) (u5 := b.2.2.1) (u6 := b.2.2.2.1) (u7 := b.2.2.2.2) b.1 (numsF [b.2.2.2.1, b.2.2.2.2, (b.1.length : Int)] []) 0 v (by omega)
    obtain ⟨f, hf⟩ := fuel_two
    obtain ⟨a1, a2⟩ := impl_BaseText_b2_step (ls := [b.2.1, b.2.2.1]) (i := 0) (L := b.2.1) rfl (by simp) (by simp) p l2 (s := versI b.1 (numsF [b.2.2.2.1, b.2.2.2.2, (b.1.length : Int)] [])) (by omega) (f + 2)
    obtain ⟨b1, b2⟩ := impl_BaseText_b2_step (ls := [b.2.1, b.2.2.1]) (i := 1) (L := b.2.2.1) rfl (by simp) (by simp) r (by omega) (s := textsI b.2.1 (versI b.1 (numsF [b.2.2.2.1, b.2.2.2.2, (b.1.length : Int)] []) ++ intsOf (varB b.2.1.length))) (by omega) (f + 1)
    have hz : ((0 : Nat) : Int) = 0 := rfl
    rw [hz] at a1
    simp only [Bool.not_true, cond_false, cond_true, impl_plan_num_is hn (show _ ≤ 100 by simp), h1, hf]
    rw [a1, b1]
    have e2 : loopK impl_BaseText_b2 (f + 1) (([b.2.1, b.2.2.1].length : Int), ((1 + 1 : Nat) : Int), [b.2.1, b.2.2.1], textsI b.2.2.1 (textsI b.2.1 (versI b.1 (numsF [b.2.2.2.1, b.2.2.2.2, (b.1.length : Int)] []) ++ intsOf (varB b.2.1.length)) ++ intsOf (varB b.2.2.1.length))) =
        fun K => K (([b.2.1, b.2.2.1].length : Int), ((1 + 1 : Nat) : Int), [b.2.1, b.2.2.1], textsI b.2.2.1 (textsI b.2.1 (versI b.1 (numsF [b.2.2.2.1, b.2.2.2.2, (b.1.length : Int)] []) ++ intsOf (varB b.2.1.length)) ++ intsOf (varB b.2.2.1.length))) := by
      funext K
      simp only [loopK, impl_BaseText_b2, show ¬ (((1 + 1 : Nat) : Int) < ([b.2.1, b.2.2.1].length : Int)) by simp, decide_false, cond_false, Sum.elim_inr]
    rw [e2]
    simp only
    congr 2
    unfold baseTextB
    simp only [textsI_T, bytesOf_append, bytesOf_intsOf, versI_T, numsF, show bytesOf [] = (⟨#[]⟩ : ByteArray) from rfl, List.nil_append, textsT_app, ByteArray.append_assoc]

end
end Go.VE
