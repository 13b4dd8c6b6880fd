/- Plain laws: where a name or an Id stands; a transaction's text. -/
import Derived.Test.YtpmahbmokfaflaaGetKeyR3
namespace Go.VE
noncomputable section
set_option linter.unusedVariables false
set_option linter.unusedSimpArgs false
set_option maxRecDepth 100000

def atF (p : tTxn.D → Bool) : List tTxn.D → Nat → Int
  | [], _ => -1
  | y :: l, i => bif p y then (i : Int) else atF p l (i + 1)


theorem n03n_is (x : tTxn.D) (c : Int) (k) : n03n_k x c k = k ((x.1 == c), c) := by rw [n03n_e]; rfl

theorem n70n_w0_is {u1 u3 u4 u5 u6 u7 u8} {c : Int} : ∀ (l : List tTxn.D) (i : Nat),
    ((∃ a : Nat, ∀ k, n70n_w0 c u1 u3 u4 u5 u6 u7 u8 l i k = k (.inl ((a : Int), (a : Int)))) ∧ (∃ a : Nat, atF (fun x => (x.1 == c)) l i = (a : Int) ∧ ∀ k, n70n_w0 c u1 u3 u4 u5 u6 u7 u8 l i k = k (.inl ((a : Int), (a : Int))))) ∨
    ((∃ b : Int, ∀ k, n70n_w0 c u1 u3 u4 u5 u6 u7 u8 l i k = k (.inr b)) ∧ atF (fun x => (x.1 == c)) l i = -1)
  | [], i => .inr ⟨⟨_, fun k => rfl⟩, rfl⟩
  | y :: l, i => by
    have ih := n70n_w0_is (u1 := u1) (u3 := u3) (u4 := u4) (u5 := u5) (u6 := u6) (u7 := u7) (u8 := u8) (c := c) l (i + 1)
    simp only [n70n_w0, atF]
    cases (y.1 == c)
    · exact ih
    · exact .inl ⟨⟨i, fun k => rfl⟩, i, rfl, fun k => rfl⟩

theorem n70n_is (t : tEngine.D) (c : Int) (hl : (t.2).length ≤ 1048576) (k) : n70n_k t c k = k (atF (fun x => (x.1 == c)) (t.2) 0) := by
  rw [n70n_r (by omega)]
  unfold n70n_t
  rcases n70n_w0_is  (c := c) (t.2) 0 with ⟨_, a, ha, h⟩ | ⟨⟨b, h⟩, ha⟩ <;> rw [h, ha] <;> rfl

theorem n65n_w0_is {u0 u1} {c : Int} : ∀ (l : List tTxn.D) (i : Nat),
    (∃ a : Nat, atF (fun x => (x.1 == c)) l i = (a : Int) ∧ ∀ k, n65n_w0 u0 u1 l c i k = k (.inl ((a : Int), (a : Int), c))) ∨
    ((∃ b : Int, ∀ k, n65n_w0 u0 u1 l c i k = k (.inr (b, c))) ∧ atF (fun x => (x.1 == c)) l i = -1)
  | [], i => .inr ⟨⟨_, fun k => rfl⟩, rfl⟩
  | y :: l, i => by
    have ih := n65n_w0_is (u0 := u0) (u1 := u1) (c := c) l (i + 1)
    simp only [n65n_w0, atF, n03n_is]
    cases (y.1 == c)
    · exact ih
    · exact .inl ⟨i, rfl, fun k => rfl⟩

theorem n02n_is (t : tEngine.D) (c : Int) (hl : (t.2).length ≤ 1048576) (k) : n02n_k t c k = k (atF (fun x => (x.1 == c)) (t.2) 0) := by
  rw [n02n_e]
  unfold n02n_d
  rw [n65n_r (by omega)]
  unfold n65n_t
  rcases n65n_w0_is (u0 := (t.2)) (u1 := 0) (c := c) (t.2) 0 with ⟨a, ha, h⟩ | ⟨⟨b, h⟩, ha⟩ <;> rw [h, ha] <;> rfl


theorem bytes_ext {a b : ByteArray} (h : a.data.toList = b.data.toList) : a = b := by
  cases a; cases b; congr 1; exact Array.toList_inj.mp h

theorem strEq_true {a b : ByteArray} (h : strEq a b = true) : a = b := by
  rw [strEq_eq, beq_iff_eq, ByteArray.toList_eq, ByteArray.toList_eq] at h
  exact bytes_ext h

theorem keyOk_size {s : ByteArray} (h : keyOkB s = true) : s.size ≤ 3 := by
  unfold keyOkB withinB at h
  simp only [Bool.and_eq_true, decide_eq_true_eq] at h
  omega
theorem writesFrom_mem : ∀ {l : List tWrite.D} {p}, writesFrom p l = true → ∀ y ∈ l, writeOkB y = true
  | [], _, _, y, hy => by cases hy
  | z :: l, p, h, y, hy => by
    simp only [writesFrom, Bool.and_eq_true] at h
    cases hy with
    | head => exact h.1.1
    | tail _ hm => exact writesFrom_mem h.2 y hm
def smallN (n : Int) : Prop := 0 ≤ n ∧ n ≤ 16383
theorem txnOk_small {t : tTxn.D} (h : txnOkB t = true) : smallN t.1 ∧ smallN t.2.1 ∧ smallN t.2.2.1 ∧ smallN t.2.2.2.1 ∧
    t.2.2.2.2.1.length ≤ 8 ∧ (∀ y ∈ t.2.2.2.2.1, y.1.size ≤ 12 ∧ y.2.size ≤ 12) ∧ t.2.2.2.2.2.1.length ≤ 8 ∧ (∀ y ∈ t.2.2.2.2.2.1, y.1.size ≤ 12 ∧ y.2.1.size ≤ 12) ∧ t.2.2.2.2.2.2.2.size ≤ 12 := by
  unfold txnOkB withinB writesOkB at h
  simp only [Bool.and_eq_true, Bool.not_eq_true', decide_eq_true_eq, decide_eq_false_iff_not, List.any_eq_false, Bool.not_eq_true, Bool.and_eq_false_iff, beq_eq_false_iff_ne, bne_eq_false_iff_eq, Bool.not_eq_false', Bool.or_eq_true, ne_eq] at h
  obtain ⟨⟨⟨⟨⟨⟨⟨⟨⟨⟨a1, a2⟩, a3⟩, a4⟩, ⟨a5, a6⟩⟩, a7⟩, a8⟩, a9⟩, a10⟩, a11⟩, a12⟩ := h
  unfold smallN
  refine ⟨by omega, by omega, by omega, ?_, by omega, fun y hy => ?_, by omega, fun y hy => ?_, ?_⟩
  · by_cases c : t.2.1 = 3
    · have := a8.resolve_left (fun hc => hc c)
      have w : IntKind.wrap .i64 (t.2.2.1 + 1) = t.2.2.1 + 1 := wrap64 (by omega) (by omega)
      rw [w] at this
      omega
    · have : @Eq Int t.2.2.2.1 0 := a9.resolve_left (fun hc => c hc)
      omega
  · have : rangeOkB y = true := by have := a7 y hy; revert this; cases rangeOkB y <;> simp
    unfold rangeOkB at this
    simp only [Bool.and_eq_true] at this
    have b1 := keyOk_size this.1.1
    have b2 := keyOk_size this.1.2
    omega
  · have := writesFrom_mem a5 y hy
    unfold writeOkB at this
    simp only [Bool.and_eq_true, decide_eq_true_eq] at this
    have b1 := keyOk_size this.1.1
    omega
  · by_cases c : t.2.1 = 2
    · have := keyOk_size (a10.resolve_left (fun hc => hc c))
      omega
    · have := strEq_true (a11.resolve_left (fun hc => c hc))
      rw [this]; decide

end
end Go.VE
