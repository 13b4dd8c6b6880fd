/- Plain laws of engines: copies, comparisons, marks where lists are short; GetKey. -/
import Derived.Test.YtpmahbmokfaflaaGetKeyR26
namespace Go.VE
noncomputable section
set_option linter.unusedVariables false
set_option linter.unusedSimpArgs false
set_option maxRecDepth 100000

/-! ### copies -/

theorem n82n_loop {u0 : List tTxn.D} : ∀ (l acc : List tTxn.D) (i : Nat), (∀ y ∈ l, y.2.2.2.2.1.length ≤ 1048576 ∧ y.2.2.2.2.2.1.length ≤ 1048576) → acc.length + l.length ≤ 1048576 →
    ∃ j : Int, ∀ K, n82n_w0 u0 l acc i K = K (j, acc ++ l)
  | [], acc, i, _, _ => ⟨_, fun K => by simp only [n82n_w0, List.append_nil]; rfl⟩
  | y :: l, acc, i, hw, h => by
    simp only [List.length_cons] at h
    obtain ⟨j, hj⟩ := n82n_loop (u0 := u0) l (acc ++ [y]) (i + 1) (fun z hz => hw z (by simp [hz])) (by rw [List.length_append, List.length_singleton]; omega)
    have hy := hw y (by simp)
    refine ⟨j, fun K => ?_⟩
    simp only [n82n_w0, n80n_is hy.1 hy.2, pair_eta]
    rw [if_pos (by rw [List.length_singleton]; have : VE.maxLen = 4294967296 := rfl; omega), hj]
    simp only [List.append_assoc, List.singleton_append]

theorem n82n_is {l : List tTxn.D} (h : OkTs l) (k) : n82n_k l k = k l := by
  rw [n82n_r (by have := h.2; omega)]
  obtain ⟨j, hj⟩ := n82n_loop (u0 := l) l [] 0 h.1 (by simpa using h.2)
  simp only [n82n_t, hj, List.nil_append]

theorem n14n_loop {u0 : List tTxn.D} : ∀ (l acc : List tTxn.D) (i : Nat), (∀ y ∈ l, y.2.2.2.2.1.length ≤ 1048576 ∧ y.2.2.2.2.2.1.length ≤ 1048576) → acc.length + l.length ≤ 1048576 →
    ∃ j : Int, ∀ K, n14n_w0 u0 l acc i K = K (j, acc ++ l)
  | [], acc, i, _, _ => ⟨_, fun K => by simp only [n14n_w0, List.append_nil]; rfl⟩
  | y :: l, acc, i, hw, h => by
    simp only [List.length_cons] at h
    obtain ⟨j, hj⟩ := n14n_loop (u0 := u0) l (acc ++ [y]) (i + 1) (fun z hz => hw z (by simp [hz])) (by rw [List.length_append, List.length_singleton]; omega)
    have hy := hw y (by simp)
    refine ⟨j, fun K => ?_⟩
    simp only [n14n_w0, n13n_is hy.1 hy.2, pair_eta]
    rw [if_pos (by rw [List.length_singleton]; have : VE.maxLen = 4294967296 := rfl; omega), hj]
    simp only [List.append_assoc, List.singleton_append]

theorem n14n_is {l : List tTxn.D} (h : OkTs l) (k) : n14n_k l k = k l := by
  rw [n14n_r (by have := h.2; omega)]
  obtain ⟨j, hj⟩ := n14n_loop (u0 := l) l [] 0 h.1 (by simpa using h.2)
  simp only [n14n_t, hj, List.nil_append]

theorem n83n_is {e : tEngine.D} (h : OkE e) (k) : n83n_k e k = k (e.1.2.2.2.1, e.1.2.2.2.2, e.1.1, e.1.2.1, e.1.2.2.1, e.2) := by
  rw [n83n_e]
  unfold n83n_d
  rw [n81n_e]
  unfold n81n_d
  rw [if_pos (by have h1 := h.1.1; have : VE.maxLen = 4294967296 := rfl; simp only [List.length_nil]; omega)]
  simp only [n82n_is h.1.2.1, n82n_is h.1.2.2, n82n_is h.2, List.nil_append]

theorem n12n_is {e : tEngine.D} (h : OkE e) (k) : n12n_k e k = k (e.1.2.2.2.1, e.1.2.2.2.2, e.1.1, e.1.2.1, e.1.2.2.1, e.2) := by
  rw [n12n_e]
  unfold n12n_d
  rw [n11n_e]
  unfold n11n_d
  rw [if_pos (by have h1 := h.1.1; have : VE.maxLen = 4294967296 := rfl; omega)]
  simp only [n14n_is h.1.2.1, n14n_is h.1.2.2, n14n_is h.2]


theorem eqTxnS_ok_loop {u0 : List tTxn.D} (hu : OkTs u0) {u2 : Bool} : ∀ (l : List tTxn.D) (i : Nat), u0.drop i = l → ∃ z, ∀ k, n26n_w0 u0 u0 u2 l i k = k (.inr z)
  | [], i, h => ⟨_, fun k => rfl⟩
  | y :: l, i, h => by
    have hlt := drop_lt h
    obtain ⟨z, hz⟩ := eqTxnS_ok_loop hu (u2 := u2) l (i + 1) (drop_succ h)
    have hy := (lwl_get h).1
    have hm := hu.1 y (mem_of_drop h)
    refine ⟨z, fun k => ?_⟩
    simp only [n26n_w0]
    rw [if_pos ⟨by omega, by omega⟩]
    simp only [hy, eqTxn_self y hm.1 hm.2, Bool.not_true, cond_false, hz]

theorem eqTxnS_ok {x : List tTxn.D} (h : OkTs x) (k) : n26n_k x x k = k true := by
  rw [n26n_r (by have := h.2; omega)]
  obtain ⟨z, hz⟩ := eqTxnS_ok_loop h (u2 := false) x 0 rfl
  simp [n26n_t, hz]

theorem eqEngine_ok {e : tEngine.D} (h : OkE e) (k) : n22n_k e e k = k true := by
  rw [n22n_e]
  unfold n22n_d
  rw [n21n_e]
  simp [n21n_d, eqVersionS_self h.1.1, eqTxnS_ok h.1.2.1, eqTxnS_ok h.1.2.2, eqTxnS_ok h.2]


theorem okTs_set {l : List tTxn.D} (h : OkTs l) {y : tTxn.D} (hy : y.2.2.2.2.1.length ≤ 1048576 ∧ y.2.2.2.2.2.1.length ≤ 1048576) (i : Nat) : OkTs (l.set i y) :=
  ⟨fun z hz => by rcases List.mem_or_eq_of_mem_set hz with hz | rfl; exact h.1 z hz; exact hy, by rw [List.length_set]; exact h.2⟩

theorem cntT_set : ∀ (l : List tTxn.D) (i : Nat) (y z : tTxn.D), l[i]? = some z → cntT (l.set i y) = cntT l - cntT1 z + cntT1 y
  | [], i, y, z, h => by simp at h
  | x :: l, 0, y, z, h => by
    simp only [List.getElem?_cons_zero, Option.some.injEq] at h
    subst h
    simp only [List.set_cons_zero, cntT]
    omega
  | x :: l, i + 1, y, z, h => by
    simp only [List.getElem?_cons_succ] at h
    simp only [List.set_cons_succ, cntT, cntT_set l i y z h]
    omega

theorem atF_cases (p : tTxn.D → Bool) : ∀ (l : List tTxn.D) (i : Nat), atF p l i = -1 ∨ ∃ a : Nat, atF p l i = (a : Int) ∧ i ≤ a ∧ a < i + l.length
  | [], i => .inl rfl
  | y :: l, i => by
    simp only [atF]
    cases p y
    · rcases atF_cases p l (i + 1) with h | ⟨a, h, h1, h2⟩
      · exact .inl h
      · exact .inr ⟨a, h, by omega, by simp only [List.length_cons]; omega⟩
    · exact .inr ⟨i, rfl, Nat.le_refl _, by simp only [List.length_cons]; omega⟩

def openB (e : tEngine.D) (c : Int) : Int := atF (fun x => x.1 == c) e.2 0

theorem openB_cases (e : tEngine.D) (c : Int) : openB e c = -1 ∨ ∃ a : Nat, ∃ t, openB e c = (a : Int) ∧ a < e.2.length ∧ e.2[a]? = some t ∧ rd (Ty.zero tTxn) e.2 (a : Int) = t := by
  rcases atF_cases (fun x => x.1 == c) e.2 0 with h | ⟨a, h, h1, h2⟩
  · exact .inl h
  · have hlt : a < e.2.length := by omega
    exact .inr ⟨a, e.2[a], h, hlt, List.getElem?_eq_getElem hlt, by simp [rd, List.getElem?_eq_getElem hlt]⟩

/-- A transaction with other ranges. -/
def withR (t : tTxn.D) (r : List tRange.D) : tTxn.D := (t.1, (t.2.1, (t.2.2.1, (t.2.2.2.1, (r, (t.2.2.2.2.2.1, (t.2.2.2.2.2.2.1, t.2.2.2.2.2.2.2)))))))

theorem readRange_le (t : tTxn.D) (r : tRange.D) : (readRangeB t r).2.length ≤ t.2.2.2.2.1.length + 1 := by
  unfold readRangeB
  simp only [cond_eq_ite]
  repeat' split
  all_goals first | simp | omega

def getKeyB (e : tEngine.D) (c : Int) (key : ByteArray) : (ByteArray × Bool × Int) × List tTxn.D :=
  if openB e c < 0 then ((⟨#[]⟩, false, 1), e.2) else
  bif !(keyOkB key) then ((⟨#[]⟩, false, 2), e.2) else
  bif !((readRangeB (rd (Ty.zero tTxn) e.2 (openB e c)) (key, key)).1) then ((⟨#[]⟩, false, 3), e.2) else
    (((ownGetB (rd (Ty.zero tTxn) e.2 (openB e c)) e.1.1 key).1, (ownGetB (rd (Ty.zero tTxn) e.2 (openB e c)) e.1.1 key).2, 0),
      e.2.set (openB e c).toNat (withR (rd (Ty.zero tTxn) e.2 (openB e c)) (readRangeB (rd (Ty.zero tTxn) e.2 (openB e c)) (key, key)).2))

theorem n68n_is {e : tEngine.D} (h : tEngine.wt e ≤ 1048576) (c : Int) {key : ByteArray} (hk : key.size ≤ 1048576) (k) :
    n68n_k e c key k = k (e.1.2.2.2.1, e.1.2.2.2.2, (getKeyB e c key).1.1, (getKeyB e c key).1.2.1, (getKeyB e c key).1.2.2, e.1.1, e.1.2.1, e.1.2.2.1, (getKeyB e c key).2) := by
  have hE := wtEngine e
  have hB := wtBase e.1
  have ho := okE_wt h
  rw [n68n_e]
  unfold n68n_d getKeyB
  simp only [n83n_is ho, n70n_is e c ho.2.2, n69n_is hk, show atF (fun x : tTxn.D => x.1 == c) e.2 0 = openB e c from rfl]
  rcases openB_cases e c with hp | ⟨a, t, hp, hlt, ht, hr⟩
  · simp only [hp, show ((-1 : Int) < 0) by decide, decide_true, cond_true, if_true]
  have hn : ¬ openB e c < 0 := by rw [hp]; omega
  simp only [hn, decide_false, cond_false, if_false]
  cases hko : keyOkB key with
  | false => simp only [Bool.not_false, cond_true]
  | true =>
    have hks := keyOk_size hko
    have htw : tTxn.wt t ≤ 1048576 := wt_mem_le (T := tTxn) (List.mem_of_getElem? ht) (by omega)
    have hkr : tRange.wt ((key, key) : tRange.D) ≤ 1048576 := by rw [wtRange]; simp only; omega
    have hi : (0 ≤ openB e c ∧ openB e c < (e.2.length : Int)) := by rw [hp]; omega
    simp only [Bool.not_true, cond_false]
    rw [if_pos hi]
    rw [hp, hr, n73n_is htw hkr]
    cases hrr : (readRangeB t (key, key)).1 with
    | false => simp only [Bool.not_false, cond_true]
    | true =>
      simp only [Bool.not_true, cond_false]
      rw [if_pos (by rw [← hp]; exact hi)]
      refine (n71n_ln (t := withR t (readRangeB t (key, key)).2) (lensTxn htw).2 ho.1.1 key _).trans ?_
      rfl

theorem n00n_is {e : tEngine.D} (h : tEngine.wt e ≤ 1048576) (c : Int) {key : ByteArray} (hk : key.size ≤ 1048576) (k) :
    n00n_k e c key k = k (e.1.2.2.2.1, e.1.2.2.2.2, (getKeyB e c key).1.1, (getKeyB e c key).1.2.1, (getKeyB e c key).1.2.2, e.1.1, e.1.2.1, e.1.2.2.1, (getKeyB e c key).2) := by
  have hE := wtEngine e
  have hB := wtBase e.1
  have ho := okE_wt h
  rw [n00n_e]
  unfold n00n_d getKeyB
  rw [n01n_is hk, n18n_e]
  unfold n18n_d
  simp only [n12n_is ho, n02n_is e c ho.2.2, show atF (fun x : tTxn.D => x.1 == c) e.2 0 = openB e c from rfl]
  rcases openB_cases e c with hp | ⟨a, t, hp, hlt, ht, hr⟩
  · simp only [hp, show ((-1 : Int) < 0) by decide, decide_true, cond_true, if_true]
    rfl
  have hn : ¬ openB e c < 0 := by rw [hp]; omega
  simp only [hn, decide_false, cond_false, if_false]
  cases hko : keyOkB key with
  | false => simp only [Bool.not_false, cond_true]; rfl
  | true =>
    have hks := keyOk_size hko
    have htw : tTxn.wt t ≤ 1048576 := wt_mem_le (T := tTxn) (List.mem_of_getElem? ht) (by omega)
    have hkr : tRange.wt ((key, key) : tRange.D) ≤ 1048576 := by rw [wtRange]; simp only; omega
    have hi : (0 ≤ openB e c ∧ openB e c < (e.2.length : Int)) := by rw [hp]; omega
    simp only [Bool.not_true, cond_false]
    rw [if_pos hi]
    rw [hp, hr, n06n_is htw hkr]
    cases hrr : (readRangeB t (key, key)).1 with
    | false => simp only [Bool.not_false, cond_true]; rfl
    | true =>
      simp only [Bool.not_true, cond_false]
      rw [if_pos (by rw [← hp]; exact hi)]
      simp only [bne_self_eq_false, cond_false]
      rw [if_pos (by rw [← hp]; exact hi)]
      refine (n04n_is htw ho.1.1 key _).trans ?_
      rfl

/-- The engine that a read leaves. -/
theorem getKey_ok {e : tEngine.D} (h : tEngine.wt e ≤ 1048576) (c : Int) (key : ByteArray) :
    OkE (e.1, (getKeyB e c key).2) ∧ cntE (e.1, (getKeyB e c key).2) ≤ cntE e + 2 := by
  have hE := wtEngine e
  have ho := okE_wt h
  unfold getKeyB
  simp only [cond_eq_ite]
  repeat' split
  · exact ⟨ho, show cntE e ≤ cntE e + 2 by omega⟩
  · exact ⟨ho, show cntE e ≤ cntE e + 2 by omega⟩
  · exact ⟨ho, show cntE e ≤ cntE e + 2 by omega⟩
  · rcases openB_cases e c with hp | ⟨a, t, hp, hlt, ht, hr⟩
    · omega
    rw [hp, hr]
    have htw : tTxn.wt t ≤ 1048576 := wt_mem_le (T := tTxn) (List.mem_of_getElem? ht) (by omega)
    have hl := lensTxn2 htw
    refine ⟨⟨ho.1, okTs_set (y := withR t (readRangeB t (key, key)).2) ho.2 ⟨readRange_len htw (key, key), hl.2⟩ (a : Int).toNat⟩, ?_⟩
    have hs := cntT_set e.2 a (withR t (readRangeB t (key, key)).2) t ht
    have hr1 := readRange_le t (key, key)
    have h1 : cntT1 (withR t (readRangeB t (key, key)).2) = 6 + 2 * ((readRangeB t (key, key)).2.length : Int) + 3 * (t.2.2.2.2.2.1.length : Int) := rfl
    have h2 : cntT1 t = 6 + 2 * (t.2.2.2.2.1.length : Int) + 3 * (t.2.2.2.2.2.1.length : Int) := rfl
    show cntB e.1 + cntT (e.2.set (a : Int).toNat _) ≤ cntB e.1 + cntT e.2 + 2
    rw [Int.toNat_natCast, hs]
    omega

end
end Go.VE
