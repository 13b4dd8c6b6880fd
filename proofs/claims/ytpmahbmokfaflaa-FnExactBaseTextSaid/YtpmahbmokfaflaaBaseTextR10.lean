/- Plain laws: numbers and texts that are read. -/
import Derived.Test.YtpmahbmokfaflaaBaseTextR9
namespace Go.VE
noncomputable section
set_option linter.unusedVariables false
set_option linter.unusedSimpArgs false
set_option maxRecDepth 100000

/-! ### a number's bytes -/

def encN (n : Nat) : List Int := if n > 127 then ((n % 128 + 128 : Nat) : Int) :: encN (n / 128) else [(n : Int)]
  termination_by n
  decreasing_by omega

theorem encN_small {n : Nat} (h : n ≤ 127) : encN n = [(n : Int)] := by rw [encN, if_neg (by omega)]
theorem encN_big {n : Nat} (h : n > 127) : encN n = ((n % 128 + 128 : Nat) : Int) :: encN (n / 128) := by rw [encN, if_pos h]

theorem encN_pos (n : Nat) : 0 < (encN n).length := by rw [encN]; split <;> simp

theorem encN_bound : ∀ (m n : Nat), n < 128 ^ m → 0 < m → (encN n).length ≤ m
  | 0, n, _, h => by omega
  | m + 1, n, h, _ => by
    by_cases hn : n > 127
    · rw [encN_big hn, List.length_cons]
      have h1 : n / 128 < 128 ^ m := by rw [Nat.div_lt_iff_lt_mul (by omega)]; rw [Nat.pow_succ] at h; omega
      have h2 : 0 < m := by
        rcases Nat.eq_zero_or_pos m with rfl | hm
        · simp at h; omega
        · exact hm
      have := encN_bound m _ h1 h2
      omega
    · rw [encN_small (by omega)]; simp

theorem encN_byte : ∀ (m n : Nat), n ≤ m → ∀ y ∈ encN n, 0 ≤ y ∧ y ≤ 255
  | m, n, h, y, hy => by
    by_cases hn : n > 127
    · rw [encN_big hn, List.mem_cons] at hy
      rcases hy with rfl | hy
      · omega
      · match m, h with
        | 0, h => omega
        | m + 1, h => exact encN_byte m (n / 128) (by omega) y hy
    · rw [encN_small (by omega), List.mem_singleton] at hy
      omega

theorem wrap8 {x : Int} (h0 : 0 ≤ x) (h1 : x ≤ 255) : IntKind.wrap .u8 x = x := by
  unfold IntKind.wrap
  simp only [IntKind.bits, IntKind.signed]
  have e : (2 : Int) ^ 8 = 256 := by decide
  simp [e]
  omega

theorem tmod_nat (n : Nat) : ((n : Int).tmod 128) = ((n % 128 : Nat) : Int) := by rw [Int.tmod_eq_emod_of_nonneg (by omega)]; omega
theorem tdiv_nat (n : Nat) : ((n : Int).tdiv 128) = ((n / 128 : Nat) : Int) := by rw [Int.tdiv_eq_ediv_of_nonneg (by omega)]; omega

theorem impl_VarText_loop : ∀ (m n : Nat) (acc : List Int) (q : Nat), n < 128 ^ m → m < q → acc.length + m ≤ 1000 → n < 100000000000 → ∃ n' : Nat, ∃ acc' : List Int, acc' ++ [(n' : Int)] = acc ++ encN n ∧ n' ≤ 127 ∧ acc'.length ≤ 1000 ∧ ∀ K : Int × List Int → Option Res,
    loopK impl_VarText_b0 q ((n : Int), acc) K = K ((n' : Int), acc')
  | 0, n, acc, q, h, hq, ha, hb => by
    have h0 : n = 0 := by simpa using h
    subst h0
    obtain ⟨q, rfl⟩ : ∃ q', q = q' + 1 := ⟨q - 1, by omega⟩
    refine ⟨0, acc, by rw [encN_small (by omega)]; try rfl, by omega, by omega, fun K => ?_⟩
    simp [loopK, impl_VarText_b0]
  | m + 1, n, acc, q, h, hq, ha, hb => by
    obtain ⟨q, rfl⟩ : ∃ q', q = q' + 1 := ⟨q - 1, by omega⟩
    by_cases hn : n > 127
    · have h1 : n / 128 < 128 ^ m := by rw [Nat.div_lt_iff_lt_mul (by omega)]; rw [Nat.pow_succ] at h; omega
      have hw1 : IntKind.wrap .i64 (((n % 128 : Nat) : Int) + 128) = ((n % 128 + 128 : Nat) : Int) := by rw [wrap64 (by omega) (by omega)]; push_cast; rfl
      have hw2 : IntKind.wrap .u8 ((n % 128 + 128 : Nat) : Int) = ((n % 128 + 128 : Nat) : Int) := wrap8 (by omega) (by omega)
      have hw3 : IntKind.wrap .i64 ((n / 128 : Nat) : Int) = ((n / 128 : Nat) : Int) := wrap64 (by omega) (by omega)
      obtain ⟨n', acc', e1, e2, e3, e4⟩ := impl_VarText_loop m (n / 128) (acc ++ [((n % 128 + 128 : Nat) : Int)]) q h1 (by omega) (by simp; omega) (by omega)
      refine ⟨n', acc', by rw [e1, encN_big hn, List.append_assoc]; rfl, e2, e3, fun K => ?_⟩
      have hm : acc.length + [((n % 128 + 128 : Nat) : Int)].length ≤ VE.maxLen := by show _ ≤ 4294967296; simp; omega
      simp only [loopK, impl_VarText_b0, show (n : Int) > 127 by omega, decide_true, cond_true, tmod_nat, tdiv_nat, hw1, hw2, hw3, if_pos hm, Sum.elim_inl]
      exact e4 K
    · refine ⟨n, acc, by rw [encN_small (by omega)], by omega, by omega, fun K => ?_⟩
      simp only [loopK, impl_VarText_b0, show ¬ (n : Int) > 127 by omega, decide_false, cond_false, Sum.elim_inr]

theorem spec_l01Var_loop : ∀ (m n : Nat) (acc : List Int) (q : Nat), n < 128 ^ m → m < q → acc.length + m ≤ 1000 → n < 100000000000 → ∃ n' : Nat, ∃ acc' : List Int, acc' ++ [(n' : Int)] = acc ++ encN n ∧ n' ≤ 127 ∧ acc'.length ≤ 1000 ∧ ∀ K : Int × List Int → Option Res,
    loopK spec_l01Var_b0 q ((n : Int), acc) K = K ((n' : Int), acc')
  | 0, n, acc, q, h, hq, ha, hb => by
    have h0 : n = 0 := by simpa using h
    subst h0
    obtain ⟨q, rfl⟩ : ∃ q', q = q' + 1 := ⟨q - 1, by omega⟩
    refine ⟨0, acc, by rw [encN_small (by omega)]; try rfl, by omega, by omega, fun K => ?_⟩
    simp [loopK, spec_l01Var_b0]
  | m + 1, n, acc, q, h, hq, ha, hb => by
    obtain ⟨q, rfl⟩ : ∃ q', q = q' + 1 := ⟨q - 1, by omega⟩
    by_cases hn : n > 127
    · have h1 : n / 128 < 128 ^ m := by rw [Nat.div_lt_iff_lt_mul (by omega)]; rw [Nat.pow_succ] at h; omega
      have hw1 : IntKind.wrap .i64 (((n % 128 : Nat) : Int) + 128) = ((n % 128 + 128 : Nat) : Int) := by rw [wrap64 (by omega) (by omega)]; push_cast; rfl
      have hw2 : IntKind.wrap .u8 ((n % 128 + 128 : Nat) : Int) = ((n % 128 + 128 : Nat) : Int) := wrap8 (by omega) (by omega)
      have hw3 : IntKind.wrap .i64 ((n / 128 : Nat) : Int) = ((n / 128 : Nat) : Int) := wrap64 (by omega) (by omega)
      obtain ⟨n', acc', e1, e2, e3, e4⟩ := spec_l01Var_loop m (n / 128) (acc ++ [((n % 128 + 128 : Nat) : Int)]) q h1 (by omega) (by simp; omega) (by omega)
      refine ⟨n', acc', by rw [e1, encN_big hn, List.append_assoc]; rfl, e2, e3, fun K => ?_⟩
      have hm : acc.length + [((n % 128 + 128 : Nat) : Int)].length ≤ VE.maxLen := by show _ ≤ 4294967296; simp; omega
      simp only [loopK, spec_l01Var_b0, show (n : Int) > 127 by omega, decide_true, cond_true, tmod_nat, tdiv_nat, hw1, hw2, hw3, if_pos hm, Sum.elim_inl]
      exact e4 K
    · refine ⟨n, acc, by rw [encN_small (by omega)], by omega, by omega, fun K => ?_⟩
      simp only [loopK, spec_l01Var_b0, show ¬ (n : Int) > 127 by omega, decide_false, cond_false, Sum.elim_inr]

theorem impl_VarText_any {n : Nat} (hn : n < 100000000000) (k) : impl_VarText_k (n : Int) k = k (bif decide (n ≤ 1000000000) then (bytesOf (encN n), true) else (⟨#[]⟩, false)) := by
  rw [impl_VarText_e]
  unfold impl_VarText_d
  simp only [impl_within_is]
  by_cases hb : n ≤ 1000000000
  · have hw : withinB (n : Int) 0 1000000000 = true := by unfold withinB; simp; omega
    simp only [hw, hb, decide_true, cond_true, Bool.not_true, cond_false]
    obtain ⟨n', acc', e1, e2, e3, e4⟩ := impl_VarText_loop 10 n [] Fuel (Nat.lt_of_lt_of_le hn (by decide)) (Nat.lt_of_lt_of_le (by omega) fuel_big) (by simp) hn
    rw [e4]
    have hm : acc'.length + [(n' : Int)].length ≤ VE.maxLen := by show _ ≤ 4294967296; simp; omega
    have hw2 : IntKind.wrap .u8 (n' : Int) = (n' : Int) := wrap8 (by omega) (by omega)
    simp only [hw2, if_pos hm, e1, List.nil_append]
  · have hw : withinB (n : Int) 0 1000000000 = false := by unfold withinB; simp; omega
    simp only [hw, hb, decide_false, cond_false, Bool.not_false, cond_true]

theorem spec_l01Var_any {n : Nat} (hn : n < 100000000000) (k) : spec_l01Var_k (n : Int) k = k (bytesOf (encN n)) := by
  rw [spec_l01Var_e]
  unfold spec_l01Var_d
  obtain ⟨n', acc', e1, e2, e3, e4⟩ := spec_l01Var_loop 10 n [] Fuel (Nat.lt_of_lt_of_le hn (by decide)) (Nat.lt_of_lt_of_le (by omega) fuel_big) (by simp) hn
  rw [e4]
  have hm : acc'.length + [(n' : Int)].length ≤ VE.maxLen := by show _ ≤ 4294967296; simp; omega
  have hw2 : IntKind.wrap .u8 (n' : Int) = (n' : Int) := wrap8 (by omega) (by omega)
  simp only [hw2, if_pos hm, e1, List.nil_append]

/-! ### reading a number -/

/-- A number's value, lowest figures first. -/
def valN : List Int → Nat
  | [] => 0
  | c :: l => (c.toNat % 128) + 128 * valN l

/-- Bytes of one number: all but the last go on. -/
def goOn : List Int → Prop
  | [] => False
  | [c] => 0 ≤ c ∧ c < 128
  | c :: l => 128 ≤ c ∧ c ≤ 255 ∧ goOn l

theorem enc_val : ∀ (P : List Int), goOn P → ((encN (valN P)).length = P.length ↔ encN (valN P) = P)
  | [], h => h.elim
  | [c], h => by
    simp only [goOn] at h
    have hv : valN [c] = c.toNat := by simp only [valN]; omega
    rw [hv, encN_small (by omega)]
    simp
    omega
  | c :: d :: l, h => by
    simp only [goOn] at h
    have ih := enc_val (d :: l) h.2.2
    have hv : valN (c :: d :: l) = (c.toNat % 128) + 128 * valN (d :: l) := rfl
    constructor
    · intro hlen
      by_cases h0 : valN (d :: l) = 0
      · rw [hv, h0, encN_small (by omega)] at hlen
        simp at hlen
      · rw [hv, encN_big (by omega)] at hlen ⊢
        have e1 : (c.toNat % 128 + 128 * valN (d :: l)) / 128 = valN (d :: l) := by omega
        have e2 : (c.toNat % 128 + 128 * valN (d :: l)) % 128 = c.toNat % 128 := by omega
        rw [e1] at hlen ⊢
        rw [e2]
        rw [ih.1 (by simpa using hlen)]
        congr 1
        omega
    · intro h; rw [h]

def rvF (i n : Nat) : List Int → Option (Nat × Nat)
  | [] => none
  | c :: l => if 5 ≤ i then none else
      if c < 128 then (if n + (c.toNat % 128) * 128 ^ i ≤ 1000000000 ∧ (encN (n + (c.toNat % 128) * 128 ^ i)).length = i + 1 then some (n + (c.toNat % 128) * 128 ^ i, i + 1) else none)
      else rvF (i + 1) (n + (c.toNat % 128) * 128 ^ i) l

def rvR (a : Nat) : Option (Nat × Nat) → Int × Int × Bool
  | none => (0, 0, false)
  | some (n, c) => ((n : Int), ((a + c : Nat) : Int), true)

def readVarB (s : ByteArray) (a : Int) : Int × Int × Bool :=
  bif withinB a 0 (s.size : Int) then rvR a.toNat (rvF 0 0 ((intsOf s).drop a.toNat)) else (0, 0, false)

theorem bt_drop {s : ByteArray} {a : Nat} {c : Int} {l : List Int} (h : (intsOf s).drop a = c :: l) : bt s (a : Int) = c ∧ 0 ≤ c ∧ c ≤ 255 ∧ a < s.size := by
  have h1 := lws_get h
  have h2 := drop_lt h
  rw [intsOf_length] at h2
  refine ⟨h1, ?_, ?_, h2⟩
  · rw [← h1]; unfold bt; omega
  · rw [← h1]; unfold bt
    have := UInt8.toNat_lt (s.data.getD (a : Int).toNat 0)
    omega

theorem intsOf_bytesOf {l : List Int} (h : ∀ y ∈ l, 0 ≤ y ∧ y ≤ 255) : intsOf (bytesOf l) = l := by
  unfold intsOf
  rw [bytesOf_data, List.map_map]
  conv => rhs; rw [← List.map_id l]
  apply List.map_congr_left
  intro y hy
  have := h y hy
  simp [Function.comp]
  omega

theorem intsOf_extract (s : ByteArray) (a b : Nat) : intsOf (s.extract a b) = ((intsOf s).drop a).take (b - a) := by
  unfold intsOf
  simp [ByteArray.data_extract, List.map_take, List.map_drop]

theorem strEq_ints (a b : ByteArray) : strEq a b = decide (intsOf a = intsOf b) := by
  cases h : strEq a b
  · symm; apply decide_eq_false
    intro e
    have e2 : a = b := by rw [← bytesOf_intsOf a, e, bytesOf_intsOf b]
    rw [e2, strEq_eq, beq_self_eq_true] at h
    cases h
  · symm; apply decide_eq_true; rw [strEq_true h]

theorem goOn_byte : ∀ (P : List Int), goOn P → P ≠ []
  | [], h => h.elim
  | _ :: _, _ => by simp

theorem rvF_ok : ∀ (l : List Int) (i n : Nat) {v c : Nat}, rvF i n l = some (v, c) → i < c ∧ c ≤ i + l.length ∧ v ≤ 1000000000
  | [], i, n, v, c, h => by simp [rvF] at h
  | x :: l, i, n, v, c, h => by
    simp only [rvF] at h
    split at h
    · cases h
    · split at h
      · split at h
        · rename_i h2
          simp only [Option.some.injEq, Prod.mk.injEq] at h
          simp only [List.length_cons]
          omega
        · cases h
      · have := rvF_ok l (i + 1) _ h
        simp only [List.length_cons]
        omega

theorem readVar_ok {s : ByteArray} {a : Int} (h : (readVarB s a).2.2 = true) : ∃ v c : Nat, readVarB s a = ((v : Int), (c : Int), true) ∧ v ≤ 1000000000 ∧ 0 ≤ a ∧ a < (c : Int) ∧ c ≤ s.size := by
  unfold readVarB at h ⊢
  cases hw : withinB a 0 (s.size : Int)
  · rw [hw] at h; cases h
  · rw [hw] at h
    simp only [cond_true] at h ⊢
    unfold withinB at hw
    simp only [Bool.and_eq_true, decide_eq_true_eq] at hw
    cases hr : rvF 0 0 ((intsOf s).drop a.toNat) with
    | none => rw [hr] at h; cases h
    | some p =>
      obtain ⟨v, c⟩ := p
      have := rvF_ok _ _ _ hr
      rw [List.length_drop, intsOf_length] at this
      refine ⟨v, a.toNat + c, rfl, this.2.2, hw.1, by omega, by omega⟩


/-! ### texts, bits and numbers of a reader -/

def shortB (s : ByteArray) (a : Int) : ByteArray × Int × Bool :=
  bif !(readVarB s a).2.2 then ((⟨#[]⟩ : ByteArray), (0 : Int), false) else
  bif decide ((readVarB s a).1 > (20000 : Int)) then ((⟨#[]⟩ : ByteArray), (0 : Int), false) else
  bif decide ((readVarB s a).1 > (s.size : Int) - (readVarB s a).2.1) then ((⟨#[]⟩ : ByteArray), (0 : Int), false) else
    (s.extract (readVarB s a).2.1.toNat ((readVarB s a).2.1 + (readVarB s a).1).toNat, (readVarB s a).2.1 + (readVarB s a).1, true)

theorem short_ok {s : ByteArray} {a : Int} (h : (shortB s a).2.2 = true) : 0 ≤ a ∧ a + 1 + ((shortB s a).1.size : Int) ≤ (shortB s a).2.1 ∧ (shortB s a).2.1 ≤ (s.size : Int) := by
  unfold shortB at h ⊢
  cases hr : (readVarB s a).2.2
  · rw [hr] at h; cases h
  · obtain ⟨v, c, e, h1, h2, h3, h4⟩ := readVar_ok hr
    rw [e] at h ⊢
    simp only [Bool.not_true, cond_false] at h ⊢
    cases g1 : decide ((v : Int) > 20000)
    · cases g2 : decide ((v : Int) > (s.size : Int) - (c : Int))
      · simp only [cond_false]
        have g2' := of_decide_eq_false g2
        have hz : (s.extract c ((c : Int) + (v : Int)).toNat).size = min ((c : Int) + (v : Int)).toNat s.size - c := ByteArray.size_extract
        simp only [Int.toNat_natCast, hz]
        omega
      · rw [g1, g2] at h; cases h
    · rw [g1] at h; cases h

def textB (s : ByteArray) (a : Int) (b : Bool) : ByteArray × Int × Bool :=
  bif b then ((⟨#[]⟩ : ByteArray), a, true) else bif !(shortB s a).2.2 then ((⟨#[]⟩ : ByteArray), a, true) else ((shortB s a).1, (shortB s a).2.1, b)
def numB (s : ByteArray) (a : Int) (b : Bool) : Int × Int × Bool :=
  bif b then ((0 : Int), a, true) else bif !(readVarB s a).2.2 then ((0 : Int), a, true) else ((readVarB s a).1, (readVarB s a).2.1, b)
def flagB (s : ByteArray) (a : Int) (b : Bool) : Bool × Int × Bool :=
  bif b then (false, a, true) else bif !withinB a 0 ((s.size : Int) - 1) then (false, a, true) else bif decide (bt s a > 1) then (false, a, true) else ((bt s a == 1), a + 1, b)

theorem text_stp {s : ByteArray} {a : Int} {b : Bool} (h : (textB s a b).2.2 = false) : b = false ∧ 0 ≤ a ∧ a + 1 + ((textB s a b).1.size : Int) ≤ (textB s a b).2.1 ∧ (textB s a b).2.1 ≤ (s.size : Int) := by
  unfold textB at h ⊢
  cases b
  · cases hq : (shortB s a).2.2
    · rw [hq] at h; cases h
    · simp only [cond_false, Bool.not_true]
      have := short_ok hq
      exact ⟨by trivial, this⟩
  · cases h
theorem num_stp {s : ByteArray} {a : Int} {b : Bool} (h : (numB s a b).2.2 = false) : b = false ∧ 0 ≤ a ∧ a + 1 ≤ (numB s a b).2.1 ∧ (numB s a b).2.1 ≤ (s.size : Int) := by
  unfold numB at h ⊢
  cases b
  · cases hq : (readVarB s a).2.2
    · rw [hq] at h; cases h
    · obtain ⟨v, c, e, h1, h2, h3, h4⟩ := readVar_ok hq
      simp only [cond_false, Bool.not_true, e]
      exact ⟨by trivial, h2, by omega, by omega⟩
  · cases h
theorem num_val (s : ByteArray) (a : Int) (b : Bool) : ∃ v : Nat, (numB s a b).1 = (v : Int) ∧ v ≤ 1000000000 := by
  unfold numB
  cases b
  · cases hq : (readVarB s a).2.2
    · exact ⟨0, rfl, by omega⟩
    · obtain ⟨v, c, e, h1, h2, h3, h4⟩ := readVar_ok hq
      simp only [cond_false, Bool.not_true, e]
      exact ⟨v, rfl, h1⟩
  · exact ⟨0, rfl, by omega⟩
theorem flag_stp {s : ByteArray} {a : Int} {b : Bool} (h : (flagB s a b).2.2 = false) : b = false ∧ 0 ≤ a ∧ a + 1 ≤ (flagB s a b).2.1 ∧ (flagB s a b).2.1 ≤ (s.size : Int) := by
  unfold flagB at h ⊢
  cases b
  · cases hq : withinB a 0 ((s.size : Int) - 1)
    · rw [hq] at h; cases h
    · unfold withinB at hq
      simp only [Bool.and_eq_true, decide_eq_true_eq] at hq
      cases hd : decide (bt s a > 1)
      · simp only [cond_false, Bool.not_true]
        exact ⟨by trivial, hq.1, by omega, by omega⟩
      · simp only [withinB, hd] at h
        cases decide (a ≥ 0) <;> cases decide (a ≤ (s.size : Int) - 1) <;> simp at h
  · cases h

/-! ### rounds -/

def eachG {α : Type} (R : Int → Bool → α × Int × Bool) : Nat → Int → Bool → List α → Int × Bool × List α
  | 0, a, b, l => (a, b, l)
  | m + 1, a, b, l => bif b then (a, b, l) else eachG R m (R a b).2.1 (R a b).2.2 (l ++ [(R a b).1])

theorem eachG_bad {α : Type} (R : Int → Bool → α × Int × Bool) (m : Nat) (a : Int) (l : List α) : eachG R m a true l = (a, true, l) := by cases m <;> rfl

def StpR {α : Type} (R : Int → Bool → α × Int × Bool) (wt : α → Nat) (N : Int) : Prop :=
  ∀ a b, (R a b).2.2 = false → b = false ∧ 0 ≤ a ∧ a + 1 + (wt (R a b).1 : Int) ≤ (R a b).2.1 ∧ (R a b).2.1 ≤ N

theorem eachG_loop {α β : Type} {R : Int → Bool → α × Int × Bool} {wt : α → Nat} {N : Int} (hR : StpR R wt N) {n : Nat} {body : β → (β ⊕ β → Option Res) → Option Res} {σ : Int → Int → Bool → List α → β}
    (hgo : ∀ (i : Nat) (a : Int) (l : List α) (K), i < n → 0 ≤ a → a ≤ N → l.length ≤ 3000000 → body (σ (i : Int) a false l) K = K (.inl (σ ((i + 1 : Nat) : Int) (R a false).2.1 (R a false).2.2 (l ++ [(R a false).1]))))
    (hstop : ∀ (i : Nat) (a : Int) (b : Bool) (l : List α) (K), (i = n ∨ b = true) → body (σ (i : Int) a b l) K = K (.inr (σ (i : Int) a b l))) :
    ∀ (d m i : Nat) (a : Int) (b : Bool) (l : List α) (q : Nat), i + m = n → (b = false → 0 ≤ a ∧ a ≤ N ∧ N - a < (d : Int)) → d < q → l.length + d ≤ 3000000 →
      ∃ j : Int, ∀ K, loopK body q (σ (i : Int) a b l) K = K (σ j (eachG R m a b l).1 (eachG R m a b l).2.1 (eachG R m a b l).2.2) := by
  intro d
  induction d with
  | zero =>
    intro m i a b l q hi hb hq hl
    obtain ⟨q, rfl⟩ : ∃ q', q = q' + 1 := ⟨q - 1, by omega⟩
    cases b
    · have := hb rfl; omega
    · refine ⟨(i : Int), fun K => ?_⟩
      simp only [loopK, hstop i a true l _ (.inr rfl), eachG_bad, Sum.elim_inr]
  | succ d ih =>
    intro m i a b l q hi hb hq hl
    obtain ⟨q, rfl⟩ : ∃ q', q = q' + 1 := ⟨q - 1, by omega⟩
    cases b
    · have hb' := hb rfl
      cases m with
      | zero =>
        refine ⟨(i : Int), fun K => ?_⟩
        simp only [loopK, hstop i a false l _ (.inl (by omega)), eachG, Sum.elim_inr]
      | succ m =>
        obtain ⟨j, hj⟩ := ih m (i + 1) (R a false).2.1 (R a false).2.2 (l ++ [(R a false).1]) q (by omega) (fun h => by
          have := hR a false h
          omega) (by omega) (by rw [List.length_append, List.length_singleton]; omega)
        refine ⟨j, fun K => ?_⟩
        simp only [loopK, hgo i a l _ (by omega) hb'.1 hb'.2.1 (by omega), eachG, cond_false, Sum.elim_inl]
        exact hj K
    · refine ⟨(i : Int), fun K => ?_⟩
      simp only [loopK, hstop i a true l _ (.inr rfl), eachG_bad, Sum.elim_inr]

theorem eachG_stp {α : Type} {R : Int → Bool → α × Int × Bool} {wt : α → Nat} {N : Int} (hR : StpR R wt N) : ∀ (m : Nat) (a : Int) (b : Bool) (l : List α), (b = false → 0 ≤ a ∧ a ≤ N) → (eachG R m a b l).2.1 = false →
    b = false ∧ a ≤ (eachG R m a b l).1 ∧ (eachG R m a b l).1 ≤ N ∧ (eachG R m a b l).2.2.length = l.length + m ∧
      (((eachG R m a b l).2.2.length + ((eachG R m a b l).2.2.map wt).sum : Nat) : Int) + a ≤ ((l.length + (l.map wt).sum : Nat) : Int) + (eachG R m a b l).1
  | 0, a, b, l, hb, h => by
    simp only [eachG] at h ⊢
    have := hb h
    exact ⟨h, by omega, by omega, rfl, by omega⟩
  | m + 1, a, b, l, hb, h => by
    cases b
    · simp only [eachG, cond_false] at h ⊢
      have hb' := hb rfl
      have ih := eachG_stp hR m (R a false).2.1 (R a false).2.2 (l ++ [(R a false).1]) (fun h => by have := hR a false h; omega) h
      have hs := hR a false ih.1
      rw [List.length_append, List.length_singleton, List.map_append, List.sum_append] at ih
      simp only [List.map_cons, List.map_nil, List.sum_cons, List.sum_nil] at ih
      refine ⟨by trivial, by omega, ih.2.2.1, by omega, by omega⟩
    · simp only [eachG, cond_true] at h
      cases h

def rgB (s : ByteArray) (a : Int) (b : Bool) : tRange.D × Int × Bool :=
  (((textB s a b).1, (textB s (textB s a b).2.1 (textB s a b).2.2).1), (textB s (textB s a b).2.1 (textB s a b).2.2).2.1, (textB s (textB s a b).2.1 (textB s a b).2.2).2.2)
def wrB1 (s : ByteArray) (p : tRange.D × Int × Bool) : tWrite.D × Int × Bool :=
  ((p.1.1, (p.1.2, (flagB s p.2.1 p.2.2).1)), (flagB s p.2.1 p.2.2).2.1, (flagB s p.2.1 p.2.2).2.2)
def wrB (s : ByteArray) (a : Int) (b : Bool) : tWrite.D × Int × Bool := wrB1 s (rgB s a b)

theorem rg_stp (s : ByteArray) : StpR (rgB s) tRange.wt (s.size : Int) := by
  intro a b h
  unfold rgB at h ⊢
  have h2 := text_stp h
  have h1 := text_stp h2.1
  refine ⟨h1.1, h1.2.1, ?_, h2.2.2.2⟩
  show a + 1 + (((textB s a b).1.size + (textB s (textB s a b).2.1 (textB s a b).2.2).1.size : Nat) : Int) ≤ _
  simp only
  omega
theorem wr_stp (s : ByteArray) : StpR (wrB s) tWrite.wt (s.size : Int) := by
  intro a b h
  unfold wrB wrB1 at h ⊢
  have h2 := flag_stp h
  have h1 := rg_stp s a b h2.1
  refine ⟨h1.1, h1.2.1, ?_, h2.2.2.2⟩
  have e : tWrite.wt ((rgB s a b).1.1, ((rgB s a b).1.2, (flagB s (rgB s a b).2.1 (rgB s a b).2.2).1)) = tRange.wt (rgB s a b).1 := rfl
  simp only [e]
  omega


theorem num_at {s : ByteArray} {a : Int} {b : Bool} (h : (numB s a b).2.2 = false) : 0 ≤ (numB s a b).2.1 ∧ (numB s a b).2.1 ≤ (s.size : Int) := by
  have := num_stp h
  omega
theorem each_at {α : Type} {R : Int → Bool → α × Int × Bool} {wt : α → Nat} {N : Int} (hR : StpR R wt N) {m : Nat} {a : Int} {b : Bool} {l : List α} (hb : b = false → 0 ≤ a ∧ a ≤ N) (h : (eachG R m a b l).2.1 = false) : 0 ≤ (eachG R m a b l).1 ∧ (eachG R m a b l).1 ≤ N := by
  have h1 := eachG_stp hR m a b l hb h
  have h2 := hb h1.1
  omega

theorem maxLen_ok {n : Nat} (h : n ≤ 3000000) : n + 1 ≤ VE.maxLen := by show n + 1 ≤ 4294967296; omega

abbrev dRT := Int × Int × Int × Int × Bool × ByteArray × Int × Bool × (List dRange) × (List dWrite)
def zRT : dRT := ((0 : Int), (0 : Int), (0 : Int), (0 : Int), false, (⟨#[]⟩ : ByteArray), (0 : Int), false, ([] : List dRange), ([] : List dWrite))

def tx3 (i1 i2 i3 i4 : Int) (rs : List dRange) (ws : List dWrite) (g : Bool) (x : ByteArray × Int × Bool) : dRT :=
  bif x.2.2 then zRT else bif !txnOkB (i1, (i2, (i3, (i4, (rs, (ws, (g, x.1))))))) then zRT else (i1, i2, i3, i4, g, x.1, x.2.1, true, rs, ws)
def tx2 (s : ByteArray) (i1 i2 i3 i4 : Int) (rs : List dRange) (e : Int × Bool × List dWrite) : dRT :=
  tx3 i1 i2 i3 i4 rs e.2.2 (flagB s e.1 e.2.1).1 (textB s (flagB s e.1 e.2.1).2.1 (flagB s e.1 e.2.1).2.2)
def wsE (f : Nat → Nat) (s : ByteArray) (e : Int × Bool × List dRange) : Int × Bool × List dWrite :=
  eachG (wrB s) (f (numB s e.1 e.2.1).1.toNat) (numB s e.1 e.2.1).2.1 (numB s e.1 e.2.1).2.2 []
def rsE (f : Nat → Nat) (s : ByteArray) (p : Int × Int × Bool) : Int × Bool × List dRange :=
  eachG (rgB s) (f (numB s p.2.1 p.2.2).1.toNat) (numB s p.2.1 p.2.2).2.1 (numB s p.2.1 p.2.2).2.2 []
def tx0 (f : Nat → Nat) (s : ByteArray) (p1 p2 p3 p4 : Int × Int × Bool) : dRT :=
  tx2 s p1.1 p2.1 p3.1 p4.1 (rsE f s p4).2.2 (wsE f s (rsE f s p4))
def nx (s : ByteArray) (p : Int × Int × Bool) : Int × Int × Bool := numB s p.2.1 p.2.2
def readTxnB (f : Nat → Nat) (s : ByteArray) (a : Int) : dRT :=
  tx0 f s (numB s a false) (nx s (numB s a false)) (nx s (nx s (numB s a false))) (nx s (nx s (nx s (numB s a false))))

theorem tx_wt {s : ByteArray} (hs : s.size ≤ 1048576) (f : Nat → Nat) {p : Int × Int × Bool} {i1 i2 i3 i4 : Int} {e2} (he : e2 = wsE f s (rsE f s p)) (hx : (textB s (flagB s e2.1 e2.2.1).2.1 (flagB s e2.1 e2.2.1).2.2).2.2 = false) :
    tTxn.wt (i1, (i2, (i3, (i4, ((rsE f s p).2.2, (e2.2.2, ((flagB s e2.1 e2.2.1).1, (textB s (flagB s e2.1 e2.2.1).2.1 (flagB s e2.1 e2.2.1).2.2).1))))))) ≤ 1048576 := by
  rw [wtTxn]
  have h1 := text_stp hx
  have h2 := flag_stp h1.1
  have h3 := h2.1
  rw [he] at h3
  have h4 := eachG_stp (wr_stp s) _ _ _ _ (fun h => num_at h) h3
  have h5 := num_stp h4.1
  have h6 := eachG_stp (rg_stp s) _ _ _ _ (fun h => num_at h) h5.1
  have h7 := num_stp h6.1
  rw [show eachG (wrB s) (f (numB s (rsE f s p).1 (rsE f s p).2.1).1.toNat) (numB s (rsE f s p).1 (rsE f s p).2.1).2.1 (numB s (rsE f s p).1 (rsE f s p).2.1).2.2 [] = e2 from he.symm] at h4
  have h4' := h4.2.2.2.2
  have h6' := h6.2.2.2.2
  have e3 : (Ty.slice tRange).wt (rsE f s p).2.2 = (rsE f s p).2.2.length + ((rsE f s p).2.2.map tRange.wt).sum := rfl
  have e4 : (Ty.slice tWrite).wt e2.2.2 = e2.2.2.length + (e2.2.2.map tWrite.wt).sum := rfl
  have e5 : (rsE f s p) = eachG (rgB s) (f (numB s p.2.1 p.2.2).1.toNat) (numB s p.2.1 p.2.2).2.1 (numB s p.2.1 p.2.2).2.2 [] := rfl
  rw [← e5] at h6 h6'
  simp only [List.length_nil, List.map_nil, List.sum_nil] at h4' h6'
  simp only
  rw [e3, e4]
  omega


theorem rs_at {s : ByteArray} (f : Nat → Nat) {p : Int × Int × Bool} (h : (rsE f s p).2.1 = false) : 0 ≤ (rsE f s p).1 ∧ (rsE f s p).1 ≤ (s.size : Int) := each_at (rg_stp s) (fun h => num_at h) h
theorem ws_at {s : ByteArray} (f : Nat → Nat) {e : Int × Bool × List dRange} (h : (wsE f s e).2.1 = false) : 0 ≤ (wsE f s e).1 ∧ (wsE f s e).1 ≤ (s.size : Int) := each_at (wr_stp s) (fun h => num_at h) h

theorem tx3_long {i1 i2 i3 i4 : Int} {rs : List dRange} {ws : List dWrite} {g : Bool} {x : ByteArray × Int × Bool} (h : rs.length > 8 ∨ ws.length > 8 ∨ x.2.2 = true) : tx3 i1 i2 i3 i4 rs ws g x = zRT := by
  unfold tx3
  cases hx : x.2.2
  · have : txnOkB (i1, (i2, (i3, (i4, (rs, (ws, (g, x.1))))))) = false := by
      cases ho : txnOkB (i1, (i2, (i3, (i4, (rs, (ws, (g, x.1)))))))
      · rfl
      · have h1 := (txnOk_small ho).2.2.2.2.1
        have h2 := (txnOk_small ho).2.2.2.2.2.2.1
        simp only at h1 h2
        rcases h with h | h | h
        · omega
        · omega
        · rw [hx] at h; cases h
    simp [this]
  · rfl

theorem tx2_long {s : ByteArray} {i1 i2 i3 i4 : Int} {rs : List dRange} {e : Int × Bool × List dWrite} (h : rs.length > 8 ∨ e.2.2.length > 8 ∨ e.2.1 = true) : tx2 s i1 i2 i3 i4 rs e = zRT := by
  unfold tx2
  apply tx3_long
  rcases h with h | h | h
  · exact .inl h
  · exact .inr (.inl h)
  · refine .inr (.inr ?_)
    rw [h]
    rfl

theorem rs_long {f : Nat → Nat} {s : ByteArray} {p : Int × Int × Bool} (h : f (numB s p.2.1 p.2.2).1.toNat > 8) : (rsE f s p).2.2.length > 8 ∨ (rsE f s p).2.1 = true := by
  cases hb : (rsE f s p).2.1
  · left
    have := eachG_stp (rg_stp s) _ _ _ _ (fun h => num_at h) hb
    have h2 := this.2.2.2.1
    unfold rsE
    rw [h2]
    simp only [List.length_nil]
    omega
  · exact .inr rfl
theorem ws_long {f : Nat → Nat} {s : ByteArray} {e : Int × Bool × List dRange} (h : f (numB s e.1 e.2.1).1.toNat > 8 ∨ e.2.1 = true) : (wsE f s e).2.2.length > 8 ∨ (wsE f s e).2.1 = true := by
  cases hb : (wsE f s e).2.1
  · left
    have := eachG_stp (wr_stp s) _ _ _ _ (fun h => num_at h) hb
    have h2 := this.2.2.2.1
    have h3 := (num_stp this.1).1
    unfold wsE
    rw [h2]
    simp only [List.length_nil]
    rcases h with h | h
    · omega
    · rw [h] at h3; cases h3
  · exact .inr rfl

theorem tx0_eq (s : ByteArray) (p1 p2 p3 p4 : Int × Int × Bool) : tx0 (fun n => min n 10) s p1 p2 p3 p4 = tx0 id s p1 p2 p3 p4 := by
  unfold tx0
  by_cases h1 : (numB s p4.2.1 p4.2.2).1.toNat ≤ 8
  · have e1 : rsE (fun n => min n 10) s p4 = rsE id s p4 := by
      unfold rsE; rw [show (fun n => min n 10) (numB s p4.2.1 p4.2.2).1.toNat = id (numB s p4.2.1 p4.2.2).1.toNat by simp; omega]
    rw [e1]
    by_cases h2 : (numB s (rsE id s p4).1 (rsE id s p4).2.1).1.toNat ≤ 8
    · have e2 : wsE (fun n => min n 10) s (rsE id s p4) = wsE id s (rsE id s p4) := by
        unfold wsE; rw [show (fun n => min n 10) (numB s (rsE id s p4).1 (rsE id s p4).2.1).1.toNat = id (numB s (rsE id s p4).1 (rsE id s p4).2.1).1.toNat by simp; omega]
      rw [e2]
    · rw [tx2_long (.inr (ws_long (f := fun n => min n 10) (.inl (by simp; omega)))), tx2_long (.inr (ws_long (f := id) (.inl (by simp; omega))))]
  · have g : ∀ f : Nat → Nat, f (numB s p4.2.1 p4.2.2).1.toNat > 8 → tx2 s p1.1 p2.1 p3.1 p4.1 (rsE f s p4).2.2 (wsE f s (rsE f s p4)) = zRT := fun f hf => by
      rcases rs_long (f := f) hf with h | h
      · exact tx2_long (.inl h)
      · exact tx2_long (.inr (ws_long (.inr h)))
    rw [g _ (by simp; omega), g _ (by simp; omega)]

theorem readTxnB_eq (s : ByteArray) (a : Int) : readTxnB (fun n => min n 10) s a = readTxnB id s a := tx0_eq _ _ _ _ _

theorem readTxnB_ok {s : ByteArray} (hs : s.size ≤ 1048576) (a : Int) :
    tTxn.wt ((readTxnB id s a).1, ((readTxnB id s a).2.1, ((readTxnB id s a).2.2.1, ((readTxnB id s a).2.2.2.1, ((readTxnB id s a).2.2.2.2.2.2.2.2.1, ((readTxnB id s a).2.2.2.2.2.2.2.2.2, ((readTxnB id s a).2.2.2.2.1, (readTxnB id s a).2.2.2.2.2.1))))))) ≤ 1048576 := by
  have hz : tTxn.wt (zRT.1, (zRT.2.1, (zRT.2.2.1, (zRT.2.2.2.1, (zRT.2.2.2.2.2.2.2.2.1, (zRT.2.2.2.2.2.2.2.2.2, (zRT.2.2.2.2.1, zRT.2.2.2.2.2.1))))))) ≤ 1048576 := by decide
  unfold readTxnB
  generalize numB s a false = p1
  generalize nx s p1 = p2
  generalize nx s p2 = p3
  generalize nx s p3 = p4
  unfold tx0 tx2 tx3
  cases hx : (textB s (flagB s (wsE id s (rsE id s p4)).1 (wsE id s (rsE id s p4)).2.1).2.1 (flagB s (wsE id s (rsE id s p4)).1 (wsE id s (rsE id s p4)).2.1).2.2).2.2
  · simp only [cond_false]
    cases txnOkB (p1.1, (p2.1, (p3.1, (p4.1, ((rsE id s p4).2.2, ((wsE id s (rsE id s p4)).2.2, ((flagB s (wsE id s (rsE id s p4)).1 (wsE id s (rsE id s p4)).2.1).1, (textB s (flagB s (wsE id s (rsE id s p4)).1 (wsE id s (rsE id s p4)).2.1).2.1 (flagB s (wsE id s (rsE id s p4)).1 (wsE id s (rsE id s p4)).2.1).2.2).1)))))))
    · exact hz
    · exact tx_wt hs id rfl hx
  · exact hz

end

end Go.VE
