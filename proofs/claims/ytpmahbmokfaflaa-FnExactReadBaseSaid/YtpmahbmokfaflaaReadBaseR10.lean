/- Plain laws: numbers and texts that are read. -/
import Derived.Test.YtpmahbmokfaflaaReadBaseR9
namespace Go.VE
noncomputable section
set_option linter.unusedVariables false
set_option linter.unusedSimpArgs false
set_option maxRecDepth 100000
/-! ### a number's bytes -/
def encN (n : Nat) : List Int := if n > 127 then ((n % 128 + 128 : Nat) : Int) :: encN (n / 128) else [(n : Int)]
  termination_by n
  decreasing_by omega
theorem vfu {n : Nat} (h : n ≤ 127) : encN n = [(n : Int)] := by rw [encN, if_neg (by omega)]
theorem vv0 {n : Nat} (h : n > 127) : encN n = ((n % 128 + 128 : Nat) : Int) :: encN (n / 128) := by rw [encN, if_pos h]
theorem v7r : ∀ (m n : Nat), n ≤ m → ∀ y ∈ encN n, 0 ≤ y ∧ y ≤ 255
  | m, n, h, y, hy => by
    by_cases hn : n > 127
    · rw [vv0 hn, List.mem_cons] at hy
      rcases hy with rfl | hy
      · omega
      · match m, h with
        | 0, h => omega
        | m + 1, h => exact v7r m (n / 128) (by omega) y hy
    · rw [vfu (by omega), List.mem_singleton] at hy
      omega
theorem wso {x : Int} (h0 : 0 ≤ x) (h1 : x ≤ 255) : IntKind.wrap .u8 x = x := by
  unfold IntKind.wrap
  simp only [IntKind.bits, IntKind.signed]
  have e : (2 : Int) ^ 8 = 256 := by decide
  simp [e]
  omega
theorem vvs (n : Nat) : ((n : Int).tmod 128) = ((n % 128 : Nat) : Int) := by rw [Int.tmod_eq_emod_of_nonneg (by omega)]; omega
theorem wcu (n : Nat) : ((n : Int).tdiv 128) = ((n / 128 : Nat) : Int) := by rw [Int.tdiv_eq_ediv_of_nonneg (by omega)]; omega
theorem v51 : ∀ (m n : Nat) (acc : List Int) (q : Nat), n < 128 ^ m → m < q → acc.length + m ≤ 1000 → n < 100000000000 → ∃ n' : Nat, ∃ acc' : List Int, acc' ++ [(n' : Int)] = acc ++ encN n ∧ n' ≤ 127 ∧ acc'.length ≤ 1000 ∧ ∀ K : Int × List Int → Option Res,
    vai vli q ((n : Int), acc) K = K ((n' : Int), acc')
  | 0, n, acc, q, h, hq, ha, hb => by
    have h0 : n = 0 := by simpa using h
    subst h0
    obtain ⟨q, rfl⟩ : ∃ q', q = q' + 1 := ⟨q - 1, by omega⟩
    refine ⟨0, acc, by rw [vfu (by omega)]; try rfl, by omega, by omega, fun K => ?_⟩
    simp [vai, vli]
  | m + 1, n, acc, q, h, hq, ha, hb => by
    obtain ⟨q, rfl⟩ : ∃ q', q = q' + 1 := ⟨q - 1, by omega⟩
    by_cases hn : n > 127
    · have h1 : n / 128 < 128 ^ m := by rw [Nat.div_lt_iff_lt_mul (by omega)]; rw [Nat.pow_succ] at h; omega
      have hw1 : IntKind.wrap .i64 (((n % 128 : Nat) : Int) + 128) = ((n % 128 + 128 : Nat) : Int) := by rw [vax (by omega) (by omega)]; push_cast; rfl
      have hw2 : IntKind.wrap .u8 ((n % 128 + 128 : Nat) : Int) = ((n % 128 + 128 : Nat) : Int) := wso (by omega) (by omega)
      have hw3 : IntKind.wrap .i64 ((n / 128 : Nat) : Int) = ((n / 128 : Nat) : Int) := vax (by omega) (by omega)
      obtain ⟨n', acc', e1, e2, e3, e4⟩ := v51 m (n / 128) (acc ++ [((n % 128 + 128 : Nat) : Int)]) q h1 (by omega) (by simp; omega) (by omega)
      refine ⟨n', acc', by rw [e1, vv0 hn, List.append_assoc]; rfl, e2, e3, fun K => ?_⟩
      have hm : acc.length + [((n % 128 + 128 : Nat) : Int)].length ≤ VE.maxLen := by show _ ≤ 4294967296; simp; omega
      simp only [vai, vli, show (n : Int) > 127 by omega, decide_true, cond_true, vvs, wcu, hw1, hw2, hw3, if_pos hm, Sum.elim_inl]
      exact e4 K
    · refine ⟨n, acc, by rw [vfu (by omega)], by omega, by omega, fun K => ?_⟩
      simp only [vai, vli, show ¬ (n : Int) > 127 by omega, decide_false, cond_false, Sum.elim_inr]
theorem v5v : ∀ (m n : Nat) (acc : List Int) (q : Nat), n < 128 ^ m → m < q → acc.length + m ≤ 1000 → n < 100000000000 → ∃ n' : Nat, ∃ acc' : List Int, acc' ++ [(n' : Int)] = acc ++ encN n ∧ n' ≤ 127 ∧ acc'.length ≤ 1000 ∧ ∀ K : Int × List Int → Option Res,
    vai vkh q ((n : Int), acc) K = K ((n' : Int), acc')
  | 0, n, acc, q, h, hq, ha, hb => by
    have h0 : n = 0 := by simpa using h
    subst h0
    obtain ⟨q, rfl⟩ : ∃ q', q = q' + 1 := ⟨q - 1, by omega⟩
    refine ⟨0, acc, by rw [vfu (by omega)]; try rfl, by omega, by omega, fun K => ?_⟩
    simp [vai, vkh]
  | m + 1, n, acc, q, h, hq, ha, hb => by
    obtain ⟨q, rfl⟩ : ∃ q', q = q' + 1 := ⟨q - 1, by omega⟩
    by_cases hn : n > 127
    · have h1 : n / 128 < 128 ^ m := by rw [Nat.div_lt_iff_lt_mul (by omega)]; rw [Nat.pow_succ] at h; omega
      have hw1 : IntKind.wrap .i64 (((n % 128 : Nat) : Int) + 128) = ((n % 128 + 128 : Nat) : Int) := by rw [vax (by omega) (by omega)]; push_cast; rfl
      have hw2 : IntKind.wrap .u8 ((n % 128 + 128 : Nat) : Int) = ((n % 128 + 128 : Nat) : Int) := wso (by omega) (by omega)
      have hw3 : IntKind.wrap .i64 ((n / 128 : Nat) : Int) = ((n / 128 : Nat) : Int) := vax (by omega) (by omega)
      obtain ⟨n', acc', e1, e2, e3, e4⟩ := v5v m (n / 128) (acc ++ [((n % 128 + 128 : Nat) : Int)]) q h1 (by omega) (by simp; omega) (by omega)
      refine ⟨n', acc', by rw [e1, vv0 hn, List.append_assoc]; rfl, e2, e3, fun K => ?_⟩
      have hm : acc.length + [((n % 128 + 128 : Nat) : Int)].length ≤ VE.maxLen := by show _ ≤ 4294967296; simp; omega
      simp only [vai, vkh, show (n : Int) > 127 by omega, decide_true, cond_true, vvs, wcu, hw1, hw2, hw3, if_pos hm, Sum.elim_inl]
      exact e4 K
    · refine ⟨n, acc, by rw [vfu (by omega)], by omega, by omega, fun K => ?_⟩
      simp only [vai, vkh, show ¬ (n : Int) > 127 by omega, decide_false, cond_false, Sum.elim_inr]
theorem wpi {n : Nat} (hn : n < 100000000000) (k) : v19 (n : Int) k = k (bif decide (n ≤ 1000000000) then (vd4 (encN n), true) else (⟨#[]⟩, false)) := by
  rw [wmr]
  unfold wdh
  simp only [vrn]
  by_cases hb : n ≤ 1000000000
  · have hw : vaw (n : Int) 0 1000000000 = true := by unfold vaw; simp; omega
    simp only [hw, hb, decide_true, cond_true, Bool.not_true, cond_false]
    obtain ⟨n', acc', e1, e2, e3, e4⟩ := v51 10 n [] Fuel (Nat.lt_of_lt_of_le hn (by decide)) (Nat.lt_of_lt_of_le (by omega) vbq) (by simp) hn
    rw [e4]
    have hm : acc'.length + [(n' : Int)].length ≤ VE.maxLen := by show _ ≤ 4294967296; simp; omega
    have hw2 : IntKind.wrap .u8 (n' : Int) = (n' : Int) := wso (by omega) (by omega)
    simp only [hw2, if_pos hm, e1, List.nil_append]
  · have hw : vaw (n : Int) 0 1000000000 = false := by unfold vaw; simp; omega
    simp only [hw, hb, decide_false, cond_false, Bool.not_false, cond_true]
theorem woo {n : Nat} (hn : n < 100000000000) (k) : v0u (n : Int) k = k (vd4 (encN n)) := by
  rw [wla]
  unfold wfi
  obtain ⟨n', acc', e1, e2, e3, e4⟩ := v5v 10 n [] Fuel (Nat.lt_of_lt_of_le hn (by decide)) (Nat.lt_of_lt_of_le (by omega) vbq) (by simp) hn
  rw [e4]
  have hm : acc'.length + [(n' : Int)].length ≤ VE.maxLen := by show _ ≤ 4294967296; simp; omega
  have hw2 : IntKind.wrap .u8 (n' : Int) = (n' : Int) := wso (by omega) (by omega)
  simp only [hw2, if_pos hm, e1, List.nil_append]
/-- A number's value, lowest figures first. -/
def valN : List Int → Nat
  | [] => 0
  | c :: l => (c.toNat % 128) + 128 * valN l
/-- Bytes of one number: all but the last go on. -/
def goOn : List Int → Prop
  | [] => False
  | [c] => 0 ≤ c ∧ c < 128
  | c :: l => 128 ≤ c ∧ c ≤ 255 ∧ goOn l
theorem wj8 : ∀ (P : List Int), goOn P → ((encN (valN P)).length = P.length ↔ encN (valN P) = P)
  | [], h => h.elim
  | [c], h => by
    simp only [goOn] at h
    have hv : valN [c] = c.toNat := by simp only [valN]; omega
    rw [hv, vfu (by omega)]
    simp
    omega
  | c :: d :: l, h => by
    simp only [goOn] at h
    have ih := wj8 (d :: l) h.2.2
    have hv : valN (c :: d :: l) = (c.toNat % 128) + 128 * valN (d :: l) := rfl
    constructor
    · intro hlen
      by_cases h0 : valN (d :: l) = 0
      · rw [hv, h0, vfu (by omega)] at hlen
        simp at hlen
      · rw [hv, vv0 (by omega)] at hlen ⊢
        have e1 : (c.toNat % 128 + 128 * valN (d :: l)) / 128 = valN (d :: l) := by omega
        have e2 : (c.toNat % 128 + 128 * valN (d :: l)) % 128 = c.toNat % 128 := by omega
        rw [e1] at hlen ⊢
        rw [e2]
        rw [ih.1 (by simpa using hlen)]
        congr 1
        omega
    · intro h; rw [h]
def rvF (i n : Nat) : List Int → Option (Nat × Nat)
  | [] => none
  | c :: l => if 5 ≤ i then none else
      if c < 128 then (if n + (c.toNat % 128) * 128 ^ i ≤ 1000000000 ∧ (encN (n + (c.toNat % 128) * 128 ^ i)).length = i + 1 then some (n + (c.toNat % 128) * 128 ^ i, i + 1) else none)
      else rvF (i + 1) (n + (c.toNat % 128) * 128 ^ i) l
def rvR (a : Nat) : Option (Nat × Nat) → Int × Int × Bool
  | none => (0, 0, false)
  | some (n, c) => ((n : Int), ((a + c : Nat) : Int), true)
def vbo (s : ByteArray) (a : Int) : Int × Int × Bool :=
  bif vaw a 0 (s.size : Int) then rvR a.toNat (rvF 0 0 ((va7 s).drop a.toNat)) else (0, 0, false)
theorem wl7 {s : ByteArray} {a : Nat} {c : Int} {l : List Int} (h : (va7 s).drop a = c :: l) : bt s (a : Int) = c ∧ 0 ≤ c ∧ c ≤ 255 ∧ a < s.size := by
  have h1 := v77 h
  have h2 := vds h
  rw [vco] at h2
  refine ⟨h1, ?_, ?_, h2⟩
  · rw [← h1]; unfold bt; omega
  · rw [← h1]; unfold bt
    have := UInt8.toNat_lt (s.data.getD (a : Int).toNat 0)
    omega
theorem wm6 {s : ByteArray} (hs : s.size ≤ 1048576) {a : Nat} (ha : a ≤ s.size) : ∀ (d i n q : Nat) (k : Int × Int × Bool → Option Res), 5 - i = d → i ≤ 5 → n < 128 ^ i → d < q →
    vai vk3 q (s, (a : Int), (0 : Int), (0 : Int), false, (n : Int), (i : Int)) (Sum.elim (fun _ => k ((0 : Int), (0 : Int), false)) (fun z => k (z.2.2.1, z.2.2.2.1, z.2.2.2.2.1))) = k (rvR a (rvF i n ((va7 s).drop (a + i)))) := by
  intro d
  induction d with
  | zero =>
    intro i n q k hd hi hn hq
    obtain ⟨q, rfl⟩ : ∃ q', q = q' + 1 := ⟨q - 1, by omega⟩
    have h5 : i = 5 := by omega
    subst h5
    simp only [vai, vk3, show ¬ ((5 : Nat) : Int) < 5 by omega, decide_false, cond_false, Sum.elim_inr, Sum.elim_inl]
    cases (va7 s).drop (a + 5) with
    | nil => rfl
    | cons c l => simp [rvF, rvR]
  | succ d ih =>
    intro i n q k hd hi hn hq
    obtain ⟨q, rfl⟩ : ∃ q', q = q' + 1 := ⟨q - 1, by omega⟩
    have hi5 : (i : Int) < 5 := by omega
    cases hL : (va7 s).drop (a + i) with
    | nil =>
      have hge : ¬ ((a + i : Nat) : Int) < (s.size : Int) := v2z hL
      have hw : IntKind.wrap .i64 ((a : Int) + (i : Int)) = ((a + i : Nat) : Int) := by rw [vax (by omega) (by omega)]; push_cast; rfl
      simp only [vai, vk3, hi5, hw, hge, decide_true, decide_false, cond_true, cond_false, Sum.elim_inr, Sum.elim_inl]
      rfl
    | cons c l =>
      obtain ⟨hc, c0, c1, hlt⟩ := wl7 hL
      have hw : IntKind.wrap .i64 ((a : Int) + (i : Int)) = ((a + i : Nat) : Int) := by rw [vax (by omega) (by omega)]; push_cast; rfl
      have hwc : IntKind.wrap .i64 c = c := vax (by omega) (by omega)
      have hP : 128 ^ i ≤ 268435456 := by
        have : 128 ^ i ≤ 128 ^ 4 := Nat.pow_le_pow_right (by omega) (by omega)
        exact Nat.le_trans this (by decide)
      obtain ⟨cn, rfl⟩ := Int.eq_ofNat_of_zero_le c0
      have h7 : IntKind.wrap .i64 ((7 : Int) * (i : Int)) = ((7 * i : Nat) : Int) := by rw [vax (by omega) (by omega)]; push_cast; rfl
      have hmin : min (7 * i) (IntKind.bits .i64) = 7 * i := by
        show min (7 * i) 64 = 7 * i
        omega
      have hpow : (2 : Int) ^ (7 * i) = ((128 ^ i : Nat) : Int) := by rw [Int.pow_mul]; push_cast; rfl
      have hQ : (cn % 128) * 128 ^ i ≤ 127 * 128 ^ i := Nat.mul_le_mul_right _ (by omega)
      have hmul : IntKind.wrap .i64 (((cn % 128 : Nat) : Int) * ((128 ^ i : Nat) : Int)) = (((cn % 128) * 128 ^ i : Nat) : Int) := by
        rw [← Int.natCast_mul]; exact vax (by omega) (by omega)
      have hadd : IntKind.wrap .i64 ((n : Int) + (((cn % 128) * 128 ^ i : Nat) : Int)) = ((n + (cn % 128) * 128 ^ i : Nat) : Int) := by rw [vax (by omega) (by omega)]; push_cast; rfl
      have hi1 : IntKind.wrap .i64 ((i : Int) + 1) = ((i + 1 : Nat) : Int) := vbl (by omega)
      have ha1 : IntKind.wrap .i64 (((a + i : Nat) : Int) + 1) = ((a + i + 1 : Nat) : Int) := vbl (by omega)
      have hn' : n + (cn % 128) * 128 ^ i < 128 ^ (i + 1) := by rw [Nat.pow_succ]; omega
      have hbound : 128 ^ (i + 1) ≤ 34359738368 := by rw [Nat.pow_succ]; omega
      simp only [vai, vk3, vee, hi5, hw, hc, hwc, show ((a + i : Nat) : Int) < (s.size : Int) by omega, decide_true, cond_true, show (0 : Int) ≤ ((a + i : Nat) : Int) by omega, and_self, if_true,
        h7, show ¬ ((7 * i : Nat) : Int) < 0 by omega, if_false, vvs, hmin, hpow, hmul, hadd, hi1, ha1, rvF, show ¬ 5 ≤ i by omega, Int.toNat_natCast]
      by_cases h128 : (cn : Int) < 128
      · simp only [h128, decide_true, cond_true, if_true, wpi (show n + (cn % 128) * 128 ^ i < 100000000000 by omega)]
        by_cases hmx : n + (cn % 128) * 128 ^ i ≤ 1000000000
        · simp only [hmx, decide_true, cond_true, Bool.not_true, cond_false, v6i, true_and]
          by_cases hlen : (encN (n + (cn % 128) * 128 ^ i)).length = i + 1
          · have hne : (((encN (n + (cn % 128) * 128 ^ i)).length : Int) != ((i + 1 : Nat) : Int)) = false := by rw [hlen]; simp
            rw [if_pos hlen]
            simp only [hne, cond_false, Sum.elim_inl, Sum.elim_inr, rvR]
            rfl
          · have hne : (((encN (n + (cn % 128) * 128 ^ i)).length : Int) != ((i + 1 : Nat) : Int)) = true := by simp; omega
            rw [if_neg hlen]
            simp only [hne, cond_true, Sum.elim_inl, Sum.elim_inr, rvR]
        · have hno : ¬ (n + (cn % 128) * 128 ^ i ≤ 1000000000 ∧ (encN (n + (cn % 128) * 128 ^ i)).length = i + 1) := fun h => hmx h.1
          simp only [hmx, decide_false, cond_false, Bool.not_false, cond_true, Sum.elim_inl, Sum.elim_inr, false_and, if_false, rvR]
      · simp only [h128, decide_false, cond_false, if_false, Sum.elim_inl, Sum.elim_inr]
        have := ih (i + 1) (n + (cn % 128) * 128 ^ i) q k (by omega) (by omega) hn' (by omega)
        rw [show a + (i + 1) = a + i + 1 by omega, show (va7 s).drop (a + i + 1) = l from vca hL] at this
        exact this
theorem vze {l : List Int} (h : ∀ y ∈ l, 0 ≤ y ∧ y ≤ 255) : va7 (vd4 l) = l := by
  unfold va7
  rw [vmw, List.map_map]
  conv => rhs; rw [← List.map_id l]
  apply List.map_congr_left
  intro y hy
  have := h y hy
  simp [Function.comp]
  omega
theorem vy2 (s : ByteArray) (a b : Nat) : va7 (s.extract a b) = ((va7 s).drop a).take (b - a) := by
  unfold va7
  simp [ByteArray.data_extract, List.map_take, List.map_drop]
theorem wg0 (a b : ByteArray) : va9 a b = decide (va7 a = va7 b) := by
  cases h : va9 a b
  · symm; apply decide_eq_false
    intro e
    have e2 : a = b := by rw [← vos a, e, vos b]
    rw [e2, vky, beq_self_eq_true] at h
    cases h
  · symm; apply decide_eq_true; rw [v1p h]
theorem wiz {s : ByteArray} (hs : s.size ≤ 1048576) {a : Nat} (ha : a ≤ s.size) : ∀ (d i n q : Nat) (k : Int × Int × Bool → Option Res), 5 - i = d → i ≤ 5 → n < 128 ^ i → d < q →
    (∀ l, valN (((va7 s).drop a).take i ++ l) = n + 128 ^ i * valN l) → (∀ l, goOn l → goOn (((va7 s).drop a).take i ++ l)) →
    vai vlw q (s, (a : Int), (0 : Int), (0 : Int), false, (n : Int), ((128 ^ i : Nat) : Int), ((a + i : Nat) : Int)) (Sum.elim (fun _ => k ((0 : Int), (0 : Int), false)) (fun z => k (z.2.2.1, z.2.2.2.1, z.2.2.2.2.1))) = k (rvR a (rvF i n ((va7 s).drop (a + i)))) := by
  intro d
  induction d with
  | zero =>
    intro i n q k hd hi hn hq hV hG
    obtain ⟨q, rfl⟩ : ∃ q', q = q' + 1 := ⟨q - 1, by omega⟩
    have h5 : i = 5 := by omega
    subst h5
    have hw : IntKind.wrap .i64 ((a : Int) + 5) = ((a + 5 : Nat) : Int) := by rw [vax (by omega) (by omega)]; push_cast; rfl
    simp only [vai, vlw, hw, show ¬ ((a + 5 : Nat) : Int) < ((a + 5 : Nat) : Int) by omega, decide_false, cond_false]
    cases decide (((a + 5 : Nat) : Int) < (s.size : Int)) <;> (simp only [cond_true, cond_false, Sum.elim_inr, Sum.elim_inl]; cases (va7 s).drop (a + 5) <;> simp [rvF, rvR])
  | succ d ih =>
    intro i n q k hd hi hn hq hV hG
    obtain ⟨q, rfl⟩ : ∃ q', q = q' + 1 := ⟨q - 1, by omega⟩
    have hw5 : IntKind.wrap .i64 ((a : Int) + 5) = ((a + 5 : Nat) : Int) := by rw [vax (by omega) (by omega)]; push_cast; rfl
    have hi5 : ((a + i : Nat) : Int) < ((a + 5 : Nat) : Int) := by omega
    cases hL : (va7 s).drop (a + i) with
    | nil =>
      have hge : ¬ ((a + i : Nat) : Int) < (s.size : Int) := v2z hL
      simp only [vai, vlw, hge, decide_false, cond_false, Sum.elim_inr, Sum.elim_inl]
      rfl
    | cons c l =>
      obtain ⟨hc, c0, c1, hlt⟩ := wl7 hL
      have hwc : IntKind.wrap .i64 c = c := vax (by omega) (by omega)
      have hP : 128 ^ i ≤ 268435456 := by
        have : 128 ^ i ≤ 128 ^ 4 := Nat.pow_le_pow_right (by omega) (by omega)
        exact Nat.le_trans this (by decide)
      have htk : ((va7 s).drop a).take (i + 1) = ((va7 s).drop a).take i ++ [c] := by
        rw [List.take_add, List.drop_drop, hL]; rfl
      obtain ⟨cn, rfl⟩ := Int.eq_ofNat_of_zero_le c0
      have hQ : (cn % 128) * 128 ^ i ≤ 127 * 128 ^ i := Nat.mul_le_mul_right _ (by omega)
      have hmul : IntKind.wrap .i64 (((cn % 128 : Nat) : Int) * ((128 ^ i : Nat) : Int)) = (((cn % 128) * 128 ^ i : Nat) : Int) := by
        rw [← Int.natCast_mul]; exact vax (by omega) (by omega)
      have hadd : IntKind.wrap .i64 ((n : Int) + (((cn % 128) * 128 ^ i : Nat) : Int)) = ((n + (cn % 128) * 128 ^ i : Nat) : Int) := by rw [vax (by omega) (by omega)]; push_cast; rfl
      have hn' : n + (cn % 128) * 128 ^ i < 128 ^ (i + 1) := by rw [Nat.pow_succ]; omega
      have hbound : 128 ^ (i + 1) ≤ 34359738368 := by rw [Nat.pow_succ]; omega
      have hbase : IntKind.wrap .i64 (((128 ^ i : Nat) : Int) * 128) = ((128 ^ (i + 1) : Nat) : Int) := by
        rw [show ((128 ^ i : Nat) : Int) * 128 = ((128 ^ (i + 1) : Nat) : Int) by rw [Nat.pow_succ]; push_cast; rfl]
        exact vax (by omega) (by omega)
      have ha1 : IntKind.wrap .i64 (((a + i : Nat) : Int) + 1) = ((a + i + 1 : Nat) : Int) := vbl (by omega)
      simp only [vai, vlw, veg, hi5, hw5, hc, hwc, show ((a + i : Nat) : Int) < (s.size : Int) by omega, decide_true, cond_true, show (0 : Int) ≤ ((a + i : Nat) : Int) by omega, and_self, if_true,
        vvs, hmul, hadd, hbase, ha1, rvF, show ¬ 5 ≤ i by omega, if_false, Int.toNat_natCast]
      by_cases h128 : (cn : Int) < 128
      · simp only [h128, decide_true, cond_true, if_true]
        by_cases hmx : n + (cn % 128) * 128 ^ i ≤ 1000000000
        · have hng : ¬ (((n + (cn % 128) * 128 ^ i : Nat) : Int) > 1000000000) := by omega
          have hgo : goOn (((va7 s).drop a).take (i + 1)) := by rw [htk]; exact hG [(cn : Int)] ⟨by omega, h128⟩
          have hval : valN (((va7 s).drop a).take (i + 1)) = n + (cn % 128) * 128 ^ i := by
            rw [htk, hV]; simp only [valN, Int.toNat_natCast]; rw [Nat.mul_zero, Nat.add_zero, Nat.mul_comm]
          have hlen : (((va7 s).drop a).take (i + 1)).length = i + 1 := by
            have := vco s
            simp only [List.length_take, List.length_drop]
            omega
          have hE := wj8 _ hgo
          rw [hval, hlen] at hE
          have hseq : va9 (vd4 (encN (n + (cn % 128) * 128 ^ i))) (s.extract a (a + i + 1)) = decide ((encN (n + (cn % 128) * 128 ^ i)).length = i + 1) := by
            rw [wg0, vze (v7r _ _ (Nat.le_refl _)), vy2, show a + i + 1 - a = i + 1 by omega]
            exact decide_eq_decide.2 hE.symm
          simp only [hng, decide_false, cond_false, woo (show n + (cn % 128) * 128 ^ i < 100000000000 by omega), hseq, hmx, true_and, show (0 : Int) ≤ (a : Int) by omega, show (a : Int) ≤ ((a + i + 1 : Nat) : Int) by omega, show ((a + i + 1 : Nat) : Int) ≤ (s.size : Int) by omega, and_self, if_true]
          by_cases hl : (encN (n + (cn % 128) * 128 ^ i)).length = i + 1
          · simp only [hl, decide_true, Bool.not_true, cond_false, if_true, Sum.elim_inl, Sum.elim_inr, rvR]
            rfl
          · simp only [hl, decide_false, Bool.not_false, cond_true, if_false, Sum.elim_inl, Sum.elim_inr, rvR]
        · have hng : (((n + (cn % 128) * 128 ^ i : Nat) : Int) > 1000000000) := by omega
          simp only [hng, hmx, decide_true, cond_true, false_and, if_false, Sum.elim_inl, Sum.elim_inr, rvR]
      · simp only [h128, decide_false, cond_false, if_false, Sum.elim_inl, Sum.elim_inr]
        have := ih (i + 1) (n + (cn % 128) * 128 ^ i) q k (by omega) (by omega) hn' (by omega)
          (fun l' => by rw [htk, List.append_assoc, hV]; simp only [List.cons_append, List.nil_append, valN, Int.toNat_natCast]; rw [Nat.mul_add, Nat.pow_succ, Nat.mul_comm (128 ^ i) (cn % 128), Nat.mul_assoc, Nat.add_assoc])
          (fun l' hl' => by
            rw [htk, List.append_assoc]
            apply hG
            cases l' with
            | nil => exact hl'.elim
            | cons x y => exact ⟨by omega, by omega, hl'⟩)
        rw [show a + (i + 1) = a + i + 1 by omega, show (va7 s).drop (a + i + 1) = l from vca hL] at this
        exact this
theorem wmo {s : ByteArray} (hs : s.size ≤ 1048576) (a : Int) (k) : vv8 s a k = k (vbo s a) := by
  rw [wip]
  unfold wce vbo
  simp only [vrn]
  cases h : vaw a 0 (s.size : Int)
  · rfl
  · have h' := h
    unfold vaw at h'
    simp only [Bool.and_eq_true, decide_eq_true_eq] at h'
    obtain ⟨n, rfl⟩ := Int.eq_ofNat_of_zero_le h'.1
    simp only [Bool.not_true, cond_false, cond_true, Int.toNat_natCast]
    exact wm6 hs (by omega) 5 0 0 Fuel k rfl (by omega) (by decide) (Nat.lt_of_lt_of_le (by omega) vbq)
theorem wmj {s : ByteArray} (hs : s.size ≤ 1048576) (a : Int) (k) : vxn s a k = k (vbo s a) := by
  rw [wmm]
  unfold wf0 vbo
  simp only [vtb]
  cases h : vaw a 0 (s.size : Int)
  · rfl
  · have h' := h
    unfold vaw at h'
    simp only [Bool.and_eq_true, decide_eq_true_eq] at h'
    obtain ⟨n, rfl⟩ := Int.eq_ofNat_of_zero_le h'.1
    simp only [Bool.not_true, cond_false, cond_true, Int.toNat_natCast]
    exact wiz hs (by omega) 5 0 0 Fuel k rfl (by omega) (by decide) (Nat.lt_of_lt_of_le (by omega) vbq) (fun l => by simp) (fun l h => by simpa using h)
theorem wtf : ∀ (l : List Int) (i n : Nat) {v c : Nat}, rvF i n l = some (v, c) → i < c ∧ c ≤ i + l.length ∧ v ≤ 1000000000
  | [], i, n, v, c, h => by simp [rvF] at h
  | x :: l, i, n, v, c, h => by
    simp only [rvF] at h
    split at h
    · cases h
    · split at h
      · split at h
        · rename_i h2
          simp only [Option.some.injEq, Prod.mk.injEq] at h
          simp only [List.length_cons]
          omega
        · cases h
      · have := wtf l (i + 1) _ h
        simp only [List.length_cons]
        omega
theorem vj5 {s : ByteArray} {a : Int} (h : (vbo s a).2.2 = true) : ∃ v c : Nat, vbo s a = ((v : Int), (c : Int), true) ∧ v ≤ 1000000000 ∧ 0 ≤ a ∧ a < (c : Int) ∧ c ≤ s.size := by
  unfold vbo at h ⊢
  cases hw : vaw a 0 (s.size : Int)
  · rw [hw] at h; cases h
  · rw [hw] at h
    simp only [cond_true] at h ⊢
    unfold vaw at hw
    simp only [Bool.and_eq_true, decide_eq_true_eq] at hw
    cases hr : rvF 0 0 ((va7 s).drop a.toNat) with
    | none => rw [hr] at h; cases h
    | some p =>
      obtain ⟨v, c⟩ := p
      have := wtf _ _ _ hr
      rw [List.length_drop, vco] at this
      refine ⟨v, a.toNat + c, rfl, this.2.2, hw.1, by omega, by omega⟩
def viw (s : ByteArray) (a : Int) : ByteArray × Int × Bool :=
  bif !(vbo s a).2.2 then ((⟨#[]⟩ : ByteArray), (0 : Int), false) else
  bif decide ((vbo s a).1 > (20000 : Int)) then ((⟨#[]⟩ : ByteArray), (0 : Int), false) else
  bif decide ((vbo s a).1 > (s.size : Int) - (vbo s a).2.1) then ((⟨#[]⟩ : ByteArray), (0 : Int), false) else
    (s.extract (vbo s a).2.1.toNat ((vbo s a).2.1 + (vbo s a).1).toNat, (vbo s a).2.1 + (vbo s a).1, true)
theorem wvz {s : ByteArray} (hs : s.size ≤ 1048576) (a : Int) (k) : v01 s a k = k (viw s a) := by
  rw [wiw]
  unfold weq viw
  simp only [wmo hs]
  cases h : (vbo s a).2.2
  · rfl
  · obtain ⟨v, c, e, h1, h2, h3, h4⟩ := vj5 h
    rw [e]
    have w1 : IntKind.wrap .i64 ((s.size : Int) - (c : Int)) = (s.size : Int) - (c : Int) := vax (by omega) (by omega)
    have w2 : IntKind.wrap .i64 ((c : Int) + (v : Int)) = (c : Int) + (v : Int) := vax (by omega) (by omega)
    simp only [w1, w2, Bool.not_true, cond_false]
    by_cases g1 : (v : Int) > 20000
    · simp only [g1, decide_true, cond_true]
    · by_cases g2 : (v : Int) > (s.size : Int) - (c : Int)
      · simp only [g1, g2, decide_true, decide_false, cond_true, cond_false]
      · simp only [g1, g2, decide_false, cond_false]
        rw [if_pos (by omega)]
theorem wv1 {s : ByteArray} (hs : s.size ≤ 1048576) (a : Int) (k) : v18 s a k = k (viw s a) := by
  rw [wnd]
  unfold wf2 viw
  simp only [wmj hs]
  cases h : (vbo s a).2.2
  · rfl
  · obtain ⟨v, c, e, h1, h2, h3, h4⟩ := vj5 h
    rw [e]
    have w1 : IntKind.wrap .i64 ((s.size : Int) - (c : Int)) = (s.size : Int) - (c : Int) := vax (by omega) (by omega)
    have w2 : IntKind.wrap .i64 ((c : Int) + (v : Int)) = (c : Int) + (v : Int) := vax (by omega) (by omega)
    simp only [w1, w2, Bool.not_true, cond_false]
    by_cases g1 : (v : Int) > 20000
    · simp only [g1, decide_true, cond_true]
    · by_cases g2 : (v : Int) > (s.size : Int) - (c : Int)
      · simp only [g1, g2, decide_true, decide_false, cond_true, cond_false]
      · simp only [g1, g2, decide_false, cond_false]
        rw [if_pos (by omega)]
theorem wry {s : ByteArray} {a : Int} (h : (viw s a).2.2 = true) : 0 ≤ a ∧ a + 1 + ((viw s a).1.size : Int) ≤ (viw s a).2.1 ∧ (viw s a).2.1 ≤ (s.size : Int) := by
  unfold viw at h ⊢
  cases hr : (vbo s a).2.2
  · rw [hr] at h; cases h
  · obtain ⟨v, c, e, h1, h2, h3, h4⟩ := vj5 hr
    rw [e] at h ⊢
    simp only [Bool.not_true, cond_false] at h ⊢
    cases g1 : decide ((v : Int) > 20000)
    · cases g2 : decide ((v : Int) > (s.size : Int) - (c : Int))
      · simp only [cond_false]
        have g2' := of_decide_eq_false g2
        have hz : (s.extract c ((c : Int) + (v : Int)).toNat).size = min ((c : Int) + (v : Int)).toNat s.size - c := ByteArray.size_extract
        simp only [Int.toNat_natCast, hz]
        omega
      · rw [g1, g2] at h; cases h
    · rw [g1] at h; cases h
def vbe (s : ByteArray) (a : Int) (b : Bool) : ByteArray × Int × Bool :=
  bif b then ((⟨#[]⟩ : ByteArray), a, true) else bif !(viw s a).2.2 then ((⟨#[]⟩ : ByteArray), a, true) else ((viw s a).1, (viw s a).2.1, b)
def numB (s : ByteArray) (a : Int) (b : Bool) : Int × Int × Bool :=
  bif b then ((0 : Int), a, true) else bif !(vbo s a).2.2 then ((0 : Int), a, true) else ((vbo s a).1, (vbo s a).2.1, b)
def vb1 (s : ByteArray) (a : Int) (b : Bool) : Bool × Int × Bool :=
  bif b then (false, a, true) else bif !vaw a 0 ((s.size : Int) - 1) then (false, a, true) else bif decide (bt s a > 1) then (false, a, true) else ((bt s a == 1), a + 1, b)
theorem vxa {s : ByteArray} (hs : s.size ≤ 1048576) (a : Int) (b : Bool) (k) : vfq s a b k = k ((vbe s a b).1, s, (vbe s a b).2.1, (vbe s a b).2.2) := by
  rw [wlf]; unfold we1 vbe
  simp only [wvz hs]
  cases b <;> cases (viw s a).2.2 <;> rfl
theorem v3w {s : ByteArray} (hs : s.size ≤ 1048576) (a : Int) (b : Bool) (k) : vl7 s a b k = k ((vbe s a b).1, s, (vbe s a b).2.1, (vbe s a b).2.2) := by
  rw [wkl]; unfold weg vbe
  simp only [wv1 hs]
  cases b <;> cases (viw s a).2.2 <;> rfl
theorem vkf {s : ByteArray} (hs : s.size ≤ 1048576) (a : Int) (b : Bool) (k) : vfs s a b k = k ((numB s a b).1, s, (numB s a b).2.1, (numB s a b).2.2) := by
  rw [wnb]; unfold wfx numB
  simp only [wmo hs]
  cases b <;> cases (vbo s a).2.2 <;> rfl
theorem vyc {s : ByteArray} (hs : s.size ≤ 1048576) (a : Int) (b : Bool) (k) : vh0 s a b k = k ((numB s a b).1, s, (numB s a b).2.1, (numB s a b).2.2) := by
  rw [wmf]; unfold wf6 numB
  simp only [wmj hs]
  cases b <;> cases (vbo s a).2.2 <;> rfl
theorem v5l {s : ByteArray} (hs : s.size ≤ 1048576) (a : Int) (b : Bool) (k) : vod s a b k = k ((vb1 s a b).1, s, (vb1 s a b).2.1, (vb1 s a b).2.2) := by
  rw [wmv]; unfold wd8 vb1
  have w1 : IntKind.wrap .i64 ((s.size : Int) - 1) = (s.size : Int) - 1 := vax (by omega) (by omega)
  simp only [vrn, w1]
  cases b
  · cases hw : vaw a 0 ((s.size : Int) - 1)
    · rfl
    · unfold vaw at hw
      simp only [Bool.and_eq_true, decide_eq_true_eq] at hw
      have w2 : IntKind.wrap .i64 (a + 1) = a + 1 := vax (by omega) (by omega)
      have w3 : IntKind.wrap .i64 (a + 1 - 1) = a := by rw [vax (by omega) (by omega)]; omega
      simp only [cond_false, Bool.not_true, show (0 : Int) ≤ a by omega, show a < (s.size : Int) by omega, and_self, if_true, vei, w2, w3]
      cases decide (bt s a > 1) <;> rfl
  · rfl
theorem v8g {s : ByteArray} (hs : s.size ≤ 1048576) {a : Int} {b : Bool} (ha : b = false → 0 ≤ a ∧ a ≤ (s.size : Int)) (k) : vu5 s a b k = k ((vb1 s a b).1, s, (vb1 s a b).2.1, (vb1 s a b).2.2) := by
  rw [wno]; unfold wc9 vb1
  cases b
  · have := ha rfl
    by_cases hge : a ≥ (s.size : Int)
    · have hw : vaw a 0 ((s.size : Int) - 1) = false := by unfold vaw; simp; omega
      simp only [hge, hw, decide_true, cond_true, cond_false, Bool.not_false]
    · have hw : vaw a 0 ((s.size : Int) - 1) = true := by unfold vaw; simp; omega
      have w2 : IntKind.wrap .i64 (a + 1) = a + 1 := vax (by omega) (by omega)
      have w3 : IntKind.wrap .i64 (a + 1 - 1) = a := by rw [vax (by omega) (by omega)]; omega
      simp only [hge, hw, decide_false, cond_false, Bool.not_true, show (0 : Int) ≤ a by omega, show a < (s.size : Int) by omega, and_self, if_true, vek, w2, w3]
      cases decide (bt s a > 1) <;> rfl
  · rfl
theorem vjc {s : ByteArray} {a : Int} {b : Bool} (h : (vbe s a b).2.2 = false) : b = false ∧ 0 ≤ a ∧ a + 1 + ((vbe s a b).1.size : Int) ≤ (vbe s a b).2.1 ∧ (vbe s a b).2.1 ≤ (s.size : Int) := by
  unfold vbe at h ⊢
  cases b
  · cases hq : (viw s a).2.2
    · rw [hq] at h; cases h
    · simp only [cond_false, Bool.not_true]
      have := wry hq
      exact ⟨by trivial, this⟩
  · cases h
theorem vgh {s : ByteArray} {a : Int} {b : Bool} (h : (numB s a b).2.2 = false) : b = false ∧ 0 ≤ a ∧ a + 1 ≤ (numB s a b).2.1 ∧ (numB s a b).2.1 ≤ (s.size : Int) := by
  unfold numB at h ⊢
  cases b
  · cases hq : (vbo s a).2.2
    · rw [hq] at h; cases h
    · obtain ⟨v, c, e, h1, h2, h3, h4⟩ := vj5 hq
      simp only [cond_false, Bool.not_true, e]
      exact ⟨by trivial, h2, by omega, by omega⟩
  · cases h
theorem vle (s : ByteArray) (a : Int) (b : Bool) : ∃ v : Nat, (numB s a b).1 = (v : Int) ∧ v ≤ 1000000000 := by
  unfold numB
  cases b
  · cases hq : (vbo s a).2.2
    · exact ⟨0, rfl, by omega⟩
    · obtain ⟨v, c, e, h1, h2, h3, h4⟩ := vj5 hq
      simp only [cond_false, Bool.not_true, e]
      exact ⟨v, rfl, h1⟩
  · exact ⟨0, rfl, by omega⟩
theorem vvv {s : ByteArray} {a : Int} {b : Bool} (h : (vb1 s a b).2.2 = false) : b = false ∧ 0 ≤ a ∧ a + 1 ≤ (vb1 s a b).2.1 ∧ (vb1 s a b).2.1 ≤ (s.size : Int) := by
  unfold vb1 at h ⊢
  cases b
  · cases hq : vaw a 0 ((s.size : Int) - 1)
    · rw [hq] at h; cases h
    · unfold vaw at hq
      simp only [Bool.and_eq_true, decide_eq_true_eq] at hq
      cases hd : decide (bt s a > 1)
      · simp only [cond_false, Bool.not_true]
        exact ⟨by trivial, hq.1, by omega, by omega⟩
      · simp only [vaw, hd] at h
        cases decide (a ≥ 0) <;> cases decide (a ≤ (s.size : Int) - 1) <;> simp at h
  · cases h
def vbs {α : Type} (R : Int → Bool → α × Int × Bool) : Nat → Int → Bool → List α → Int × Bool × List α
  | 0, a, b, l => (a, b, l)
  | m + 1, a, b, l => bif b then (a, b, l) else vbs R m (R a b).2.1 (R a b).2.2 (l ++ [(R a b).1])
theorem viq {α : Type} (R : Int → Bool → α × Int × Bool) (m : Nat) (a : Int) (l : List α) : vbs R m a true l = (a, true, l) := by cases m <;> rfl
def StpR {α : Type} (R : Int → Bool → α × Int × Bool) (wt : α → Nat) (N : Int) : Prop :=
  ∀ a b, (R a b).2.2 = false → b = false ∧ 0 ≤ a ∧ a + 1 + (wt (R a b).1 : Int) ≤ (R a b).2.1 ∧ (R a b).2.1 ≤ N
theorem vig {α β : Type} {R : Int → Bool → α × Int × Bool} {wt : α → Nat} {N : Int} (hR : StpR R wt N) {n : Nat} {body : β → (β ⊕ β → Option Res) → Option Res} {σ : Int → Int → Bool → List α → β}
    (hgo : ∀ (i : Nat) (a : Int) (l : List α) (K), i < n → 0 ≤ a → a ≤ N → l.length ≤ 3000000 → body (σ (i : Int) a false l) K = K (.inl (σ ((i + 1 : Nat) : Int) (R a false).2.1 (R a false).2.2 (l ++ [(R a false).1]))))
    (hstop : ∀ (i : Nat) (a : Int) (b : Bool) (l : List α) (K), (i = n ∨ b = true) → body (σ (i : Int) a b l) K = K (.inr (σ (i : Int) a b l))) :
    ∀ (d m i : Nat) (a : Int) (b : Bool) (l : List α) (q : Nat), i + m = n → (b = false → 0 ≤ a ∧ a ≤ N ∧ N - a < (d : Int)) → d < q → l.length + d ≤ 3000000 →
      ∃ j : Int, ∀ K, vai body q (σ (i : Int) a b l) K = K (σ j (vbs R m a b l).1 (vbs R m a b l).2.1 (vbs R m a b l).2.2) := by
  intro d
  induction d with
  | zero =>
    intro m i a b l q hi hb hq hl
    obtain ⟨q, rfl⟩ : ∃ q', q = q' + 1 := ⟨q - 1, by omega⟩
    cases b
    · have := hb rfl; omega
    · refine ⟨(i : Int), fun K => ?_⟩
      simp only [vai, hstop i a true l _ (.inr rfl), viq, Sum.elim_inr]
  | succ d ih =>
    intro m i a b l q hi hb hq hl
    obtain ⟨q, rfl⟩ : ∃ q', q = q' + 1 := ⟨q - 1, by omega⟩
    cases b
    · have hb' := hb rfl
      cases m with
      | zero =>
        refine ⟨(i : Int), fun K => ?_⟩
        simp only [vai, hstop i a false l _ (.inl (by omega)), vbs, Sum.elim_inr]
      | succ m =>
        obtain ⟨j, hj⟩ := ih m (i + 1) (R a false).2.1 (R a false).2.2 (l ++ [(R a false).1]) q (by omega) (fun h => by
          have := hR a false h
          omega) (by omega) (by rw [List.length_append, List.length_singleton]; omega)
        refine ⟨j, fun K => ?_⟩
        simp only [vai, hgo i a l _ (by omega) hb'.1 hb'.2.1 (by omega), vbs, cond_false, Sum.elim_inl]
        exact hj K
    · refine ⟨(i : Int), fun K => ?_⟩
      simp only [vai, hstop i a true l _ (.inr rfl), viq, Sum.elim_inr]
theorem ve0 {α : Type} {R : Int → Bool → α × Int × Bool} {wt : α → Nat} {N : Int} (hR : StpR R wt N) : ∀ (m : Nat) (a : Int) (b : Bool) (l : List α), (b = false → 0 ≤ a ∧ a ≤ N) → (vbs R m a b l).2.1 = false →
    b = false ∧ a ≤ (vbs R m a b l).1 ∧ (vbs R m a b l).1 ≤ N ∧ (vbs R m a b l).2.2.length = l.length + m ∧
      (((vbs R m a b l).2.2.length + ((vbs R m a b l).2.2.map wt).sum : Nat) : Int) + a ≤ ((l.length + (l.map wt).sum : Nat) : Int) + (vbs R m a b l).1
  | 0, a, b, l, hb, h => by
    simp only [vbs] at h ⊢
    have := hb h
    exact ⟨h, by omega, by omega, rfl, by omega⟩
  | m + 1, a, b, l, hb, h => by
    cases b
    · simp only [vbs, cond_false] at h ⊢
      have hb' := hb rfl
      have ih := ve0 hR m (R a false).2.1 (R a false).2.2 (l ++ [(R a false).1]) (fun h => by have := hR a false h; omega) h
      have hs := hR a false ih.1
      rw [List.length_append, List.length_singleton, List.map_append, List.sum_append] at ih
      simp only [List.map_cons, List.map_nil, List.sum_cons, List.sum_nil] at ih
      refine ⟨by trivial, by omega, ih.2.2.1, by omega, by omega⟩
    · simp only [vbs, cond_true] at h
      cases h
def rgB (s : ByteArray) (a : Int) (b : Bool) : tRange.D × Int × Bool :=
  (((vbe s a b).1, (vbe s (vbe s a b).2.1 (vbe s a b).2.2).1), (vbe s (vbe s a b).2.1 (vbe s a b).2.2).2.1, (vbe s (vbe s a b).2.1 (vbe s a b).2.2).2.2)
def wrB1 (s : ByteArray) (p : tRange.D × Int × Bool) : tWrite.D × Int × Bool :=
  ((p.1.1, (p.1.2, (vb1 s p.2.1 p.2.2).1)), (vb1 s p.2.1 p.2.2).2.1, (vb1 s p.2.1 p.2.2).2.2)
def wrB (s : ByteArray) (a : Int) (b : Bool) : tWrite.D × Int × Bool := wrB1 s (rgB s a b)
theorem v0x (s : ByteArray) : StpR (rgB s) tRange.wt (s.size : Int) := by
  intro a b h
  unfold rgB at h ⊢
  have h2 := vjc h
  have h1 := vjc h2.1
  refine ⟨h1.1, h1.2.1, ?_, h2.2.2.2⟩
  show a + 1 + (((vbe s a b).1.size + (vbe s (vbe s a b).2.1 (vbe s a b).2.2).1.size : Nat) : Int) ≤ _
  simp only
  omega
theorem v07 (s : ByteArray) : StpR (wrB s) tWrite.wt (s.size : Int) := by
  intro a b h
  unfold wrB wrB1 at h ⊢
  have h2 := vvv h
  have h1 := v0x s a b h2.1
  refine ⟨h1.1, h1.2.1, ?_, h2.2.2.2⟩
  have e : tWrite.wt ((rgB s a b).1.1, ((rgB s a b).1.2, (vb1 s (rgB s a b).2.1 (rgB s a b).2.2).1)) = tRange.wt (rgB s a b).1 := rfl
  simp only [e]
  omega
theorem vfr {s : ByteArray} {a : Int} {b : Bool} (h : (numB s a b).2.2 = false) : 0 ≤ (numB s a b).2.1 ∧ (numB s a b).2.1 ≤ (s.size : Int) := by
  have := vgh h
  omega
theorem wvv {α : Type} {R : Int → Bool → α × Int × Bool} {wt : α → Nat} {N : Int} (hR : StpR R wt N) {m : Nat} {a : Int} {b : Bool} {l : List α} (hb : b = false → 0 ≤ a ∧ a ≤ N) (h : (vbs R m a b l).2.1 = false) : 0 ≤ (vbs R m a b l).1 ∧ (vbs R m a b l).1 ≤ N := by
  have h1 := ve0 hR m a b l hb h
  have h2 := hb h1.1
  omega
theorem vd7 {n : Nat} (h : n ≤ 3000000) : n + 1 ≤ VE.maxLen := by show n + 1 ≤ 4294967296; omega
theorem vst {s : ByteArray} (hs : s.size ≤ 1048576) (a : Int) (b : Bool) (u3 u4 u5 u6 : Int) (u7 : Bool) (u8 : ByteArray) (k) :
    v1t s a b u3 u4 u5 u6 u7 u8 k = k (s, (vbs (rgB s) (numB s a b).1.toNat (numB s a b).2.1 (numB s a b).2.2 []).1, (vbs (rgB s) (numB s a b).1.toNat (numB s a b).2.1 (numB s a b).2.2 []).2.1, u3, u4, u5, u6, u7, u8, (vbs (rgB s) (numB s a b).1.toNat (numB s a b).2.1 (numB s a b).2.2 []).2.2) := by
  rw [wht]
  unfold wfs
  simp only [vkf hs]
  obtain ⟨n, hn, hn2⟩ := vle s a b
  have hat := fun h => vfr (s := s) (a := a) (b := b) h
  rw [hn]
  generalize (numB s a b).2.1 = a' at *
  generalize (numB s a b).2.2 = b' at *
  obtain ⟨j, hj⟩ := vig (v0x s) (n := n) (body := vml) (σ := fun i a b l => ((n : Int), i, s, a, b, u3, u4, u5, u6, u7, u8, l))
    (fun i a l K hi h0 h1 hl => by
      have hw : IntKind.wrap .i64 ((i : Int) + 1) = ((i + 1 : Nat) : Int) := vbl (by omega)
      simp only [vml, vel, show (i : Int) < (n : Int) by omega, decide_true, cond_true, Bool.not_false, wmt, wf5, vxa hs, List.length_singleton, vd7 hl, if_true, hw]
      rfl)
    (fun i a b l K h => by
      simp only [vml]
      rcases h with rfl | rfl
      · simp only [show ¬ ((i : Int) < (i : Int)) by omega, decide_false, cond_false]
      · cases decide ((i : Int) < (n : Int)) <;> rfl)
    1048580 n 0 a' b' [] Fuel (by omega) (fun h => by have := hat h; omega) (Nat.lt_of_lt_of_le (by omega) vbq) (by simp)
  simp only [Int.toNat_natCast]
  exact hj _
theorem vr7 {s : ByteArray} (hs : s.size ≤ 1048576) (a : Int) (b : Bool) (u3 u4 u5 u6 : Int) (u7 : Bool) (u8 : ByteArray) (u9 : List van) (k) :
    v1v s a b u3 u4 u5 u6 u7 u8 u9 k = k (s, (vbs (wrB s) (numB s a b).1.toNat (numB s a b).2.1 (numB s a b).2.2 []).1, (vbs (wrB s) (numB s a b).1.toNat (numB s a b).2.1 (numB s a b).2.2 []).2.1, u3, u4, u5, u6, u7, u8, u9, (vbs (wrB s) (numB s a b).1.toNat (numB s a b).2.1 (numB s a b).2.2 []).2.2) := by
  rw [wj0]
  unfold wf7
  simp only [vkf hs]
  obtain ⟨n, hn, hn2⟩ := vle s a b
  have hat := fun h => vfr (s := s) (a := a) (b := b) h
  rw [hn]
  generalize (numB s a b).2.1 = a' at *
  generalize (numB s a b).2.2 = b' at *
  obtain ⟨j, hj⟩ := vig (v07 s) (n := n) (body := vmq) (σ := fun i a b l => ((n : Int), i, s, a, b, u3, u4, u5, u6, u7, u8, u9, l))
    (fun i a l K hi h0 h1 hl => by
      have hw : IntKind.wrap .i64 ((i : Int) + 1) = ((i + 1 : Nat) : Int) := vbl (by omega)
      simp only [vmq, veh, show (i : Int) < (n : Int) by omega, decide_true, cond_true, Bool.not_false, wl0, wdz, vxa hs, v5l hs, List.length_singleton, vd7 hl, if_true, hw]
      rfl)
    (fun i a b l K h => by
      simp only [vmq]
      rcases h with rfl | rfl
      · simp only [show ¬ ((i : Int) < (i : Int)) by omega, decide_false, cond_false]
      · cases decide ((i : Int) < (n : Int)) <;> rfl)
    1048580 n 0 a' b' [] Fuel (by omega) (fun h => by have := hat h; omega) (Nat.lt_of_lt_of_le (by omega) vbq) (by simp)
  simp only [Int.toNat_natCast]
  exact hj _
theorem v3u {s : ByteArray} (hs : s.size ≤ 1048576) {n : Nat} (hn : n ≤ 1000000000) {a : Int} {b : Bool} (hb : b = false → 0 ≤ a ∧ a ≤ (s.size : Int)) {v1 v2 v3 v4 : Int} {v5 : Bool} {v6 : ByteArray} {u3 u4 u5 u6 : Int} {u7 : Bool} {u8 : ByteArray} : ∃ j : Int, ∀ K,
    vai vkl Fuel ((n : Int), (0 : Int), v1, v2, v3, v4, v5, v6, s, a, b, u3, u4, u5, u6, u7, u8, ([] : List van)) K = K ((n : Int), j, v1, v2, v3, v4, v5, v6, s, (vbs (rgB s) (min n 10) a b []).1, (vbs (rgB s) (min n 10) a b []).2.1, u3, u4, u5, u6, u7, u8, (vbs (rgB s) (min n 10) a b []).2.2) :=
  vig (v0x s) (n := min n 10) (body := vkl) (σ := fun i a b l => ((n : Int), i, v1, v2, v3, v4, v5, v6, s, a, b, u3, u4, u5, u6, u7, u8, l))
    (fun i a l K hi h0 h1 hl => by
      have hw : IntKind.wrap .i64 ((i : Int) + 1) = ((i + 1 : Nat) : Int) := vbl (by omega)
      simp only [vkl, vec, show (i : Int) < (n : Int) by omega, show (i : Int) < 10 by omega, decide_true, cond_true, Bool.not_false, v3w hs, List.length_singleton, vd7 hl, if_true, hw]
      rfl)
    (fun i a b l K h => by
      simp only [vkl]
      rcases h with rfl | rfl
      · by_cases h10 : n ≤ 10
        · simp only [show ¬ (((min n 10 : Nat) : Int) < (n : Int)) by omega, decide_false, cond_false]
        · simp only [show (((min n 10 : Nat) : Int) < (n : Int)) by omega, show ¬ (((min n 10 : Nat) : Int) < 10) by omega, decide_true, decide_false, cond_true, cond_false]
      · cases decide ((i : Int) < (n : Int)) <;> cases decide ((i : Int) < 10) <;> rfl)
    1048580 (min n 10) 0 a b [] Fuel (by omega) (fun h => by have := hb h; omega) (Nat.lt_of_lt_of_le (by omega) vbq) (by simp)
theorem v3q {s : ByteArray} (hs : s.size ≤ 1048576) {n : Nat} (hn : n ≤ 1000000000) {a : Int} {b : Bool} (hb : b = false → 0 ≤ a ∧ a ≤ (s.size : Int)) {v1 v2 v3 v4 : Int} {v5 : Bool} {v6 : ByteArray} {u3 u4 u5 u6 : Int} {u7 : Bool} {u8 : ByteArray} {u9 : List van} : ∃ j : Int, ∀ K,
    vai vk7 Fuel ((n : Int), (0 : Int), v1, v2, v3, v4, v5, v6, s, a, b, u3, u4, u5, u6, u7, u8, u9, ([] : List vam)) K = K ((n : Int), j, v1, v2, v3, v4, v5, v6, s, (vbs (wrB s) (min n 10) a b []).1, (vbs (wrB s) (min n 10) a b []).2.1, u3, u4, u5, u6, u7, u8, u9, (vbs (wrB s) (min n 10) a b []).2.2) :=
  vig (v07 s) (n := min n 10) (body := vk7) (σ := fun i a b l => ((n : Int), i, v1, v2, v3, v4, v5, v6, s, a, b, u3, u4, u5, u6, u7, u8, u9, l))
    (fun i a l K hi h0 h1 hl => by
      have hw : IntKind.wrap .i64 ((i : Int) + 1) = ((i + 1 : Nat) : Int) := vbl (by omega)
      have hat : (vbe s (vbe s a false).2.1 (vbe s a false).2.2).2.2 = false → 0 ≤ (vbe s (vbe s a false).2.1 (vbe s a false).2.2).2.1 ∧ (vbe s (vbe s a false).2.1 (vbe s a false).2.2).2.1 ≤ (s.size : Int) := fun h => by
        have := vjc h; omega
      simp only [vk7, veo, show (i : Int) < (n : Int) by omega, show (i : Int) < 10 by omega, decide_true, cond_true, Bool.not_false, v3w hs, v8g hs hat, List.length_singleton, vd7 hl, if_true, hw]
      rfl)
    (fun i a b l K h => by
      simp only [vk7]
      rcases h with rfl | rfl
      · by_cases h10 : n ≤ 10
        · simp only [show ¬ (((min n 10 : Nat) : Int) < (n : Int)) by omega, decide_false, cond_false]
        · simp only [show (((min n 10 : Nat) : Int) < (n : Int)) by omega, show ¬ (((min n 10 : Nat) : Int) < 10) by omega, decide_true, decide_false, cond_true, cond_false]
      · cases decide ((i : Int) < (n : Int)) <;> cases decide ((i : Int) < 10) <;> rfl)
    1048580 (min n 10) 0 a b [] Fuel (by omega) (fun h => by have := hb h; omega) (Nat.lt_of_lt_of_le (by omega) vbq) (by simp)
abbrev dRT := Int × Int × Int × Int × Bool × ByteArray × Int × Bool × (List van) × (List vam)
def zRT : dRT := ((0 : Int), (0 : Int), (0 : Int), (0 : Int), false, (⟨#[]⟩ : ByteArray), (0 : Int), false, ([] : List van), ([] : List vam))
def tx3 (i1 i2 i3 i4 : Int) (rs : List van) (ws : List vam) (g : Bool) (x : ByteArray × Int × Bool) : dRT :=
  bif x.2.2 then zRT else bif !vc4 (i1, (i2, (i3, (i4, (rs, (ws, (g, x.1))))))) then zRT else (i1, i2, i3, i4, g, x.1, x.2.1, true, rs, ws)
def tx2 (s : ByteArray) (i1 i2 i3 i4 : Int) (rs : List van) (e : Int × Bool × List vam) : dRT :=
  tx3 i1 i2 i3 i4 rs e.2.2 (vb1 s e.1 e.2.1).1 (vbe s (vb1 s e.1 e.2.1).2.1 (vb1 s e.1 e.2.1).2.2)
def wsE (f : Nat → Nat) (s : ByteArray) (e : Int × Bool × List van) : Int × Bool × List vam :=
  vbs (wrB s) (f (numB s e.1 e.2.1).1.toNat) (numB s e.1 e.2.1).2.1 (numB s e.1 e.2.1).2.2 []
def rsE (f : Nat → Nat) (s : ByteArray) (p : Int × Int × Bool) : Int × Bool × List van :=
  vbs (rgB s) (f (numB s p.2.1 p.2.2).1.toNat) (numB s p.2.1 p.2.2).2.1 (numB s p.2.1 p.2.2).2.2 []
def tx0 (f : Nat → Nat) (s : ByteArray) (p1 p2 p3 p4 : Int × Int × Bool) : dRT :=
  tx2 s p1.1 p2.1 p3.1 p4.1 (rsE f s p4).2.2 (wsE f s (rsE f s p4))
def nx (s : ByteArray) (p : Int × Int × Bool) : Int × Int × Bool := numB s p.2.1 p.2.2
def va4 (f : Nat → Nat) (s : ByteArray) (a : Int) : dRT :=
  tx0 f s (numB s a false) (nx s (numB s a false)) (nx s (nx s (numB s a false))) (nx s (nx s (nx s (numB s a false))))
theorem wvj {s : ByteArray} (hs : s.size ≤ 1048576) (f : Nat → Nat) {p : Int × Int × Bool} {i1 i2 i3 i4 : Int} {e2} (he : e2 = wsE f s (rsE f s p)) (hx : (vbe s (vb1 s e2.1 e2.2.1).2.1 (vb1 s e2.1 e2.2.1).2.2).2.2 = false) :
    tTxn.wt (i1, (i2, (i3, (i4, ((rsE f s p).2.2, (e2.2.2, ((vb1 s e2.1 e2.2.1).1, (vbe s (vb1 s e2.1 e2.2.1).2.1 (vb1 s e2.1 e2.2.1).2.2).1))))))) ≤ 1048576 := by
  rw [v9m]
  have h1 := vjc hx
  have h2 := vvv h1.1
  have h3 := h2.1
  rw [he] at h3
  have h4 := ve0 (v07 s) _ _ _ _ (fun h => vfr h) h3
  have h5 := vgh h4.1
  have h6 := ve0 (v0x s) _ _ _ _ (fun h => vfr h) h5.1
  have h7 := vgh h6.1
  rw [show vbs (wrB s) (f (numB s (rsE f s p).1 (rsE f s p).2.1).1.toNat) (numB s (rsE f s p).1 (rsE f s p).2.1).2.1 (numB s (rsE f s p).1 (rsE f s p).2.1).2.2 [] = e2 from he.symm] at h4
  have h4' := h4.2.2.2.2
  have h6' := h6.2.2.2.2
  have e3 : (Ty.slice tRange).wt (rsE f s p).2.2 = (rsE f s p).2.2.length + ((rsE f s p).2.2.map tRange.wt).sum := rfl
  have e4 : (Ty.slice tWrite).wt e2.2.2 = e2.2.2.length + (e2.2.2.map tWrite.wt).sum := rfl
  have e5 : (rsE f s p) = vbs (rgB s) (f (numB s p.2.1 p.2.2).1.toNat) (numB s p.2.1 p.2.2).2.1 (numB s p.2.1 p.2.2).2.2 [] := rfl
  rw [← e5] at h6 h6'
  simp only [List.length_nil, List.map_nil, List.sum_nil] at h4' h6'
  simp only
  rw [e3, e4]
  omega
theorem w3t {s : ByteArray} (f : Nat → Nat) {e : Int × Bool × List van} (h : (wsE f s e).2.1 = false) : 0 ≤ (wsE f s e).1 ∧ (wsE f s e).1 ≤ (s.size : Int) := wvv (v07 s) (fun h => vfr h) h
theorem wkp {s : ByteArray} (hs : s.size ≤ 1048576) (a : Int) (k) : v2b s a k = k (va4 (fun n => min n 10) s a) := by
  rw [wnc]
  unfold wcq
  simp only [vyc hs]
  unfold va4 tx0
  generalize hp1 : numB s a false = p1
  rw [show numB s p1.2.1 p1.2.2 = nx s p1 from rfl]
  generalize hp2 : nx s p1 = p2
  rw [show numB s p2.2.1 p2.2.2 = nx s p2 from rfl]
  generalize hp3 : nx s p2 = p3
  rw [show numB s p3.2.1 p3.2.2 = nx s p3 from rfl]
  generalize hp4 : nx s p3 = p4
  obtain ⟨n, hn, hn2⟩ := vle s p4.2.1 p4.2.2
  have hr : vbs (rgB s) (min n 10) (numB s p4.2.1 p4.2.2).2.1 (numB s p4.2.1 p4.2.2).2.2 [] = rsE (fun n => min n 10) s p4 := by
    unfold rsE; rw [hn, Int.toNat_natCast]
  obtain ⟨j, hj⟩ := v3u hs hn2 (a := (numB s p4.2.1 p4.2.2).2.1) (b := (numB s p4.2.1 p4.2.2).2.2) (fun h => vfr h) (v1 := 0) (v2 := 0) (v3 := 0) (v4 := 0) (v5 := false) (v6 := ⟨#[]⟩) (u3 := p1.1) (u4 := p2.1) (u5 := p3.1) (u6 := p4.1) (u7 := false) (u8 := ⟨#[]⟩)
  rw [hn, hj, hr, vyc hs]
  simp only
  obtain ⟨m, hm, hm2⟩ := vle s (rsE (fun n => min n 10) s p4).1 (rsE (fun n => min n 10) s p4).2.1
  have hw : vbs (wrB s) (min m 10) (numB s (rsE (fun n => min n 10) s p4).1 (rsE (fun n => min n 10) s p4).2.1).2.1 (numB s (rsE (fun n => min n 10) s p4).1 (rsE (fun n => min n 10) s p4).2.1).2.2 [] = wsE (fun n => min n 10) s (rsE (fun n => min n 10) s p4) := by
    unfold wsE; rw [hm, Int.toNat_natCast]
  obtain ⟨j2, hj2⟩ := v3q hs hm2 (a := (numB s (rsE (fun n => min n 10) s p4).1 (rsE (fun n => min n 10) s p4).2.1).2.1) (b := (numB s (rsE (fun n => min n 10) s p4).1 (rsE (fun n => min n 10) s p4).2.1).2.2) (fun h => vfr h) (v1 := 0) (v2 := 0) (v3 := 0) (v4 := 0) (v5 := false) (v6 := ⟨#[]⟩) (u3 := p1.1) (u4 := p2.1) (u5 := p3.1) (u6 := p4.1) (u7 := false) (u8 := ⟨#[]⟩) (u9 := (rsE (fun n => min n 10) s p4).2.2)
  rw [hm, hj2, hw]
  simp only
  rw [v8g hs (fun h => w3t _ h)]
  simp only [v3w hs]
  unfold tx2 tx3
  cases hx : (vbe s (vb1 s (wsE (fun n => min n 10) s (rsE (fun n => min n 10) s p4)).1 (wsE (fun n => min n 10) s (rsE (fun n => min n 10) s p4)).2.1).2.1 (vb1 s (wsE (fun n => min n 10) s (rsE (fun n => min n 10) s p4)).1 (wsE (fun n => min n 10) s (rsE (fun n => min n 10) s p4)).2.1).2.2).2.2
  · simp only [cond_false, v8a (wvj hs (fun n => min n 10) (i1 := p1.1) (i2 := p2.1) (i3 := p3.1) (i4 := p4.1) rfl hx)]
    cases vc4 (p1.1, (p2.1, (p3.1, (p4.1, ((rsE (fun n => min n 10) s p4).2.2, ((wsE (fun n => min n 10) s (rsE (fun n => min n 10) s p4)).2.2, ((vb1 s (wsE (fun n => min n 10) s (rsE (fun n => min n 10) s p4)).1 (wsE (fun n => min n 10) s (rsE (fun n => min n 10) s p4)).2.1).1, (vbe s (vb1 s (wsE (fun n => min n 10) s (rsE (fun n => min n 10) s p4)).1 (wsE (fun n => min n 10) s (rsE (fun n => min n 10) s p4)).2.1).2.1 (vb1 s (wsE (fun n => min n 10) s (rsE (fun n => min n 10) s p4)).1 (wsE (fun n => min n 10) s (rsE (fun n => min n 10) s p4)).2.1).2.2).1))))))) <;> rfl
  · rfl
theorem wqt {i1 i2 i3 i4 : Int} {rs : List van} {ws : List vam} {g : Bool} {x : ByteArray × Int × Bool} (h : rs.length > 8 ∨ ws.length > 8 ∨ x.2.2 = true) : tx3 i1 i2 i3 i4 rs ws g x = zRT := by
  unfold tx3
  cases hx : x.2.2
  · have : vc4 (i1, (i2, (i3, (i4, (rs, (ws, (g, x.1))))))) = false := by
      cases ho : vc4 (i1, (i2, (i3, (i4, (rs, (ws, (g, x.1)))))))
      · rfl
      · have h1 := (vx0 ho).2.2.2.2.1
        have h2 := (vx0 ho).2.2.2.2.2.2.1
        simp only at h1 h2
        rcases h with h | h | h
        · omega
        · omega
        · rw [hx] at h; cases h
    simp [this]
  · rfl
theorem vvu {s : ByteArray} {i1 i2 i3 i4 : Int} {rs : List van} {e : Int × Bool × List vam} (h : rs.length > 8 ∨ e.2.2.length > 8 ∨ e.2.1 = true) : tx2 s i1 i2 i3 i4 rs e = zRT := by
  unfold tx2
  apply wqt
  rcases h with h | h | h
  · exact .inl h
  · exact .inr (.inl h)
  · refine .inr (.inr ?_)
    rw [h]
    rfl
theorem wvx {f : Nat → Nat} {s : ByteArray} {p : Int × Int × Bool} (h : f (numB s p.2.1 p.2.2).1.toNat > 8) : (rsE f s p).2.2.length > 8 ∨ (rsE f s p).2.1 = true := by
  cases hb : (rsE f s p).2.1
  · left
    have := ve0 (v0x s) _ _ _ _ (fun h => vfr h) hb
    have h2 := this.2.2.2.1
    unfold rsE
    rw [h2]
    simp only [List.length_nil]
    omega
  · exact .inr rfl
theorem v8d {f : Nat → Nat} {s : ByteArray} {e : Int × Bool × List van} (h : f (numB s e.1 e.2.1).1.toNat > 8 ∨ e.2.1 = true) : (wsE f s e).2.2.length > 8 ∨ (wsE f s e).2.1 = true := by
  cases hb : (wsE f s e).2.1
  · left
    have := ve0 (v07 s) _ _ _ _ (fun h => vfr h) hb
    have h2 := this.2.2.2.1
    have h3 := (vgh this.1).1
    unfold wsE
    rw [h2]
    simp only [List.length_nil]
    rcases h with h | h
    · omega
    · rw [h] at h3; cases h3
  · exact .inr rfl
theorem wyh (s : ByteArray) (p1 p2 p3 p4 : Int × Int × Bool) : tx0 (fun n => min n 10) s p1 p2 p3 p4 = tx0 id s p1 p2 p3 p4 := by
  unfold tx0
  by_cases h1 : (numB s p4.2.1 p4.2.2).1.toNat ≤ 8
  · have e1 : rsE (fun n => min n 10) s p4 = rsE id s p4 := by
      unfold rsE; rw [show (fun n => min n 10) (numB s p4.2.1 p4.2.2).1.toNat = id (numB s p4.2.1 p4.2.2).1.toNat by simp; omega]
    rw [e1]
    by_cases h2 : (numB s (rsE id s p4).1 (rsE id s p4).2.1).1.toNat ≤ 8
    · have e2 : wsE (fun n => min n 10) s (rsE id s p4) = wsE id s (rsE id s p4) := by
        unfold wsE; rw [show (fun n => min n 10) (numB s (rsE id s p4).1 (rsE id s p4).2.1).1.toNat = id (numB s (rsE id s p4).1 (rsE id s p4).2.1).1.toNat by simp; omega]
      rw [e2]
    · rw [vvu (.inr (v8d (f := fun n => min n 10) (.inl (by simp; omega)))), vvu (.inr (v8d (f := id) (.inl (by simp; omega))))]
  · have g : ∀ f : Nat → Nat, f (numB s p4.2.1 p4.2.2).1.toNat > 8 → tx2 s p1.1 p2.1 p3.1 p4.1 (rsE f s p4).2.2 (wsE f s (rsE f s p4)) = zRT := fun f hf => by
      rcases wvx (f := f) hf with h | h
      · exact vvu (.inl h)
      · exact vvu (.inr (v8d (.inr h)))
    rw [g _ (by simp; omega), g _ (by simp; omega)]
theorem vyd (s : ByteArray) (a : Int) : va4 (fun n => min n 10) s a = va4 id s a := wyh _ _ _ _ _
end
end Go.VE
