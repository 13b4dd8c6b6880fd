/- Plain laws of the helpers that every law calls: sizes, copies, comparisons. -/
import Derived.Test.YtdcgbmpmiehemaaAN
import Derived.Test.YtdcgbmpmiehemaaL1
namespace Go.VE
set_option linter.unusedVariables false
set_option linter.unusedSimpArgs false

def small (n : Nat) : Prop := n ≤ 9223372036854775807

/-- What a size helper hands on: what is left, or a number below zero. -/
theorem sz_sub {a : Int} {n : Nat} (h0 : 0 ≤ a) (h1 : a ≤ 1048576) (hn : small n) : IntKind.wrap .i64 (a - (n : Int)) = a - (n : Int) := by
  unfold small at hn
  exact wrap64 (by omega) (by omega)

/-- F hands on r: below zero, or what is left of a behind n. -/
def Sized (F : (Int → Option Res) → Option Res) (a : Int) (n : Nat) : Prop :=
  ∃ r : Int, (∀ k, F k = k r) ∧ (r < 0 ∨ (0 ≤ r ∧ r = a - (n : Int)))

theorem szRange_sized {s t : ByteArray} {a : Int} (h0 : 0 ≤ a) (h1 : a ≤ 1048576) (hs : small s.size) (ht : small t.size) : Sized (laws_szRange_k s t a) a (s.size + t.size) := by
  unfold laws_szRange_k
  rw [sz_sub h0 h1 hs]
  by_cases c1 : a - (s.size : Int) < 0
  · exact ⟨-1, fun k => by simp [c1], .inl (by omega)⟩
  · rw [sz_sub (by omega) (by omega) ht]
    by_cases c2 : a - (s.size : Int) - (t.size : Int) < 0
    · exact ⟨-1, fun k => by simp [c1, c2], .inl (by omega)⟩
    · exact ⟨a - (s.size : Int) - (t.size : Int), fun k => by simp [c1, c2], .inr ⟨by omega, by push_cast; omega⟩⟩

theorem szWrite_sized {s t : ByteArray} {b : Bool} {a : Int} (h0 : 0 ≤ a) (h1 : a ≤ 1048576) (hs : small s.size) (ht : small t.size) : Sized (laws_szWrite_k s t b a) a (s.size + t.size) := by
  unfold laws_szWrite_k
  rw [sz_sub h0 h1 hs]
  by_cases c1 : a - (s.size : Int) < 0
  · exact ⟨-1, fun k => by simp [c1], .inl (by omega)⟩
  · rw [sz_sub (by omega) (by omega) ht]
    by_cases c2 : a - (s.size : Int) - (t.size : Int) < 0
    · exact ⟨-1, fun k => by simp [c1, c2], .inl (by omega)⟩
    · exact ⟨a - (s.size : Int) - (t.size : Int), fun k => by simp [c1, c2], .inr ⟨by omega, by push_cast; omega⟩⟩

def sumOf {α : Type} (f : α → Nat) : List α → Nat
  | [] => 0
  | x :: l => f x + sumOf f l

theorem sumOf_take {α : Type} (f : α → Nat) : ∀ (xs : List α) (i : Nat) (hi : i < xs.length), sumOf f (xs.take (i + 1)) = sumOf f (xs.take i) + f xs[i]
  | x :: l, 0, _ => by simp [sumOf]
  | x :: l, i + 1, hi => by
    have := sumOf_take f l i (by simpa using hi)
    simp only [List.take_succ_cons, sumOf, List.getElem_cons_succ, this]
    omega

theorem wrap_succ {i : Nat} (hi : (i : Int) < 9223372036854775807) : IntKind.wrap .i64 ((i : Int) + 1) = ((i + 1 : Nat) : Int) := by
  rw [wrap64 (by omega) (by omega)]; push_cast; rfl

def szR (r : ByteArray × ByteArray) : Nat := r.1.size + r.2.size
def szW (w : ByteArray × (ByteArray × Bool)) : Nat := w.1.size + w.2.1.size

theorem szRangeS_sized {xs : List (ByteArray × ByteArray)} {a : Int} (h0 : 0 ≤ a) (h1 : a ≤ 1048576) (hl : small xs.length) (hx : ∀ x ∈ xs, small x.1.size ∧ small x.2.size) :
    Sized (laws_szRangeS_k xs a) a (xs.length + sumOf szR xs) := by
  unfold laws_szRangeS_k
  rw [sz_sub h0 h1 hl]
  by_cases c1 : a - (xs.length : Int) < 0
  · exact ⟨-1, fun k => by simp [c1], .inl (by omega)⟩
  · have hlen : xs.length ≤ 1048576 := by omega
    obtain ⟨e, he, hk⟩ := loop_fuel (body := laws_szRangeS_b0) xs.length (by omega)
      (fun i x => ∃ left : Int, x = (xs, left, (0 : Int), (i : Int)) ∧ 0 ≤ left ∧ left = a - (xs.length : Int) - (sumOf szR (xs.take i) : Nat) ∧ i ≤ xs.length)
      (fun e => (∃ z : List (ByteArray × ByteArray) × Int × Int × Int, e = .inl z ∧ z.2.2.1 < 0) ∨ ∃ z : List (ByteArray × ByteArray) × Int × Int × Int, e = .inr z ∧ 0 ≤ z.2.1 ∧ z.2.1 = a - (xs.length : Int) - (sumOf szR xs : Nat))
      (by
        rintro i x ⟨left, rfl, g1, g2, g3⟩
        unfold laws_szRangeS_b0
        rcases Nat.lt_or_ge i xs.length with hi | hi
        · have hmem := List.getElem_mem hi
          obtain ⟨r, q1, q2⟩ := szRange_sized (s := xs[i].1) (t := xs[i].2) g1 (by omega) (hx _ hmem).1 (hx _ hmem).2
          have hi1 : ((i : Nat) : Int) < (xs.length : Int) := by omega
          have hi2 : (0 : Int) ≤ (i : Int) := by omega
          simp only [hi1, hi2, decide_true, cond_true, and_self, if_true, rd_get _ xs i hi, q1]
          rcases q2 with q2 | ⟨q2, q3⟩
          · exact .inr ⟨.inl (xs, r, -1, (i : Int)), .inl ⟨_, rfl, by simp⟩, fun k => by simp [q2]⟩
          · refine .inl ⟨hi, (xs, r, 0, ((i + 1 : Nat) : Int)), ⟨r, rfl, q2, ?_, by omega⟩, fun k => ?_⟩
            · rw [sumOf_take szR xs i hi, q3, g2]; simp only [szR]; push_cast; omega
            · have : ¬ r < 0 := by omega
              simp [this, wrap_succ (show (i : Int) < 9223372036854775807 by omega)]
        · have hi1 : ¬ ((i : Nat) : Int) < (xs.length : Int) := by omega
          refine .inr ⟨.inr (xs, left, 0, (i : Int)), .inr ⟨_, rfl, g1, ?_⟩, fun k => by simp [hi1]⟩
          rw [List.take_of_length_le hi] at g2
          exact g2)
      (x := (xs, a - (xs.length : Int), (0 : Int), (0 : Int))) ⟨_, rfl, by omega, by simp [sumOf], Nat.zero_le _⟩
    rcases he with ⟨z, rfl, hz⟩ | ⟨z, rfl, hz1, hz2⟩
    · exact ⟨z.2.2.1, fun k => by simp [c1, hk], .inl hz⟩
    · exact ⟨z.2.1, fun k => by simp [c1, hk], .inr ⟨hz1, by rw [hz2]; push_cast; omega⟩⟩

theorem szWriteS_sized {xs : List (ByteArray × (ByteArray × Bool))} {a : Int} (h0 : 0 ≤ a) (h1 : a ≤ 1048576) (hl : small xs.length) (hx : ∀ x ∈ xs, small x.1.size ∧ small x.2.1.size) :
    Sized (laws_szWriteS_k xs a) a (xs.length + sumOf szW xs) := by
  unfold laws_szWriteS_k
  rw [sz_sub h0 h1 hl]
  by_cases c1 : a - (xs.length : Int) < 0
  · exact ⟨-1, fun k => by simp [c1], .inl (by omega)⟩
  · have hlen : xs.length ≤ 1048576 := by omega
    obtain ⟨e, he, hk⟩ := loop_fuel (body := laws_szWriteS_b0) xs.length (by omega)
      (fun i x => ∃ left : Int, x = (xs, left, (0 : Int), (i : Int)) ∧ 0 ≤ left ∧ left = a - (xs.length : Int) - (sumOf szW (xs.take i) : Nat) ∧ i ≤ xs.length)
      (fun e => (∃ z : List (ByteArray × (ByteArray × Bool)) × Int × Int × Int, e = .inl z ∧ z.2.2.1 < 0) ∨ ∃ z : List (ByteArray × (ByteArray × Bool)) × Int × Int × Int, e = .inr z ∧ 0 ≤ z.2.1 ∧ z.2.1 = a - (xs.length : Int) - (sumOf szW xs : Nat))
      (by
        rintro i x ⟨left, rfl, g1, g2, g3⟩
        unfold laws_szWriteS_b0
        rcases Nat.lt_or_ge i xs.length with hi | hi
        · have hmem := List.getElem_mem hi
          obtain ⟨r, q1, q2⟩ := szWrite_sized (s := xs[i].1) (t := xs[i].2.1) (b := xs[i].2.2) g1 (by omega) (hx _ hmem).1 (hx _ hmem).2
          have hi1 : ((i : Nat) : Int) < (xs.length : Int) := by omega
          have hi2 : (0 : Int) ≤ (i : Int) := by omega
          simp only [hi1, hi2, decide_true, cond_true, and_self, if_true, rd_get _ xs i hi, q1]
          rcases q2 with q2 | ⟨q2, q3⟩
          · exact .inr ⟨.inl (xs, r, -1, (i : Int)), .inl ⟨_, rfl, by simp⟩, fun k => by simp [q2]⟩
          · refine .inl ⟨hi, (xs, r, 0, ((i + 1 : Nat) : Int)), ⟨r, rfl, q2, ?_, by omega⟩, fun k => ?_⟩
            · rw [sumOf_take szW xs i hi, q3, g2]; simp only [szW]; push_cast; omega
            · have : ¬ r < 0 := by omega
              simp [this, wrap_succ (show (i : Int) < 9223372036854775807 by omega)]
        · have hi1 : ¬ ((i : Nat) : Int) < (xs.length : Int) := by omega
          refine .inr ⟨.inr (xs, left, 0, (i : Int)), .inr ⟨_, rfl, g1, ?_⟩, fun k => by simp [hi1]⟩
          rw [List.take_of_length_le hi] at g2
          exact g2)
      (x := (xs, a - (xs.length : Int), (0 : Int), (0 : Int))) ⟨_, rfl, by omega, by simp [sumOf], Nat.zero_le _⟩
    rcases he with ⟨z, rfl, hz⟩ | ⟨z, rfl, hz1, hz2⟩
    · exact ⟨z.2.2.1, fun k => by simp [c1, hk], .inl hz⟩
    · exact ⟨z.2.1, fun k => by simp [c1, hk], .inr ⟨hz1, by rw [hz2]; push_cast; omega⟩⟩


theorem szTxn_sized {a0 a1 a2 a3 : Int} {rs : List (ByteArray × ByteArray)} {ws : List (ByteArray × (ByteArray × Bool))} {o : Bool} {nm : ByteArray} {a : Int} (h0 : 0 ≤ a) (h1 : a ≤ 1048576)
    (hr : small rs.length) (hw : small ws.length) (hrx : ∀ x ∈ rs, small x.1.size ∧ small x.2.size) (hwx : ∀ x ∈ ws, small x.1.size ∧ small x.2.1.size) (hn : small nm.size) :
    Sized (laws_szTxn_k a0 a1 a2 a3 rs ws o nm a) a (rs.length + sumOf szR rs + (ws.length + sumOf szW ws) + nm.size) := by
  unfold laws_szTxn_k
  obtain ⟨r, q1, q2⟩ := szRangeS_sized h0 h1 hr hrx
  simp only [q1]
  rcases q2 with q2 | ⟨q2, q3⟩
  · exact ⟨-1, fun k => by simp [q2], .inl (by omega)⟩
  · have c1 : ¬ r < 0 := by omega
    obtain ⟨r2, p1, p2⟩ := szWriteS_sized (a := r) (xs := ws) q2 (by omega) hw hwx
    simp only [p1, c1, decide_false, cond_false]
    rcases p2 with p2 | ⟨p2, p3⟩
    · exact ⟨-1, fun k => by simp [p2], .inl (by omega)⟩
    · have c2 : ¬ r2 < 0 := by omega
      simp only [c2, decide_false, cond_false, sz_sub p2 (by omega) hn]
      by_cases c3 : r2 - (nm.size : Int) < 0
      · exact ⟨-1, fun k => by simp [c3], .inl (by omega)⟩
      · exact ⟨r2 - (nm.size : Int), fun k => by simp [c3], .inr ⟨by omega, by push_cast; omega⟩⟩

/-! ### copies -/

theorem set_prefix {α : Type} (xs : List α) (z : α) : ∀ (i : Nat) (hi : i < xs.length), (xs.take i ++ List.replicate (xs.length - i) z).set i xs[i] = xs.take (i + 1) ++ List.replicate (xs.length - (i + 1)) z := by
  intro i hi
  have e : xs.length - i = (xs.length - (i + 1)) + 1 := by omega
  rw [e, List.replicate_succ, List.set_append_right _ _ (by simp; omega)]
  have : i - (xs.take i).length = 0 := by simp; omega
  rw [this, List.set_cons_zero, List.take_succ_eq_append_getElem hi, List.append_assoc]
  rfl

theorem toRangeS_k {xs : List (ByteArray × ByteArray)} (hl : xs.length ≤ 4294967296) (k : List (ByteArray × ByteArray) → Option Res) : laws_toRangeS_k xs k = k xs := by
  unfold laws_toRangeS_k
  obtain ⟨e, he, hk⟩ := loop_fuel (body := laws_toRangeS_b0) xs.length (by omega)
    (fun i x => x = (xs, (i : Int), xs.take i ++ List.replicate (xs.length - i) (Ty.zero (.pair .str .str))) ∧ i ≤ xs.length)
    (fun e => e.2.2 = xs)
    (by
      rintro i x ⟨rfl, g3⟩
      unfold laws_toRangeS_b0
      rcases Nat.lt_or_ge i xs.length with hi | hi
      · have hi1 : ((i : Nat) : Int) < (xs.length : Int) := by omega
        have hi2 : (0 : Int) ≤ (i : Int) := by omega
        have hlen : (xs.take i ++ List.replicate (xs.length - i) (Ty.zero (.pair .str .str))).length = xs.length := by simp; omega
        refine .inl ⟨hi, _, ⟨rfl, by omega⟩, fun k => ?_⟩
        simp only [hi1, hi2, decide_true, cond_true, and_self, if_true, rd_get _ xs i hi, laws_toRange_k, hlen]
        rw [wrap_succ (by omega), Int.toNat_natCast, set_prefix xs _ i hi]
      · have hi1 : ¬ ((i : Nat) : Int) < (xs.length : Int) := by omega
        have h0 : xs.length - i = 0 := by omega
        exact .inr ⟨(xs, (i : Int), xs), rfl, fun k => by simp [hi1, h0, List.take_of_length_le hi]⟩)
    (x := (xs, (0 : Int), List.replicate (xs.length : Int).toNat (Ty.zero (.pair .str .str)))) ⟨by simp, Nat.zero_le _⟩
  have hc : 0 ≤ (xs.length : Int) ∧ (xs.length : Int) ≤ (xs.length : Int) ∧ (xs.length : Int) ≤ (VE.maxLen : Int) := by
    have : ((VE.maxLen : Nat) : Int) = 4294967296 := rfl
    rw [this]; omega
  rw [if_pos hc, hk, he]

theorem toWriteS_k {xs : List (ByteArray × (ByteArray × Bool))} (hl : xs.length ≤ 4294967296) (k : List (ByteArray × (ByteArray × Bool)) → Option Res) : laws_toWriteS_k xs k = k xs := by
  unfold laws_toWriteS_k
  obtain ⟨e, he, hk⟩ := loop_fuel (body := laws_toWriteS_b0) xs.length (by omega)
    (fun i x => x = (xs, (i : Int), xs.take i ++ List.replicate (xs.length - i) (Ty.zero (.pair .str (.pair .str .bool)))) ∧ i ≤ xs.length)
    (fun e => e.2.2 = xs)
    (by
      rintro i x ⟨rfl, g3⟩
      unfold laws_toWriteS_b0
      rcases Nat.lt_or_ge i xs.length with hi | hi
      · have hi1 : ((i : Nat) : Int) < (xs.length : Int) := by omega
        have hi2 : (0 : Int) ≤ (i : Int) := by omega
        have hlen : (xs.take i ++ List.replicate (xs.length - i) (Ty.zero (.pair .str (.pair .str .bool)))).length = xs.length := by simp; omega
        refine .inl ⟨hi, _, ⟨rfl, by omega⟩, fun k => ?_⟩
        simp only [hi1, hi2, decide_true, cond_true, and_self, if_true, rd_get _ xs i hi, laws_toWrite_k, hlen]
        rw [wrap_succ (by omega), Int.toNat_natCast, set_prefix xs _ i hi]
      · have hi1 : ¬ ((i : Nat) : Int) < (xs.length : Int) := by omega
        have h0 : xs.length - i = 0 := by omega
        exact .inr ⟨(xs, (i : Int), xs), rfl, fun k => by simp [hi1, h0, List.take_of_length_le hi]⟩)
    (x := (xs, (0 : Int), List.replicate (xs.length : Int).toNat (Ty.zero (.pair .str (.pair .str .bool))))) ⟨by simp, Nat.zero_le _⟩
  have hc : 0 ≤ (xs.length : Int) ∧ (xs.length : Int) ≤ (xs.length : Int) ∧ (xs.length : Int) ≤ (VE.maxLen : Int) := by
    have : ((VE.maxLen : Nat) : Int) = 4294967296 := rfl
    rw [this]; omega
  rw [if_pos hc, hk, he]

end Go.VE
