/- Plain laws: a transaction copied, compared with itself; the law of Beside. -/
import Derived.Test.YtdcgbmpmiehemaaL2
namespace Go.VE
set_option linter.unusedVariables false
set_option linter.unusedSimpArgs false

theorem toTxn_k {a0 a1 a2 a3 : Int} {rs : List (ByteArray × ByteArray)} {ws : List (ByteArray × (ByteArray × Bool))} {o : Bool} {nm : ByteArray} (hr : rs.length ≤ 4294967296) (hw : ws.length ≤ 4294967296)
    (k : (Int × Int × Int × Int × Bool × ByteArray × List (ByteArray × ByteArray) × List (ByteArray × (ByteArray × Bool))) → Option Res) : laws_toTxn_k a0 a1 a2 a3 rs ws o nm k = k (a0, a1, a2, a3, o, nm, rs, ws) := by
  unfold laws_toTxn_k
  rw [toRangeS_k hr, toWriteS_k hw]

theorem eqRange_self (s t : ByteArray) (k : Bool → Option Res) : laws_eqRange_k s t s t k = k true := by
  unfold laws_eqRange_k; simp

theorem eqWrite_self (s t : ByteArray) (b : Bool) (k : Bool → Option Res) : laws_eqWrite_k s t b s t b k = k true := by
  unfold laws_eqWrite_k; simp

theorem eqRangeS_self {xs : List (ByteArray × ByteArray)} (hl : xs.length ≤ 4294967296) (k : Bool → Option Res) : laws_eqRangeS_k xs xs k = k true := by
  unfold laws_eqRangeS_k
  obtain ⟨e, he, hk⟩ := loop_fuel (body := laws_eqRangeS_b0) xs.length (by omega)
    (fun i x => x = (xs, xs, false, (i : Int)) ∧ i ≤ xs.length) (fun e => ∃ z, e = .inr z)
    (by
      rintro i x ⟨rfl, g3⟩
      unfold laws_eqRangeS_b0
      rcases Nat.lt_or_ge i xs.length with hi | hi
      · have hi1 : ((i : Nat) : Int) < (xs.length : Int) := by omega
        have hi2 : (0 : Int) ≤ (i : Int) := by omega
        refine .inl ⟨hi, _, ⟨rfl, by omega⟩, fun k => ?_⟩
        simp only [hi1, hi2, decide_true, cond_true, and_self, if_true, eqRange_self, Bool.not_true, cond_false]
        rw [wrap_succ (by omega)]
      · have hi1 : ¬ ((i : Nat) : Int) < (xs.length : Int) := by omega
        exact .inr ⟨.inr (xs, xs, false, (i : Int)), ⟨_, rfl⟩, fun k => by simp [hi1]⟩)
    (x := (xs, xs, false, (0 : Int))) ⟨rfl, Nat.zero_le _⟩
  obtain ⟨z, rfl⟩ := he
  simp [hk]

theorem eqWriteS_self {xs : List (ByteArray × (ByteArray × Bool))} (hl : xs.length ≤ 4294967296) (k : Bool → Option Res) : laws_eqWriteS_k xs xs k = k true := by
  unfold laws_eqWriteS_k
  obtain ⟨e, he, hk⟩ := loop_fuel (body := laws_eqWriteS_b0) xs.length (by omega)
    (fun i x => x = (xs, xs, false, (i : Int)) ∧ i ≤ xs.length) (fun e => ∃ z, e = .inr z)
    (by
      rintro i x ⟨rfl, g3⟩
      unfold laws_eqWriteS_b0
      rcases Nat.lt_or_ge i xs.length with hi | hi
      · have hi1 : ((i : Nat) : Int) < (xs.length : Int) := by omega
        have hi2 : (0 : Int) ≤ (i : Int) := by omega
        refine .inl ⟨hi, _, ⟨rfl, by omega⟩, fun k => ?_⟩
        simp only [hi1, hi2, decide_true, cond_true, and_self, if_true, eqWrite_self, Bool.not_true, cond_false]
        rw [wrap_succ (by omega)]
      · have hi1 : ¬ ((i : Nat) : Int) < (xs.length : Int) := by omega
        exact .inr ⟨.inr (xs, xs, false, (i : Int)), ⟨_, rfl⟩, fun k => by simp [hi1]⟩)
    (x := (xs, xs, false, (0 : Int))) ⟨rfl, Nat.zero_le _⟩
  obtain ⟨z, rfl⟩ := he
  simp [hk]

theorem eqTxn_self {a0 a1 a2 a3 : Int} {rs : List (ByteArray × ByteArray)} {ws : List (ByteArray × (ByteArray × Bool))} {o : Bool} {nm : ByteArray} (hr : rs.length ≤ 4294967296) (hw : ws.length ≤ 4294967296)
    (k : Bool → Option Res) : laws_eqTxn_k a0 a1 a2 a3 rs ws o nm a0 a1 a2 a3 rs ws o nm k = k true := by
  unfold laws_eqTxn_k
  simp [eqRangeS_self hr, eqWriteS_self hw]

end Go.VE
