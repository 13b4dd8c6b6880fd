/- Plain laws: where a name or an Id stands; a transaction's text. -/
import Derived.Test.YtpmahbmokfaflaaRecordOkR3
namespace Go.VE
noncomputable section
set_option linter.unusedVariables false
set_option linter.unusedSimpArgs false
set_option maxRecDepth 100000

def atF (p : tTxn.D → Bool) : List tTxn.D → Nat → Int
  | [], _ => -1
  | y :: l, i => bif p y then (i : Int) else atF p l (i + 1)


theorem push_data (f : Int → UInt8) : ∀ (l : List Int) (s : ByteArray), (l.foldl (fun s n => s.push (f n)) s).data.toList = s.data.toList ++ l.map f
  | [], s => by simp
  | n :: l, s => by
    rw [List.foldl_cons, push_data f l]
    simp [ByteArray.push]

theorem bytesOf_data (l : List Int) : (bytesOf l).data.toList = l.map fun n => UInt8.ofNat n.toNat := by
  unfold bytesOf
  rw [push_data (fun n => UInt8.ofNat n.toNat)]
  rfl

theorem bytes_ext {a b : ByteArray} (h : a.data.toList = b.data.toList) : a = b := by
  cases a; cases b; congr 1; exact Array.toList_inj.mp h

theorem strEq_true {a b : ByteArray} (h : strEq a b = true) : a = b := by
  rw [strEq_eq, beq_iff_eq, ByteArray.toList_eq, ByteArray.toList_eq] at h
  exact bytes_ext h

theorem bytesOf_append (a b : List Int) : bytesOf (a ++ b) = bytesOf a ++ bytesOf b := by
  apply bytes_ext
  rw [ByteArray.data_append, Array.toList_append, bytesOf_data, bytesOf_data, bytesOf_data, List.map_append]

theorem bytesOf_intsOf (b : ByteArray) : bytesOf (intsOf b) = b := by
  apply bytes_ext
  rw [bytesOf_data]
  unfold intsOf
  rw [List.map_map]
  conv => rhs; rw [← List.map_id b.data.toList]
  apply List.map_congr_left
  intro x _
  show UInt8.ofNat ((x.toNat : Int)).toNat = x
  rw [Int.toNat_natCast]
  exact UInt8.ofNat_toNat

theorem bytesOf_size (l : List Int) : (bytesOf l).size = l.length := by
  have := congrArg List.length (bytesOf_data l)
  rw [List.length_map, Array.length_toList] at this
  exact this

def varL (n : Int) : List Int := if n > 127 then [IntKind.wrap .u8 (IntKind.wrap .i64 (n.tmod 128 + 128)), IntKind.wrap .u8 (IntKind.wrap .i64 (n.tdiv 128))] else [IntKind.wrap .u8 n]
def varB (n : Int) : ByteArray := bytesOf (varL n)
theorem varB_size (n : Int) : (varB n).size ≤ 2 := by unfold varB; rw [bytesOf_size]; unfold varL; split <;> simp
def shB (s : ByteArray) : ByteArray := varB s.size ++ s
theorem shB_size (s : ByteArray) : (shB s).size ≤ 2 + s.size := by unfold shB; rw [ByteArray.size_append]; have := varB_size s.size; omega
def bitB (b : Bool) : ByteArray := bif b then ⟨#[1]⟩ else ⟨#[0]⟩
theorem bitB_size (b : Bool) : (bitB b).size = 1 := by cases b <;> rfl

theorem fuel_two : ∃ n, Fuel = n + 3 := ⟨Fuel - 3, by have := fuel_big; omega⟩
theorem tdiv_small {n : Int} (h0 : 127 < n) (h1 : n ≤ 16383) : IntKind.wrap .i64 (n.tdiv 128) = n.tdiv 128 ∧ ¬ (n.tdiv 128 > 127) := by
  have e : n.tdiv 128 = n / 128 := Int.tdiv_eq_ediv_of_nonneg (by omega)
  rw [e]
  have a1 : n / 128 ≤ 127 := by omega
  have a2 : 0 ≤ n / 128 := by omega
  exact ⟨wrap64 (by omega) (by omega), by omega⟩

/-- Numbers, one after the other. -/
def numsF : List Int → List Int → List Int
  | [], s => s
  | n :: l, s => numsF l (s ++ intsOf (varB n))
theorem numsF_len : ∀ (l s : List Int), (numsF l s).length ≤ s.length + 2 * l.length
  | [], s => by simp [numsF]
  | n :: l, s => by
    have := numsF_len l (s ++ intsOf (varB n))
    have v := varB_size n
    rw [List.length_append, intsOf_length] at this
    simp only [numsF, List.length_cons]; omega
def rangesI : List tRange.D → List Int → List Int
  | [], s => s
  | y :: l, s => rangesI l ((s ++ intsOf (shB y.1)) ++ intsOf (shB y.2))
def rangesT : List tRange.D → ByteArray → ByteArray
  | [], s => s
  | y :: l, s => rangesT l ((s ++ shB y.1) ++ shB y.2)
theorem rangesI_T : ∀ l s, bytesOf (rangesI l s) = rangesT l (bytesOf s)
  | [], s => rfl
  | y :: l, s => by rw [rangesI, rangesT, rangesI_T, bytesOf_append, bytesOf_append, bytesOf_intsOf, bytesOf_intsOf]
def writesI : List tWrite.D → List Int → List Int
  | [], s => s
  | y :: l, s => writesI l (((s ++ intsOf (shB y.1)) ++ intsOf (shB y.2.1)) ++ intsOf (bitB y.2.2))
def writesT : List tWrite.D → ByteArray → ByteArray
  | [], s => s
  | y :: l, s => writesT l (((s ++ shB y.1) ++ shB y.2.1) ++ bitB y.2.2)
theorem writesI_T : ∀ l s, bytesOf (writesI l s) = writesT l (bytesOf s)
  | [], s => rfl
  | y :: l, s => by rw [writesI, writesT, writesI_T, bytesOf_append, bytesOf_append, bytesOf_append, bytesOf_intsOf, bytesOf_intsOf, bytesOf_intsOf]

theorem keyOk_size {s : ByteArray} (h : keyOkB s = true) : s.size ≤ 3 := by
  unfold keyOkB withinB at h
  simp only [Bool.and_eq_true, decide_eq_true_eq] at h
  omega
theorem writesFrom_mem : ∀ {l : List tWrite.D} {p}, writesFrom p l = true → ∀ y ∈ l, writeOkB y = true
  | [], _, _, y, hy => by cases hy
  | z :: l, p, h, y, hy => by
    simp only [writesFrom, Bool.and_eq_true] at h
    cases hy with
    | head => exact h.1.1
    | tail _ hm => exact writesFrom_mem h.2 y hm
def smallN (n : Int) : Prop := 0 ≤ n ∧ n ≤ 16383
theorem txnOk_small {t : tTxn.D} (h : txnOkB t = true) : smallN t.1 ∧ smallN t.2.1 ∧ smallN t.2.2.1 ∧ smallN t.2.2.2.1 ∧
    t.2.2.2.2.1.length ≤ 8 ∧ (∀ y ∈ t.2.2.2.2.1, y.1.size ≤ 12 ∧ y.2.size ≤ 12) ∧ t.2.2.2.2.2.1.length ≤ 8 ∧ (∀ y ∈ t.2.2.2.2.2.1, y.1.size ≤ 12 ∧ y.2.1.size ≤ 12) ∧ t.2.2.2.2.2.2.2.size ≤ 12 := by
  unfold txnOkB withinB writesOkB at h
  simp only [Bool.and_eq_true, Bool.not_eq_true', decide_eq_true_eq, decide_eq_false_iff_not, List.any_eq_false, Bool.not_eq_true, Bool.and_eq_false_iff, beq_eq_false_iff_ne, bne_eq_false_iff_eq, Bool.not_eq_false', Bool.or_eq_true, ne_eq] at h
  obtain ⟨⟨⟨⟨⟨⟨⟨⟨⟨⟨a1, a2⟩, a3⟩, a4⟩, ⟨a5, a6⟩⟩, a7⟩, a8⟩, a9⟩, a10⟩, a11⟩, a12⟩ := h
  unfold smallN
  refine ⟨by omega, by omega, by omega, ?_, by omega, fun y hy => ?_, by omega, fun y hy => ?_, ?_⟩
  · by_cases c : t.2.1 = 3
    · have := a8.resolve_left (fun hc => hc c)
      have w : IntKind.wrap .i64 (t.2.2.1 + 1) = t.2.2.1 + 1 := wrap64 (by omega) (by omega)
      rw [w] at this
      omega
    · have : @Eq Int t.2.2.2.1 0 := a9.resolve_left (fun hc => c hc)
      omega
  · have : rangeOkB y = true := by have := a7 y hy; revert this; cases rangeOkB y <;> simp
    unfold rangeOkB at this
    simp only [Bool.and_eq_true] at this
    have b1 := keyOk_size this.1.1
    have b2 := keyOk_size this.1.2
    omega
  · have := writesFrom_mem a5 y hy
    unfold writeOkB at this
    simp only [Bool.and_eq_true, decide_eq_true_eq] at this
    have b1 := keyOk_size this.1.1
    omega
  · by_cases c : t.2.1 = 2
    · have := keyOk_size (a10.resolve_left (fun hc => hc c))
      omega
    · have := strEq_true (a11.resolve_left (fun hc => c hc))
      rw [this]; decide

def txnTextB (t : tTxn.D) : ByteArray :=
  (writesT t.2.2.2.2.2.1 (rangesT t.2.2.2.2.1 (varB t.1 ++ varB t.2.1 ++ varB t.2.2.1 ++ varB t.2.2.2.1 ++ varB t.2.2.2.2.1.length) ++ varB t.2.2.2.2.2.1.length) ++ bitB t.2.2.2.2.2.2.1) ++ shB t.2.2.2.2.2.2.2

end
end Go.VE
