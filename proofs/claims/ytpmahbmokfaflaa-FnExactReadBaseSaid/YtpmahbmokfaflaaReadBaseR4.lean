/- Plain laws: where a name or an Id stands; a transaction's text. -/
import Derived.Test.YtpmahbmokfaflaaReadBaseR3
namespace Go.VE
noncomputable section
set_option linter.unusedVariables false
set_option linter.unusedSimpArgs false
set_option maxRecDepth 100000
theorem v6y (f : Int → UInt8) : ∀ (l : List Int) (s : ByteArray), (l.foldl (fun s n => s.push (f n)) s).data.toList = s.data.toList ++ l.map f
  | [], s => by simp
  | n :: l, s => by
    rw [List.foldl_cons, v6y f l]
    simp [ByteArray.push]
theorem vmw (l : List Int) : (vd4 l).data.toList = l.map fun n => UInt8.ofNat n.toNat := by
  unfold vd4
  rw [v6y (fun n => UInt8.ofNat n.toNat)]
  rfl
theorem v6d {a b : ByteArray} (h : a.data.toList = b.data.toList) : a = b := by
  cases a; cases b; congr 1; exact Array.toList_inj.mp h
theorem v1p {a b : ByteArray} (h : va9 a b = true) : a = b := by
  rw [vky, beq_iff_eq, ByteArray.toList_eq, ByteArray.toList_eq] at h
  exact v6d h
theorem vos (b : ByteArray) : vd4 (va7 b) = b := by
  apply v6d
  rw [vmw]
  unfold va7
  rw [List.map_map]
  conv => rhs; rw [← List.map_id b.data.toList]
  apply List.map_congr_left
  intro x _
  show UInt8.ofNat ((x.toNat : Int)).toNat = x
  rw [Int.toNat_natCast]
  exact UInt8.ofNat_toNat
theorem v6i (l : List Int) : (vd4 l).size = l.length := by
  have := congrArg List.length (vmw l)
  rw [List.length_map, Array.length_toList] at this
  exact this
theorem vka {s : ByteArray} (h : vdz s = true) : s.size ≤ 3 := by
  unfold vdz vaw at h
  simp only [Bool.and_eq_true, decide_eq_true_eq] at h
  omega
theorem vob : ∀ {l : List tWrite.D} {p}, vdr p l = true → ∀ y ∈ l, vfg y = true
  | [], _, _, y, hy => by cases hy
  | z :: l, p, h, y, hy => by
    simp only [vdr, Bool.and_eq_true] at h
    cases hy with
    | head => exact h.1.1
    | tail _ hm => exact vob h.2 y hm
def vu8 (n : Int) : Prop := 0 ≤ n ∧ n ≤ 16383
theorem vx0 {t : tTxn.D} (h : vc4 t = true) : vu8 t.1 ∧ vu8 t.2.1 ∧ vu8 t.2.2.1 ∧ vu8 t.2.2.2.1 ∧
    t.2.2.2.2.1.length ≤ 8 ∧ (∀ y ∈ t.2.2.2.2.1, y.1.size ≤ 12 ∧ y.2.size ≤ 12) ∧ t.2.2.2.2.2.1.length ≤ 8 ∧ (∀ y ∈ t.2.2.2.2.2.1, y.1.size ≤ 12 ∧ y.2.1.size ≤ 12) ∧ t.2.2.2.2.2.2.2.size ≤ 12 := by
  unfold vc4 vaw vhv at h
  simp only [Bool.and_eq_true, Bool.not_eq_true', decide_eq_true_eq, decide_eq_false_iff_not, List.any_eq_false, Bool.not_eq_true, Bool.and_eq_false_iff, beq_eq_false_iff_ne, bne_eq_false_iff_eq, Bool.not_eq_false', Bool.or_eq_true, ne_eq] at h
  obtain ⟨⟨⟨⟨⟨⟨⟨⟨⟨⟨a1, a2⟩, a3⟩, a4⟩, ⟨a5, a6⟩⟩, a7⟩, a8⟩, a9⟩, a10⟩, a11⟩, a12⟩ := h
  unfold vu8
  refine ⟨by omega, by omega, by omega, ?_, by omega, fun y hy => ?_, by omega, fun y hy => ?_, ?_⟩
  · by_cases c : t.2.1 = 3
    · have := a8.resolve_left (fun hc => hc c)
      have w : IntKind.wrap .i64 (t.2.2.1 + 1) = t.2.2.1 + 1 := vax (by omega) (by omega)
      rw [w] at this
      omega
    · have : @Eq Int t.2.2.2.1 0 := a9.resolve_left (fun hc => c hc)
      omega
  · have : vd0 y = true := by have := a7 y hy; revert this; cases vd0 y <;> simp
    unfold vd0 at this
    simp only [Bool.and_eq_true] at this
    have b1 := vka this.1.1
    have b2 := vka this.1.2
    omega
  · have := vob a5 y hy
    unfold vfg at this
    simp only [Bool.and_eq_true, decide_eq_true_eq] at this
    have b1 := vka this.1.1
    omega
  · by_cases c : t.2.1 = 2
    · have := vka (a10.resolve_left (fun hc => hc c))
      omega
    · have := v1p (a11.resolve_left (fun hc => c hc))
      rw [this]; decide
end
end Go.VE
