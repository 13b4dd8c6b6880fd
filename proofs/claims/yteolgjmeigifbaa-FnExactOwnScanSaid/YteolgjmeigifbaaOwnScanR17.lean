/- Plain laws: keys in order; what a scan sees. -/
import Derived.Test.YteolgjmeigifbaaOwnScanR8
import Derived.Test.YteolgjmeigifbaaV28
namespace Go.VE
noncomputable section
set_option linter.unusedVariables false
set_option linter.unusedSimpArgs false
set_option maxRecDepth 100000

/-! ### the order of texts -/

theorem strLess_lt (x y : ByteArray) : strLess x y = decide (x.data.toList < y.data.toList) := by
  rw [strLess_eq, ByteArray.toList_eq, ByteArray.toList_eq]
  exact Go.Proofs.bytesLess_eq _ _
theorem strLess_irrV (x : ByteArray) : strLess x x = false := by
  rw [strLess_lt]; exact decide_eq_false (List.lt_irrefl _)
theorem strLess_trV {x y z : ByteArray} (h1 : strLess x y = true) (h2 : strLess y z = true) : strLess x z = true := by
  rw [strLess_lt] at *
  exact decide_eq_true (List.lt_trans (of_decide_eq_true h1) (of_decide_eq_true h2))
theorem strLess_asV {x y : ByteArray} (h : strLess x y = true) : strLess y x = false := by
  cases h2 : strLess y x
  · rfl
  · have := strLess_trV h h2
    rw [strLess_irrV] at this
    cases this
theorem strLess_triV {x y : ByteArray} (h1 : strLess x y = false) (h2 : strLess y x = false) : x = y := by
  rw [strLess_lt] at *
  have a := List.not_lt.1 (of_decide_eq_false h1)
  have b := List.not_lt.1 (of_decide_eq_false h2)
  exact bytes_ext (List.le_antisymm b a)
def Asc (l : List ByteArray) : Prop := l.Pairwise fun a b => strLess a b = true

theorem asc_ext : ∀ {l m : List ByteArray}, Asc l → Asc m → (∀ x, x ∈ l ↔ x ∈ m) → l = m
  | [], [], _, _, _ => rfl
  | [], b :: m, _, _, h => by have := (h b).2 (by simp); cases this
  | a :: l, [], _, _, h => by have := (h a).1 (by simp); cases this
  | a :: l, b :: m, hl, hm, h => by
    obtain ⟨h1, h2⟩ := List.pairwise_cons.1 hl
    obtain ⟨h3, h4⟩ := List.pairwise_cons.1 hm
    have hab : a = b := by
      rcases List.mem_cons.1 ((h a).1 (by simp)) with e | e
      · exact e
      · rcases List.mem_cons.1 ((h b).2 (by simp)) with e2 | e2
        · exact e2.symm
        · have x1 := h3 a e
          have x2 := h1 b e2
          rw [strLess_asV x1] at x2
          cases x2
    subst hab
    rw [asc_ext h2 h4 (fun x => ⟨fun hx => by
      rcases List.mem_cons.1 ((h x).1 (by simp [hx])) with e | e
      · subst e; have := h1 x hx; rw [strLess_irrV] at this; cases this
      · exact e, fun hx => by
      rcases List.mem_cons.1 ((h x).2 (by simp [hx])) with e | e
      · subst e; have := h3 x hx; rw [strLess_irrV] at this; cases this
      · exact e⟩)]


def ddT (p : ByteArray) : List ByteArray → List ByteArray
  | [] => []
  | y :: l => bif strEq y p then ddT y l else y :: ddT y l
def dd : List ByteArray → List ByteArray
  | [] => []
  | a :: l => a :: ddT a l

theorem ddT_asc : ∀ (l : List ByteArray) (p : ByteArray), (p :: l).Pairwise (fun a b => strLess b a = false) → Asc (p :: ddT p l) ∧ ∀ x, x ∈ p :: ddT p l ↔ x ∈ p :: l
  | [], p, _ => ⟨List.pairwise_singleton _ _, fun x => Iff.rfl⟩
  | y :: l, p, h => by
    obtain ⟨h1, h2⟩ := List.pairwise_cons.1 h
    obtain ⟨i1, i2⟩ := ddT_asc l y h2
    simp only [ddT]
    cases he : strEq y p
    · have hne : y ≠ p := fun e => by rw [e, strEq_self] at he; cases he
      have hlt : strLess p y = true := by
        cases hh : strLess p y
        · exact absurd (strLess_triV (h1 y (by simp)) hh) hne
        · rfl
      refine ⟨List.pairwise_cons.2 ⟨fun x hx => ?_, i1⟩, fun x => ?_⟩
      · rcases List.mem_cons.1 hx with e | e
        · rw [e]; exact hlt
        · exact strLess_trV hlt ((List.pairwise_cons.1 i1).1 x e)
      · simp only [cond_false, List.mem_cons]
        have := i2 x
        simp only [List.mem_cons] at this
        rw [this]
    · have e := strEq_true he
      subst e
      refine ⟨i1, fun x => ?_⟩
      simp only [cond_true]
      rw [i2 x]
      simp

theorem dd_asc {l : List ByteArray} (h : l.Pairwise fun a b => strLess b a = false) : Asc (dd l) ∧ ∀ x, x ∈ dd l ↔ x ∈ l := by
  cases l with
  | nil => exact ⟨List.Pairwise.nil, fun x => Iff.rfl⟩
  | cons a l => exact ddT_asc l a h

theorem sortL_asc (xs : List ByteArray) : (sortL xs).Pairwise (fun a b => strLess b a = false) ∧ ∀ x, x ∈ sortL xs ↔ x ∈ xs := by
  unfold sortL
  constructor
  · rw [List.pairwise_map]
    have := List.pairwise_mergeSort (le := fun x y : List UInt8 => decide (x ≤ y)) (fun a b c h1 h2 => decide_eq_true (List.le_trans (of_decide_eq_true h1) (of_decide_eq_true h2))) (fun a b => by
      rcases List.le_total a b with h | h
      · simp [h]
      · simp [h]) (xs.map fun x => x.data.toList)
    refine this.imp ?_
    intro a b hab
    rw [strLess_lt]
    exact decide_eq_false (List.not_lt.2 (of_decide_eq_true hab))
  · intro x
    have hp := List.mergeSort_perm (xs.map fun x => x.data.toList) (fun x y => decide (x ≤ y))
    simp only [List.mem_map, hp.mem_iff]
    constructor
    · rintro ⟨l, ⟨y, hy, rfl⟩, rfl⟩
      exact hy
    · intro hx
      exact ⟨x.data.toList, ⟨x, hx, rfl⟩, rfl⟩


def insK (out : List ByteArray) (k : ByteArray) : List ByteArray := (out.filter fun y => strLess y k) ++ k :: out.filter fun y => !(strLess y k || strEq y k)

theorem insK_asc {out : List ByteArray} (h : Asc out) (k : ByteArray) : Asc (insK out k) ∧ ∀ x, x ∈ insK out k ↔ x = k ∨ x ∈ out := by
  have gt : ∀ y, (!(strLess y k || strEq y k)) = true → strLess k y = true := by
    intro y hy
    simp only [Bool.not_eq_true', Bool.or_eq_false_iff] at hy
    cases hh : strLess k y
    · have := strLess_triV hy.1 hh
      rw [this, strEq_self] at hy
      cases hy.2
    · rfl
  constructor
  · unfold insK Asc
    rw [List.pairwise_append]
    refine ⟨List.Pairwise.filter _ h, List.pairwise_cons.2 ⟨fun x hx => gt x (List.mem_filter.1 hx).2, List.Pairwise.filter _ h⟩, fun a ha b hb => ?_⟩
    have ha' := (List.mem_filter.1 ha).2
    rcases List.mem_cons.1 hb with e | e
    · rw [e]; exact ha'
    · exact strLess_trV ha' (gt b (List.mem_filter.1 e).2)
  · intro x
    unfold insK
    simp only [List.mem_append, List.mem_cons, List.mem_filter]
    constructor
    · rintro (⟨h1, _⟩ | h1 | ⟨h1, _⟩)
      · exact .inr h1
      · exact .inl h1
      · exact .inr h1
    · rintro (h1 | h1)
      · exact .inr (.inl h1)
      · cases h2 : strLess x k
        · cases h3 : strEq x k
          · exact .inr (.inr ⟨h1, by simp [h2, h3]⟩)
          · exact .inr (.inl (strEq_true h3))
        · exact .inl ⟨h1, rfl⟩

def keysS (r : tRange.D) : List tVersion.D → List ByteArray → List ByteArray
  | [], out => out
  | v :: l, out => keysS r l (bif inRangeB r v.1 then insK out v.1 else out)

theorem keysS_asc (r : tRange.D) : ∀ (l : List tVersion.D) (out : List ByteArray), Asc out → Asc (keysS r l out) ∧ ∀ x, x ∈ keysS r l out ↔ x ∈ out ∨ (inRangeB r x = true ∧ x ∈ l.map fun v => v.1)
  | [], out, h => ⟨h, fun x => by simp [keysS]⟩
  | v :: l, out, h => by
    simp only [keysS]
    cases hr : inRangeB r v.1
    · obtain ⟨i1, i2⟩ := keysS_asc r l out h
      refine ⟨i1, fun x => ?_⟩
      rw [cond_false, i2 x]
      simp only [List.map_cons, List.mem_cons]
      constructor
      · rintro (a | ⟨a, b⟩)
        · exact .inl a
        · exact .inr ⟨a, .inr b⟩
      · rintro (a | ⟨a, b | b⟩)
        · exact .inl a
        · rw [b, hr] at a; cases a
        · exact .inr ⟨a, b⟩
    · obtain ⟨j1, j2⟩ := insK_asc h v.1
      obtain ⟨i1, i2⟩ := keysS_asc r l (insK out v.1) j1
      refine ⟨i1, fun x => ?_⟩
      rw [cond_true, i2 x, j2 x]
      simp only [List.map_cons, List.mem_cons]
      constructor
      · rintro ((a | a) | ⟨a, b⟩)
        · exact .inr ⟨by rw [a]; exact hr, .inl a⟩
        · exact .inl a
        · exact .inr ⟨a, .inr b⟩
      · rintro (a | ⟨a, b | b⟩)
        · exact .inl (.inr a)
        · exact .inl (.inl b)
        · exact .inr ⟨a, b⟩

def keysI (l : List tVersion.D) : List ByteArray := dd (sortL (l.map fun v => v.1))

end
end Go.VE
