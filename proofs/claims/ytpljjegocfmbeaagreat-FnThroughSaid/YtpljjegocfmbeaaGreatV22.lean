/- A row's arguments, opened as data. -/
import Derived.Test.YtpljjegocfmbeaaGreatV21
import Derived.Deep.Slices
import Derived.ChangeSame
import Derived.RowKit
import Derived.ChangeRing
import Derived.Below
import Derived.Carry
namespace Go.VE
set_option linter.unusedVariables false
set_option linter.unusedSimpArgs false

/-- Data in its bounds. -/
def Ty.wf : (T : Ty) → T.D → Prop
  | .int k, n => k.min ≤ n ∧ n ≤ k.max
  | .bool, _ => True
  | .str, s => s.size ≤ Go.maxLen
  | .pair a b, x => a.wf x.1 ∧ b.wf x.2
  | .slice e, xs => xs.length ≤ Go.maxLen ∧ ∀ x ∈ xs, e.wf x

def layFs (P : Program) (L : TypeId → Ty → Bool) : List Field → Nat → Ty → Bool
  | [], _, _ => false
  | f :: fs, off, T => match fs with
    | [] => (f.offset == off) && (P.cellsOf f.type == T.size) && L f.type T
    | _ :: _ => match T with
      | .pair a b => (f.offset == off) && (P.cellsOf f.type == a.size) && L f.type a && layFs P L fs (off + a.size) b
      | _ => false

/-- The kind of a type, told field by field. -/
def lay (P : Program) : Nat → TypeId → Ty → Bool
  | 0, _, _ => false
  | n + 1, t, T => match P.underlying t with
    | some .bool => match T with | .bool => true | _ => false
    | some (.int k) => match T with | .int k' => decide (k = k') | _ => false
    | some .string => match T with | .str => true | _ => false
    | some (.slice e) => match T with | .slice E => (P.cellsOf e == E.size) && lay P n e E | _ => false
    | some (.struct fs) => (P.cellsOf t == T.size) && layFs P (lay P n) fs.toList 0 T
    | _ => false

section
variable {H : Type} {enc : TypeId × Value → H} {P : Program} {w : World} {base : Nat} {spare : Nat → Bool} {held : Bool}

/-- What is read of cells. -/
def Reads (w : World) (T : Ty) (cs : List Value) : Prop := ∃ x : T.D, Rep w.heap (fun b => b < w.heap.size) T cs x ∧ T.wf x

theorem mapM_some {α β : Type} (f : α → Option β) : ∀ (l : List α) (r : List β), l.mapM f = some r → r.length = l.length ∧ ∀ (i : Nat) (a : α), l[i]? = some a → ∃ b, f a = some b ∧ r[i]? = some b
  | [], r, h => by
    simp at h
    subst h
    exact ⟨rfl, fun i a hi => by simp at hi⟩
  | a :: l, r, h => by
    rw [List.mapM_cons] at h
    cases ha : f a with
    | none => simp [ha] at h
    | some b =>
      cases hl : l.mapM f with
      | none => simp [ha, hl] at h
      | some r' =>
        simp [ha, hl] at h
        subst h
        obtain ⟨h1, h2⟩ := mapM_some f l r' hl
        refine ⟨by simp [h1], fun i a' hi => ?_⟩
        cases i with
        | zero => simp at hi; subst hi; exact ⟨b, ha, by simp⟩
        | succ i => simpa using h2 i a' (by simpa using hi)

theorem reads_fields {L : TypeId → Ty → Bool} {n : Nat} (hL : ∀ t T cs x, L t T = true → DataW.trod enc P w base spare held n t cs = some x → Reads w T cs) (cs : List Value) :
    ∀ (fs : List Field) (off : Nat) (T : Ty), layFs P L fs off T = true → (∀ f ∈ fs, ∃ x, DataW.trod enc P w base spare held n f.type ((cs.drop f.offset).take (P.cellsOf f.type)) = some x) →
      Reads w T ((cs.drop off).take T.size)
  | [], off, T, hl, _ => by simp [layFs] at hl
  | f :: fs, off, T, hl, hm => by
    obtain ⟨y, ha⟩ := hm f (by simp)
    cases fs with
    | nil =>
      simp only [layFs, Bool.and_eq_true, beq_iff_eq] at hl
      obtain ⟨⟨h1, h2⟩, h3⟩ := hl
      have := hL _ _ _ _ h3 ha
      rwa [h1, h2] at this
    | cons f' fs' =>
      cases T with
      | pair a b =>
        simp only [layFs, Bool.and_eq_true, beq_iff_eq] at hl
        obtain ⟨⟨⟨h1, h2⟩, h3⟩, h4⟩ := hl
        have k1 := hL _ _ _ _ h3 ha
        rw [h1, h2] at k1
        have k2 := reads_fields hL cs (f' :: fs') (off + a.size) b h4 (fun g hg => hm g (List.mem_cons_of_mem _ hg))
        obtain ⟨x, q1, q2⟩ := k1
        obtain ⟨y', q3, q4⟩ := k2
        refine ⟨(x, y'), ⟨_, _, ?_, q1, q3⟩, q2, q4⟩
        simp only [Ty.size]
        rw [List.take_add, List.drop_drop]
      | _ => simp [layFs] at hl

theorem list_choice {α : Type} {R : Nat → α → Prop} : ∀ (n : Nat), (∀ i, i < n → ∃ x, R i x) → ∃ xs : List α, xs.length = n ∧ ∀ i (hi : i < xs.length), R i xs[i]
  | 0, _ => ⟨[], rfl, fun i hi => by simp at hi⟩
  | n + 1, h => by
    obtain ⟨xs, h1, h2⟩ := list_choice n fun i hi => h i (by omega)
    obtain ⟨x, hx⟩ := h n (by omega)
    refine ⟨xs ++ [x], by simp [h1], fun i hi => ?_⟩
    rcases Nat.lt_or_ge i xs.length with hlt | hge
    · rw [List.getElem_append_left hlt]; exact h2 i hlt
    · have : i = xs.length := by simp at hi; omega
      subst this
      simp only [List.getElem_append_right (Nat.le_refl _), Nat.sub_self, List.getElem_cons_zero]
      rw [h1]; exact hx

theorem cells_at {a : Addr} {n : Nat} {cs : List Value} (hn : 0 < n) (h : w.cells? base a n = some cs) : a.spot = none ∧ a.block < w.heap.size ∧ cs.length = n ∧ CellsAt w.heap a.block a.off cs := by
  unfold World.cells? at h
  split at h
  · obtain ⟨h1, h2⟩ := mapM_some _ _ _ h
    simp only [List.length_range] at h1
    obtain ⟨v0, h3, _⟩ := h2 0 0 (by simp [hn])
    have ha : a.add 0 = a := by simp [Addr.add]
    rw [ha] at h3
    unfold World.cell? at h3
    cases hb : w.heap[a.block]? with
    | none => simp [hb] at h3
    | some o =>
      cases o with
      | cells c el fr =>
        rw [hb] at h3
        simp only at h3
        have hspot : a.spot = none := by
          cases hs : a.spot with
          | none => rfl
          | some _ => simp [hs] at h3
        have hlt : a.block < w.heap.size := by
          rcases Nat.lt_or_ge a.block w.heap.size with h' | h'
          · exact h'
          · rw [Array.getElem?_eq_none h'] at hb; cases hb
        refine ⟨hspot, hlt, h1, c, el, fr, hb, fun j v hj => ?_⟩
        have hjn : j < n := by
          rcases Nat.lt_or_ge j cs.length with h' | h'
          · omega
          · rw [List.getElem?_eq_none h'] at hj; cases hj
        obtain ⟨v', h4, h5⟩ := h2 j j (by simp [hjn])
        rw [h5] at hj
        cases hj
        have hadd : (a.add j).block = a.block ∧ (a.add j).off = a.off + j ∧ (a.add j).spot = none := by
          unfold Addr.add
          split
          · rename_i h0; subst h0; exact ⟨rfl, rfl, hspot⟩
          · exact ⟨rfl, rfl, rfl⟩
        unfold World.cell? at h4
        rw [hadd.1, hb] at h4
        simpa [hadd.2.1, hadd.2.2] using h4
      | _ => simp [hb] at h3
  · cases h

theorem add_addr (a : Addr) (hs : a.spot = none) (n : Nat) : (a.add n).block = a.block ∧ (a.add n).off = a.off + n := by
  unfold Addr.add
  split
  · rename_i h0; subst h0; exact ⟨rfl, rfl⟩
  · exact ⟨rfl, rfl⟩

theorem trod_reads : ∀ (n : Nat) (t : TypeId) (T : Ty), lay P n t T = true → ∀ (fuel : Nat) (cs : List Value) (x : DataW H × List MemPlace), DataW.trod enc P w base spare held fuel t cs = some x → Reads w T cs
  | 0, t, T, hl, _, _, _, _ => by simp [lay] at hl
  | n + 1, t, T, hl, fuel, cs, x, h => by
    have ih := trod_reads n
    unfold lay at hl
    split at hl
    · rename_i hu
      obtain ⟨b, rfl, _⟩ := DataW.trod_bool hu h
      cases T <;> simp at hl
      exact ⟨b, rfl, trivial⟩
    · rename_i k hu
      obtain ⟨m, rfl, _, hw⟩ := DataW.trod_int hu h
      cases T <;> simp at hl
      subst hl
      simp only [Lit.wf, Bool.and_eq_true, decide_eq_true_eq] at hw
      exact ⟨(m : Int), rfl, hw⟩
    · rename_i hu
      obtain ⟨s, rfl, _, hw⟩ := DataW.trod_string hu h
      cases T <;> simp at hl
      exact ⟨s, rfl, hw⟩
    · rename_i e hu
      cases T <;> simp at hl
      rename_i E
      obtain ⟨hc, hl⟩ := hl
      rcases Go.Deep.open_slice hu h with ⟨rfl, _⟩ | ⟨a, len, cap, m, n', D, Pl, rfl, hb, hlc, hcm, hm, _, hx⟩
      · exact ⟨[], ⟨none, 0, rfl, Nat.le_refl _, .inl rfl⟩, by simp [Ty.wf]⟩
      · rw [hc] at hx
        have hlm : len ≤ m := by rw [hm]; split <;> omega
        have hel : ∀ i, i < len → ∃ (y : E.D), (a.spot = none ∧ a.block < w.heap.size ∧ ∃ ec, CellsAt w.heap a.block (a.off + i * E.size) ec ∧ Rep w.heap (fun b => b < w.heap.size) E ec y) ∧ E.wf y := by
          intro i hi
          obtain ⟨cs', h1, h2⟩ := hx i (by omega)
          obtain ⟨y, h3, h4⟩ := ih e E hl _ _ _ h2
          obtain ⟨g1, g2, g3, g4⟩ := cells_at E.size_pos h1
          have hs : a.spot = none := by
            obtain ⟨cs0, k1, _⟩ := hx 0 (by omega)
            have := (cells_at E.size_pos k1).1
            simpa [Addr.add] using this
          have ha := add_addr a hs (i * E.size)
          rw [ha.1] at g2 g4
          rw [ha.2] at g4
          exact ⟨y, ⟨hs, g2, cs', g4, h3⟩, h4⟩
        obtain ⟨xs, x1, x2⟩ := list_choice len hel
        refine ⟨xs, ⟨some a, cap, by rw [x1], by omega, ?_⟩, ?_, ?_⟩
        · cases len with
          | zero => exact .inl (by simpa using x1)
          | succ l =>
            obtain ⟨_, ⟨hs, hlt, _⟩, _⟩ := hel 0 (by omega)
            refine .inr ⟨a.block, a.off, ?_, hlt, fun i hi => ?_⟩
            · cases a; simp_all
            · obtain ⟨⟨_, _, q⟩, _⟩ := x2 i hi
              exact q
        · show xs.length ≤ Go.maxLen
          omega
        · intro y hy
          obtain ⟨i, hi, rfl⟩ := List.getElem_of_mem hy
          exact (x2 i hi).2
    · rename_i fs hu
      simp only [Bool.and_eq_true, beq_iff_eq] at hl
      obtain ⟨h1, h2⟩ := hl
      obtain ⟨xs, n', rfl, _, hlen, hxl, hf⟩ := DataW.trod_struct hu h
      have := reads_fields (fun t T cs x hL hx => ih t T hL n' cs x hx) cs fs.toList 0 T h2 (fun f hfm => by
        obtain ⟨i, hi, rfl⟩ := List.getElem_of_mem hfm
        have hi' : i < fs.size := by simpa using hi
        have e1 : fs[i]? = some fs.toList[i] := by simp [hi']
        have e2 := hf i _ e1
        rw [List.getElem?_eq_getElem (by omega)] at e2
        exact ⟨_, e2⟩)
      have e : ((cs.drop 0).take T.size) = cs := by rw [List.drop_zero, List.take_of_length_le (by omega)]
      rwa [e] at this
    · cases hl

/-- An argument, as data. -/
theorem arg_rv {n : Nat} {t : TypeId} {T : Ty} {ag : Bool} (hl : lay P n t T = true) (hag : ag = (match P.underlying t with | some (.struct _) => true | _ => false)) {v : Value} {d : DataW H} {ps : List MemPlace} {b0 : Nat}
    (hok : Value.okWide P w .any b0 t v) (h : DataW.Trod enc P w base spare held t v d ps) : ∃ x : T.D, T.wf x ∧ ∀ μ s, RV w.heap (fun b => b < w.heap.size) μ s (T.toAV ag x) v := by
  obtain ⟨fuel, h⟩ := h
  obtain ⟨x, h1, h2⟩ := trod_reads n t T hl fuel _ _ h
  refine ⟨x, h2, fun μ s => ?_⟩
  have hc := cells_rv (μ := μ) (s := s) T x _ h1
  cases n with
  | zero => simp [lay] at hl
  | succ n =>
    unfold lay at hl
    split at hl
    · rename_i hu
      rw [hu] at hag
      obtain ⟨b, rfl⟩ := Go.WideShapes.okWide_bool hu hok
      cases T <;> simp at hl
      subst hag
      simp only [Value.cells, Ty.cells, RVs] at hc
      obtain ⟨u, r, e, h3, _⟩ := hc
      cases e
      simpa [Ty.toAV, Ty.cells] using h3
    · rename_i k hu
      rw [hu] at hag
      obtain ⟨m, rfl⟩ := Go.WideShapes.okWide_int hu hok
      cases T <;> simp at hl
      subst hag
      simp only [Value.cells, Ty.cells, RVs] at hc
      obtain ⟨u, r, e, h3, _⟩ := hc
      cases e
      simpa [Ty.toAV, Ty.cells] using h3
    · rename_i hu
      rw [hu] at hag
      obtain ⟨s', rfl⟩ := Go.WideShapes.okWide_string hu hok
      cases T <;> simp at hl
      subst hag
      simp only [Value.cells, Ty.cells, RVs] at hc
      obtain ⟨u, r, e, h3, _⟩ := hc
      cases e
      simpa [Ty.toAV, Ty.cells] using h3
    · rename_i e hu
      rw [hu] at hag
      obtain ⟨a, len, cap, rfl⟩ := Go.WideShapes.okWide_slice hu hok
      cases T <;> simp at hl
      subst hag
      simp only [Value.cells, Ty.cells, RVs] at hc
      obtain ⟨u, r, e', h3, _⟩ := hc
      cases e'
      simpa [Ty.toAV, Ty.cells] using h3
    · rename_i fs hu
      rw [hu] at hag
      subst hag
      unfold Value.okWide at hok
      rw [hu] at hok
      obtain ⟨cs, rfl, _⟩ := hok
      simp only [Ty.toAV, RV]
      exact ⟨cs, rfl, by simpa [Value.cells] using hc⟩
    · cases hl

/-- From a contract to a call at the heap as it stands. -/
theorem row_call {f : FuncId} {g : List AV → St → K1 → Option Res} (hC : Contract P f g) {args : List AV} {s' : St} {v : AV} (hg : g args [] (fun v s => some ⟨.ret, [v], s⟩) = some ⟨.ret, [v], s'⟩)
    {W : World} {cargs : List Value} (hargs : RVs W.heap (fun b => b < W.heap.size) [] [] args cargs) :
    Calls P f cargs.toArray W fun e W' => (∃ cv, e = .returned cv ∧ (∃ μ' X, RV W'.heap (Im X W'.heap μ' s') μ' s' v cv)) ∧ Go.RowKit.Below W.heap.size W W' := by
  obtain ⟨v', s1, h1, h2⟩ := hC _ _ _ _ hg
  simp only [Option.some.injEq, Res.mk.injEq, true_and, List.cons.injEq, and_true] at h1
  obtain ⟨rfl, rfl⟩ := h1
  have hfree : ∀ b, Free [] [] b := fun b r sl hr => by simp at hr
  have hI : ∀ b, b < W.heap.size → Im (fun _ => False) W.heap [] [] b := fun b hb => ⟨hb, fun h => h, hfree b⟩
  have inv : Inv (fun _ => False) W.heap [] [] := ⟨rfl, fun r sl hr => by simp at hr, fun r r' sl sl' b _ hr => by simp at hr, fun r sl b hr => by simp at hr, fun b hb => hb.elim⟩
  refine (h2 (fun _ => False) [] W cargs inv (RVs.monoI hI _ _ hargs)).mono ?_
  rintro e W' ⟨cv, μ', rfl, i1, v1, x1, c1⟩
  exact ⟨⟨cv, rfl, μ', _, v1⟩, ⟨c1.1, c1.2.1, c1.2.2, x1.size, fun b hb => x1.same b hb (hfree b)⟩⟩

end
end Go.VE
