/- slices.Insert at structs: what its roads have in common. -/
import Derived.Test.YtpljjegocfmbeaaGreatX9
import Derived.Shelf.Spec.SlicesInsertGrow
namespace Go.VE
open Go.Shelf Go.RowKit Go.Lib Go.Proofs
set_option linter.unusedVariables false
set_option linter.unusedSimpArgs false

/-- What a program lays of slices.Insert at a struct of z cells. -/
structure InsLay (P : Program) (ρ : Ren) (z : Nat) (zv : Value) (B : Nat) : Prop where
  mixed : P.follows .mixedOrders = true
  f22 : ∃ nm, P.funcs[ρ.f 22]? = some { Body2.n22 ρ with name := nm }
  ov : ∀ args w, (callFunc (ρ.f 29) args).run P w = ((Extern.SlicesOverlaps.overlaps #[ρ.t 24, ρ.t 24] #[ρ.t 4] args).run P w).andThen fun v w' => .ok (.value v) w'
  t0 : P.underlying (ρ.t 0) = some (TypeDesc.tuple #[])
  a0 : ∀ w, (isAgg (ρ.t 0)).run P w = .ok false w
  z0 : ∀ w, (Go.sizeOf (ρ.t 0)).run P w = .ok 1 w
  v0 : ∀ w, (zeroValue (ρ.t 0)).run P w = .ok (Value.tuple #[]) w
  t3 : P.underlying (ρ.t 3) = some (TypeDesc.int IntKind.i64)
  a3 : ∀ w, (isAgg (ρ.t 3)).run P w = .ok false w
  z3 : ∀ w, (Go.sizeOf (ρ.t 3)).run P w = .ok 1 w
  v3 : ∀ w, (zeroValue (ρ.t 3)).run P w = .ok (Value.int IntKind.i64 0) w
  t4 : P.underlying (ρ.t 4) = some (TypeDesc.bool)
  a4 : ∀ w, (isAgg (ρ.t 4)).run P w = .ok false w
  z4 : ∀ w, (Go.sizeOf (ρ.t 4)).run P w = .ok 1 w
  v4 : ∀ w, (zeroValue (ρ.t 4)).run P w = .ok (Value.bool false) w
  a9 : ∀ w, (isAgg (ρ.t 9)).run P w = .ok true w
  z9 : ∀ w, (Go.sizeOf (ρ.t 9)).run P w = .ok z w
  v9 : ∀ w, (zeroValue (ρ.t 9)).run P w = .ok zv w
  t24 : P.underlying (ρ.t 24) = some (TypeDesc.slice (ρ.t 9))
  a24 : ∀ w, (isAgg (ρ.t 24)).run P w = .ok false w
  z24 : ∀ w, (Go.sizeOf (ρ.t 24)).run P w = .ok 1 w
  v24 : ∀ w, (zeroValue (ρ.t 24)).run P w = .ok (Value.slice none 0 0) w
  i9 : (P.info? (ρ.t 9)).map (fun i => (i.zero, i.size, i.bytes)) = some (some zv, z, B)

theorem run_copy_z {P : Program} (w : World) (dT sT ty elem : TypeId) (b o dLen dCap : Nat) (a : Addr) (sLen sCap z : Nat) (cs : List Value)
    (hu : P.underlying dT = some (.slice elem)) (hs : (P.info? elem).map (·.size) = some z) (n : Nat) (hn : n = Nat.min sLen dLen) (hl : cs.length = n * z)
    (hsrc : ∀ j v, cs[j]? = some v → w.cell? (a.add j) = some v) (hc : ∀ j, j < cs.length → (w.cell? ⟨b, o + j, none⟩).isSome = true) (hf : ∀ j, j < cs.length → w.frozen? ⟨b, o + j, none⟩ = false) (h1 : ∀ v ∈ cs, v.oneCell' = true) :
    (Builtin.copy_ #[dT, sT] ty #[.slice (some ⟨b, o, none⟩) dLen dCap, .slice (some a) sLen sCap]).run P w = .ok (goInt n) (w.setCells b o cs) := by
  have hl' := run_loadCells_list (P := P) w a cs hsrc
  rw [hl] at hl'
  have hst := run_storeCells_cells (P := P) b o cs 0 w (by simpa using hc) (by simpa using hf) h1
  cases hq : P.info? elem with
  | none => simp [hq] at hs
  | some i =>
    have hi : i.size = z := by simpa [hq] using hs
    simp [Builtin.copy_, run_underlying hu, Builtin.lenOf, Builtin.firstCells, sizeOf, typeInfo, hq, hi, ← hn, hl', hst]


/-- What a caller hands over, and what comes back. -/
def inS (e : Ty) : Sh := ⟨[.own 0, .i, .own 1], [.arr false e, .arr false e]⟩
def inO (e : Ty) : Sh := ⟨[.own 2], [.gone, .arr false e, .arr false e]⟩
noncomputable def insG (e : Ty) (n : FN (Int × List e.D × List e.D) (List e.D × List e.D)) : List AV → St → K1 → Option Res := fun args st k =>
  match (inS e).dec args st with
  | some (c, x) => n.f (catV (inS e).c (inS e).x c x) (outK [inO e] k)
  | none => none

theorem segsR_append {α : Type} {sz : Nat} {R : List Value → α → Prop} {xs ys : List α} {cs ds : List Value} (hc : cs.length = xs.length * sz)
    (hx : ∀ i (hi : i < xs.length), R ((cs.drop (i * sz)).take sz) xs[i])
    (hy : ∀ i (hi : i < ys.length), R ((ds.drop (i * sz)).take sz) ys[i]) :
    ∀ i (hi : i < (xs ++ ys).length), R (((cs ++ ds).drop (i * sz)).take sz) (xs ++ ys)[i] := by
  intro i hi
  by_cases hlt : i < xs.length
  · rw [List.getElem_append_left hlt]
    have : (i + 1) * sz ≤ xs.length * sz := Nat.mul_le_mul_right _ hlt
    rw [Nat.add_mul] at this
    rw [List.drop_append_of_le_length (by omega), List.take_append_of_le_length (by simp; omega)]
    exact hx i hlt
  · rw [List.getElem_append_right (by omega)]
    have hge : xs.length ≤ i := by omega
    have e1 : i * sz = cs.length + (i - xs.length) * sz := by
      rw [hc, ← Nat.add_mul]; congr 1; omega
    rw [e1, List.drop_append]
    have : (cs.drop (cs.length + (i - xs.length) * sz)) = [] := List.drop_eq_nil_of_le (by omega)
    rw [this, List.nil_append]
    rw [show cs.length + (i - xs.length) * sz - cs.length = (i - xs.length) * sz by omega]
    exact hy _ _

theorem segsR_prefix {α : Type} {sz : Nat} {R : List Value → α → Prop} {xs : List α} {cs ds : List Value} (hc : cs.length = xs.length * sz)
    (hx : ∀ i (hi : i < xs.length), R ((cs.drop (i * sz)).take sz) xs[i]) :
    ∀ i (hi : i < xs.length), R (((cs ++ ds).drop (i * sz)).take sz) xs[i] := by
  intro i hi
  have := segsR_append (R := R) (ys := []) (ds := ds) hc hx (fun i hi => absurd hi (Nat.not_lt_zero _)) i (by simpa using hi)
  simpa using this

def ArrOk (h : Heap) (I : Nat → Prop) (sl : Slot) (e : Ty) (xs : List e.D) : Prop :=
  (sl.blk = none ∧ sl.cap = 0 ∧ xs = []) ∨ ∃ k c el fr, sl.blk = some k ∧ h[k]? = some (.cells c el fr) ∧ NoFrz c fr ∧
    c.size = sl.cap * e.size ∧ xs.length ≤ sl.cap ∧ ∀ i (hi : i < xs.length), Rep h I e ((c.toList.drop (i * e.size)).take e.size) xs[i]

theorem ins_done {X : Nat → Prop} {w w' : World} {μ : List Slot} {e : Ty} {xs ys : List e.D} (inv : Inv X w.heap μ [.arr e xs, .arr e ys]) {sl : Slot} (hsl : μ[0]? = some sl) (zs : List e.D) (k cap n : Nat)
    (hk : sl.blk = some k ∨ k = w.heap.size) (C : Array Value) (el : TypeId) (fr : Nat × Nat) (hsz : w.heap.size ≤ w'.heap.size) (hoth : ∀ b, b < w.heap.size → b ≠ k → w'.heap[b]? = w.heap[b]?)
    (hkk : w'.heap[k]? = some (.cells C el fr)) (hn : NoFrz C fr) (hC : C.size = cap * e.size) (hcap : zs.length ≤ cap)
    (hseg : ∀ i (hi : i < zs.length), Rep w.heap (Im X w.heap μ [.arr e xs, .arr e ys]) e ((C.toList.drop (i * e.size)).take e.size) zs[i]) (hcalm : Calm w w') (hl : zs.length = n) :
    Post X w μ [.arr e xs, .arr e ys] (.own 2) [.gone, .arr e ys, .arr e zs] (.returned (.slice (some ⟨k, 0, none⟩) n cap)) w' := by
  subst hl
  obtain ⟨i1, e1⟩ := move_step inv 0 sl { blk := some k, cap := cap } k (.arr e zs) w'.heap C el fr hsl ⟨_, _, rfl⟩ rfl hk hsz hoth hkk hn ⟨hC, hcap, hseg⟩
  have hlen : μ.length = 2 := inv.len
  refine ⟨_, _, rfl, i1, ?_, e1, hcalm⟩
  simp only [RV]
  refine ⟨{ blk := some k, cap := cap }, ?_, ?_⟩
  · rw [List.getElem?_append_right (by omega), hlen]; rfl
  · exact ⟨_, rfl, .inr ⟨k, rfl, rfl⟩⟩

/-- The cells of an array that holds something. -/
theorem arr_cells {h : Heap} {I : Nat → Prop} {sl : Slot} {e : Ty} {xs : List e.D} (hreg : ArrOk h I sl e xs) (hne : 0 < sl.cap) :
    ∃ k c el fr, sl.blk = some k ∧ h[k]? = some (.cells c el fr) ∧ NoFrz c fr ∧ c.size = sl.cap * e.size ∧ xs.length ≤ sl.cap ∧ (c.toList.take (xs.length * e.size)).length = xs.length * e.size ∧
      (∀ v ∈ c.toList.take (xs.length * e.size), v.oneCell' = true) ∧ ∀ i (hi : i < xs.length), Rep h I e (((c.toList.take (xs.length * e.size)).drop (i * e.size)).take e.size) xs[i] := by
  rcases hreg with ⟨_, h0, _⟩ | ⟨k, c, el, fr, h1, h2, h3, h4, h5, h6⟩
  · omega
  · have hle : xs.length * e.size ≤ c.toList.length := by have := Nat.mul_le_mul_right e.size h5; rw [← h4] at this; simpa using this
    have hseg : ∀ i (hi : i < xs.length), Rep h I e (((c.toList.take (xs.length * e.size)).drop (i * e.size)).take e.size) xs[i] := by
      intro i hi
      have := seg_of_seg (l := c.toList) (o := 0) (sz := e.size) hi
      simp only [List.drop_zero, Nat.zero_add] at this
      rw [this]
      exact h6 i hi
    refine ⟨k, c, el, fr, h1, h2, h3, h4, h5, by rw [List.length_take]; omega, fun u hu => ?_, hseg⟩
    obtain ⟨p, hp, rfl⟩ := List.getElem_of_mem hu
    have hpos := e.size_pos
    have hpl : p < xs.length * e.size := by rw [List.length_take] at hp; omega
    have hi : p / e.size < xs.length := by rw [Nat.div_lt_iff_lt_mul hpos]; exact hpl
    refine Rep.one _ _ _ (hseg (p / e.size) hi) _ ?_
    refine List.mem_of_getElem? (i := p % e.size) ?_
    rw [List.getElem?_take, if_pos (Nat.mod_lt _ hpos), List.getElem?_drop]
    have : p / e.size * e.size + p % e.size = p := by rw [Nat.mul_comm]; exact Nat.div_add_mod _ _
    rw [this, List.getElem?_eq_getElem hp]

theorem cell_take {w : World} {k : Nat} {c : Array Value} {el : TypeId} {fr : Nat × Nat} (hk : w.heap[k]? = some (.cells c el fr)) (n : Nat) : ∀ j v, (c.toList.take n)[j]? = some v → w.cell? ⟨k, j, none⟩ = some v := by
  intro j v hj
  rw [List.getElem?_take] at hj
  split at hj
  · rw [cell_of hk, ← Array.getElem?_toList]; exact hj
  · cases hj

theorem seg_take {sz : Nat} {α : Type} {R : List Value → α → Prop} {xs : List α} {cs : List Value} (hc : cs.length = xs.length * sz) (hx : ∀ i (hi : i < xs.length), R ((cs.drop (i * sz)).take sz) xs[i]) (n : Nat) (hn : n ≤ xs.length) :
    (∀ i (hi : i < (xs.take n).length), R (((cs.take (n * sz)).drop (i * sz)).take sz) (xs.take n)[i]) ∧ ∀ i (hi : i < (xs.drop n).length), R (((cs.drop (n * sz)).drop (i * sz)).take sz) (xs.drop n)[i] := by
  constructor
  · intro i hi
    have hi' : i < n := by rw [List.length_take] at hi; omega
    have := seg_of_seg (l := cs) (o := 0) (sz := sz) hi'
    simp only [List.drop_zero, Nat.zero_add] at this
    rw [this, List.getElem_take]
    exact hx i (by omega)
  · intro i hi
    rw [List.length_drop] at hi
    rw [List.drop_drop, ← Nat.add_mul, List.getElem_drop]
    exact hx (n + i) (by omega)

/-- The new content, out of what the roads leave. -/
theorem ins_segs {sz : Nat} {α : Type} {R : List Value → α → Prop} {xs ys : List α} {cs vs D : List Value} (hc : cs.length = xs.length * sz) (hv : vs.length = ys.length * sz)
    (hx : ∀ i (hi : i < xs.length), R ((cs.drop (i * sz)).take sz) xs[i]) (hy : ∀ i (hi : i < ys.length), R ((vs.drop (i * sz)).take sz) ys[i]) (n : Nat) (hn : n ≤ xs.length) :
    ∀ i (hi : i < (xs.take n ++ ys ++ xs.drop n).length), R (((cs.take (n * sz) ++ vs ++ cs.drop (n * sz) ++ D).drop (i * sz)).take sz) (xs.take n ++ ys ++ xs.drop n)[i] := by
  obtain ⟨h1, h2⟩ := seg_take hc hx n hn
  have hmul : n * sz ≤ xs.length * sz := Nat.mul_le_mul_right _ hn
  have hl1 : (cs.take (n * sz)).length = (xs.take n).length * sz := by rw [List.length_take, List.length_take, Nat.min_eq_left (by omega), Nat.min_eq_left hn]
  have hl2 : (cs.take (n * sz) ++ vs).length = (xs.take n ++ ys).length * sz := by rw [List.length_append, List.length_append, hl1, hv, Nat.add_mul]
  have hl3 : (cs.drop (n * sz)).length = (xs.drop n).length * sz := by rw [List.length_drop, List.length_drop, hc, Nat.sub_mul]
  have hl4 : (cs.take (n * sz) ++ vs ++ cs.drop (n * sz)).length = (xs.take n ++ ys ++ xs.drop n).length * sz := by
    rw [List.length_append, hl2, hl3, ← Nat.add_mul, ← List.length_append]
  exact segsR_prefix hl4 (segsR_append hl2 (segsR_append hl1 h1 hy) h2)

end Go.VE
