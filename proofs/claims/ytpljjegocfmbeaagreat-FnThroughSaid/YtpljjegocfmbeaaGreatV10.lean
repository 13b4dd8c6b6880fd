/- Sources of cells; 'append'. -/
import Derived.Test.YtpljjegocfmbeaaGreatV9
namespace Go.VE
set_option linter.unusedVariables false
set_option linter.unusedSimpArgs false

section
variable {X : Nat → Prop} {μ : List Slot} {s : St} {h : Heap} {I : Nat → Prop}

theorem seg_of_seg {l : List Value} {o n sz i : Nat} (hi : i < n) : (((l.drop o).take (n * sz)).drop (i * sz)).take sz = (l.drop (o + i * sz)).take sz := by
  have : (i + 1) * sz ≤ n * sz := Nat.mul_le_mul_right _ (by omega)
  rw [Nat.add_mul] at this
  apply List.ext_getElem?
  intro q
  rw [List.getElem?_take, List.getElem?_take]
  split
  · rw [List.getElem?_drop, List.getElem?_take, if_pos (by omega), List.getElem?_drop, List.getElem?_drop]
    congr 1; omega
  · rfl

/-- A slice that is read: its cells, in one piece. -/
theorem slice_cells {e : Ty} {v : Value} {xs : List e.D} (hr : Rep h I (.slice e) [v] xs) :
    ∃ a cap, v = .slice a xs.length cap ∧ xs.length ≤ cap ∧ (xs = [] ∨ ∃ b o c el fr, a = some ⟨b, o, none⟩ ∧ I b ∧ h[b]? = some (.cells c el fr) ∧ o + xs.length * e.size ≤ c.size ∧
      ∀ i (hi : i < xs.length), Rep h I e ((c.toList.drop (o + i * e.size)).take e.size) xs[i]) := by
  obtain ⟨a, cap, hv, hcap, hx⟩ := hr
  cases hv
  refine ⟨a, cap, rfl, hcap, ?_⟩
  rcases hx with hx | ⟨b, o, ha, hb, hi⟩
  · exact .inl hx
  · by_cases hx : xs = []
    · exact .inl hx
    right
    have hpos : 0 < xs.length := List.length_pos_iff.2 hx
    obtain ⟨ec0, ⟨c, el, fr, hc, _⟩, _⟩ := hi 0 hpos
    have hseg : ∀ i (hlt : i < xs.length), o + i * e.size + e.size ≤ c.size ∧ Rep h I e ((c.toList.drop (o + i * e.size)).take e.size) xs[i] := by
      intro i hlt
      obtain ⟨ec, ⟨c', el', fr', hc', hj⟩, hrep⟩ := hi i hlt
      rw [hc] at hc'; cases hc'
      have hl := Rep.length _ _ _ hrep
      have hsz : o + i * e.size + e.size ≤ c.size := by
        have hp := e.size_pos
        have := hj (e.size - 1) _ (List.getElem?_eq_getElem (by omega))
        have := (Array.getElem?_eq_some_iff.1 this).1
        omega
      refine ⟨hsz, ?_⟩
      have : (c.toList.drop (o + i * e.size)).take e.size = ec := by
        apply List.ext_getElem?
        intro q
        rw [List.getElem?_take]
        split
        · rename_i hq
          rw [List.getElem?_drop]
          have := hj q _ (List.getElem?_eq_getElem (by omega))
          rw [Array.getElem?_toList, this, List.getElem?_eq_getElem (by omega)]
        · rw [List.getElem?_eq_none (by omega)]
      rw [this]; exact hrep
    refine ⟨b, o, c, el, fr, ha, hb, hc, ?_, fun i hlt => (hseg i hlt).2⟩
    have := (hseg (xs.length - 1) (by omega)).1
    have e1 : (xs.length - 1 + 1) * e.size = xs.length * e.size := by congr 1; omega
    rw [Nat.add_mul] at e1
    omega

/-- What 'append' reads of its source. -/
def Src (P : Program) (h : Heap) (I : Nat → Prop) (e : Ty) (ys : List e.D) (v : Value) : Prop :=
  (∀ w : World, (Builtin.lenOf v).run P w = .ok ys.length w) ∧ ∃ cs : List Value, (∀ w : World, w.heap = h → (Builtin.firstCells e.size ys.length v).run P w = .ok cs.toArray w) ∧ cs.length = ys.length * e.size ∧
    (∀ u ∈ cs, u.oneCell' = true) ∧ ∀ i (hi : i < ys.length), Rep h I e ((cs.drop (i * e.size)).take e.size) ys[i]

theorem one_of_segs {e : Ty} {ys : List e.D} {cs : List Value} (hl : cs.length = ys.length * e.size) (hs : ∀ i (hi : i < ys.length), Rep h I e ((cs.drop (i * e.size)).take e.size) ys[i]) :
    ∀ u ∈ cs, u.oneCell' = true := by
  intro u hu
  obtain ⟨p, hp, rfl⟩ := List.getElem_of_mem hu
  have hpos := e.size_pos
  have hi : p / e.size < ys.length := by
    rw [Nat.div_lt_iff_lt_mul hpos]; omega
  refine Rep.one _ _ _ (hs (p / e.size) hi) _ ?_
  refine List.mem_of_getElem? (i := p % e.size) ?_
  rw [List.getElem?_take, if_pos (Nat.mod_lt _ hpos), List.getElem?_drop]
  have : p / e.size * e.size + p % e.size = p := by rw [Nat.mul_comm]; exact Nat.div_add_mod _ _
  rw [this, List.getElem?_eq_getElem hp]

theorem src_of_rep {P : Program} {e : Ty} {ys : List e.D} {v : Value} (hr : Rep h I (.slice e) [v] ys) : Src P h I e ys v := by
  obtain ⟨a, cap, rfl, hcap, hx⟩ := slice_cells hr
  refine ⟨fun _ => rfl, ?_⟩
  rcases hx with hx | ⟨b, o, c, el, fr, rfl, hb, hc, hsz, hseg⟩
  · subst hx
    refine ⟨[], fun w _ => ?_, by simp, by simp, fun i hi => absurd hi (Nat.not_lt_zero _)⟩
    cases a with
    | none => rfl
    | some a => simp [Builtin.firstCells, loadCells, loadCellsFrom]
  · have hlen : ((c.toList.drop o).take (ys.length * e.size)).length = ys.length * e.size := by simp; omega
    have hs : ∀ i (hi : i < ys.length), Rep h I e ((((c.toList.drop o).take (ys.length * e.size)).drop (i * e.size)).take e.size) ys[i] := by
      intro i hi
      rw [seg_of_seg hi]
      exact hseg i hi
    refine ⟨_, fun w hw => ?_, hlen, one_of_segs hlen hs, hs⟩
    have := run_loadCells_at (P := P) (w := w) (vs := (c.toList.drop o).take (ys.length * e.size)) (o := o) (hw ▸ hc) (by
      intro j u hj
      have := seg_get _ _ _ _ _ hj
      rwa [Array.getElem?_toList] at this)
    rw [hlen] at this
    exact this

theorem src_of_arr {P : Program} {e : Ty} {ys : List e.D} {v : Value} {sl : Slot} (hreg : RegOk h I μ s sl (.arr e ys))
    (hv : ∃ a, v = .slice a ys.length sl.cap ∧ (sl.cap = 0 ∨ ∃ k, sl.blk = some k ∧ a = some ⟨k, 0, none⟩)) : Src P h I e ys v := by
  obtain ⟨a, rfl, ha⟩ := hv
  refine ⟨fun _ => rfl, ?_⟩
  have hnil : ys = [] → ∃ cs : List Value, (∀ w : World, w.heap = h → (Builtin.firstCells e.size ys.length (.slice a ys.length sl.cap)).run P w = .ok cs.toArray w) ∧ cs.length = ys.length * e.size ∧
    (∀ u ∈ cs, u.oneCell' = true) ∧ ∀ i (hi : i < ys.length), Rep h I e ((cs.drop (i * e.size)).take e.size) ys[i] := by
    intro hx
    subst hx
    refine ⟨[], fun w _ => ?_, by simp, by simp, fun i hi => absurd hi (Nat.not_lt_zero _)⟩
    cases a with
    | none => rfl
    | some a => simp [Builtin.firstCells, loadCells, loadCellsFrom]
  rcases hreg with ⟨_, _, h0⟩ | ⟨k, c, el, fr, hk, hc, hf, h1, h2, h3⟩
  · exact hnil h0
  · rcases ha with ha | ⟨k', hk', ha⟩
    · refine hnil ?_
      have : ys.length = 0 := by omega
      simpa using this
    · rw [hk] at hk'; cases hk'
      subst ha
      have hsz : ys.length * e.size ≤ c.size := by rw [h1]; exact Nat.mul_le_mul_right _ h2
      have hlen : (c.toList.take (ys.length * e.size)).length = ys.length * e.size := by simp; omega
      have hs : ∀ i (hi : i < ys.length), Rep h I e (((c.toList.take (ys.length * e.size)).drop (i * e.size)).take e.size) ys[i] := by
        intro i hi
        have := seg_of_seg (l := c.toList) (o := 0) (sz := e.size) hi
        simp only [List.drop_zero, Nat.zero_add] at this
        rw [this]
        exact h3 i hi
      refine ⟨_, fun w hw => ?_, hlen, one_of_segs hlen hs, hs⟩
      have := run_loadCells_at (P := P) (w := w) (vs := c.toList.take (ys.length * e.size)) (o := 0) (hw ▸ hc) (by
        intro j u hj
        rw [List.getElem?_take] at hj
        split at hj
        · rw [Nat.zero_add, ← Array.getElem?_toList]; exact hj
        · cases hj)
      rw [hlen] at this
      exact this

theorem src_of_win {P : Program} {e : Ty} {xs : List e.D} {v : Value} {sl : Slot} {lo : Nat} (hreg : RegOk h I μ s sl (.arr e xs))
    (hv : lo ≤ xs.length ∧ ∃ a, v = .slice a (xs.length - lo) (sl.cap - lo) ∧ (xs.length = lo ∨ ∃ k, sl.blk = some k ∧ a = some ⟨k, lo * e.size, none⟩)) : Src P h I e (xs.drop lo) v := by
  obtain ⟨hlo, a, rfl, ha⟩ := hv
  have hl : (xs.drop lo).length = xs.length - lo := List.length_drop
  refine ⟨fun _ => by rw [hl]; rfl, ?_⟩
  have hnil : xs.length = lo → ∃ cs : List Value, (∀ w : World, w.heap = h → (Builtin.firstCells e.size (xs.drop lo).length (.slice a (xs.length - lo) (sl.cap - lo))).run P w = .ok cs.toArray w) ∧ cs.length = (xs.drop lo).length * e.size ∧
    (∀ u ∈ cs, u.oneCell' = true) ∧ ∀ i (hi : i < (xs.drop lo).length), Rep h I e ((cs.drop (i * e.size)).take e.size) (xs.drop lo)[i] := by
    intro hx
    have h0 : (xs.drop lo).length = 0 := by omega
    refine ⟨[], fun w _ => ?_, by rw [h0]; simp, by simp, fun i hi => by omega⟩
    rw [h0]
    cases a with
    | none => simp [Builtin.firstCells]
    | some a => simp [Builtin.firstCells, loadCells, loadCellsFrom]
  rcases ha with ha | ⟨k', hk', ha⟩
  · exact hnil ha
  rcases hreg with ⟨h0, _, _⟩ | ⟨k, c, el, fr, hk, hc, hf, h1, h2, h3⟩
  · rw [h0] at hk'; cases hk'
  · have hkk : k' = k := by rw [hk] at hk'; exact (Option.some.inj hk').symm
    subst hkk
    subst ha
    have hsz : lo * e.size + (xs.length - lo) * e.size ≤ c.size := by
      rw [h1, ← Nat.add_mul]; exact Nat.mul_le_mul_right _ (by omega)
    have hlen : ((c.toList.drop (lo * e.size)).take ((xs.length - lo) * e.size)).length = (xs.length - lo) * e.size := by simp; omega
    have hs : ∀ i (hi : i < (xs.drop lo).length), Rep h I e ((((c.toList.drop (lo * e.size)).take ((xs.length - lo) * e.size)).drop (i * e.size)).take e.size) (xs.drop lo)[i] := by
      intro i hi
      rw [hl] at hi
      rw [seg_of_seg (l := c.toList) (o := lo * e.size) (sz := e.size) hi, ← Nat.add_mul]
      have := h3 (lo + i) (by omega)
      simpa using this
    refine ⟨_, fun w hw => ?_, by rw [hlen, hl], one_of_segs (ys := xs.drop lo) (by rw [hlen, hl]) hs, hs⟩
    have := run_loadCells_at (P := P) (w := w) (vs := (c.toList.drop (lo * e.size)).take ((xs.length - lo) * e.size)) (o := lo * e.size) (hw ▸ hc) (by
      intro j u hj
      have := seg_get _ _ _ _ _ hj
      rwa [Array.getElem?_toList] at this)
    rw [hlen] at this
    rw [hl]
    exact this

theorem intsOf_length (t : ByteArray) : (intsOf t).length = t.size := by
  unfold intsOf
  rw [List.length_map]
  exact Array.length_toList

theorem bytes_src {P : Program} (t : ByteArray) : Src P h I (.int .u8) (intsOf t) (.string t) := by
  refine ⟨fun w => by rw [intsOf_length]; rfl, (intsOf t).map (Value.int .u8), fun w _ => ?_, by rw [List.length_map]; simp [Ty.size], ?_, ?_⟩
  · have e1 : t.extract 0 (intsOf t).length = t := by rw [intsOf_length]; exact ByteArray.extract_zero_size
    show Result.ok ((t.extract 0 (intsOf t).length).data.map fun b => Value.int .u8 b.toNat) w = _
    rw [e1]
    congr 1
    apply Array.ext'
    rw [Array.toList_map]
    unfold intsOf
    rw [List.map_map]
    rfl
  · intro u hu
    obtain ⟨n, _, rfl⟩ := List.mem_map.1 hu
    rfl
  · intro i hi
    have e1 : (Ty.int .u8).size = 1 := rfl
    rw [e1, Nat.mul_one]
    show _ = [_]
    rw [List.drop_eq_getElem_cons (by simpa using hi), List.take_succ_cons, List.take_zero, List.getElem_map]

theorem srcOf_src {P : Program} (inv : Inv X h μ s) {e : Ty} {a : AV} {ys : List e.D} {v : Value} (hs : srcOf s e a = some ys)
    (hv : RV h (Im X h μ s) μ s a v) : Src P h (Im X h μ s) e ys v := by
  have key : sliceOf s e a = some ys → Src P h (Im X h μ s) e ys v := by
    intro hs
    unfold sliceOf at hs
    split at hs
    · rename_i e' xs
      split at hs
      · rename_i he
        subst he
        simp only [castL, Option.some.injEq] at hs
        subst hs
        simp only [RV] at hv
        exact src_of_rep hv
      · cases hs
    · cases hs
      simp only [RV] at hv
      obtain ⟨a, rfl⟩ := hv
      exact src_of_rep ⟨a, 0, rfl, Nat.le_refl _, .inl rfl⟩
    · rename_i r _
      simp only [RV] at hv
      obtain ⟨sl, h1, h2⟩ := hv
      have hreg := inv.reg r sl h1
      cases hg : getR s r with
      | box cs => rw [hg] at hs; cases hs
      | gone => rw [hg] at hs; cases hs
      | arr e' xs =>
        rw [hg] at hs h2 hreg
        simp only at hs
        split at hs
        · rename_i he
          subst he
          simp only [castL, Option.some.injEq] at hs
          subst hs
          exact src_of_arr hreg h2
        · cases hs
      | frz e' xs =>
        rw [hg] at hs h2
        simp only at hs
        split at hs
        · rename_i he
          subst he
          simp only [castL, Option.some.injEq] at hs
          subst hs
          exact src_of_rep h2
        · cases hs
    · rename_i r lo _
      simp only [RV] at hv
      obtain ⟨sl, h1, h2⟩ := hv
      have hreg := inv.reg r sl h1
      cases hg : getR s r with
      | arr e' xs =>
        rw [hg] at hs h2 hreg
        simp only at hs
        split at hs
        · rename_i he
          subst he
          simp only [castL, Option.some.injEq] at hs
          subst hs
          exact src_of_win hreg h2
        · cases hs
      | box cs => rw [hg] at hs; cases hs
      | gone => rw [hg] at hs; cases hs
      | frz _ _ => rw [hg] at hs; cases hs
    · cases hs
  unfold srcOf at hs
  split at hs
  · rename_i t
    split at hs
    · rename_i he
      subst he
      simp only [castL, Option.some.injEq] at hs
      subst hs
      simp only [RV] at hv
      subst hv
      exact bytes_src t
    · cases hs
  · exact key hs

/-! ### append -/

theorem segs_append {e : Ty} {xs ys : List e.D} {cs ds : List Value} (hc : cs.length = xs.length * e.size)
    (hx : ∀ i (hi : i < xs.length), Rep h I e ((cs.drop (i * e.size)).take e.size) xs[i])
    (hy : ∀ i (hi : i < ys.length), Rep h I e ((ds.drop (i * e.size)).take e.size) ys[i]) :
    ∀ i (hi : i < (xs ++ ys).length), Rep h I e (((cs ++ ds).drop (i * e.size)).take e.size) (xs ++ ys)[i] := by
  intro i hi
  by_cases hlt : i < xs.length
  · rw [List.getElem_append_left hlt]
    have : (i + 1) * e.size ≤ xs.length * e.size := Nat.mul_le_mul_right _ hlt
    rw [Nat.add_mul] at this
    rw [List.drop_append_of_le_length (by omega), List.take_append_of_le_length (by simp; omega)]
    exact hx i hlt
  · rw [List.getElem_append_right (by omega)]
    have hge : xs.length ≤ i := by omega
    have e1 : i * e.size = cs.length + (i - xs.length) * e.size := by
      rw [hc, ← Nat.add_mul]; congr 1; omega
    rw [e1, List.drop_append]
    have : (cs.drop (cs.length + (i - xs.length) * e.size)) = [] := List.drop_eq_nil_of_le (by omega)
    rw [this, List.nil_append]
    rw [show cs.length + (i - xs.length) * e.size - cs.length = (i - xs.length) * e.size by omega]
    exact hy _ _

theorem segs_prefix {e : Ty} {xs : List e.D} {cs ds : List Value} (hc : cs.length = xs.length * e.size)
    (hx : ∀ i (hi : i < xs.length), Rep h I e ((cs.drop (i * e.size)).take e.size) xs[i]) :
    ∀ i (hi : i < xs.length), Rep h I e (((cs ++ ds).drop (i * e.size)).take e.size) xs[i] := by
  intro i hi
  have := segs_append (ys := []) (ds := ds) hc hx (fun i hi => absurd hi (Nat.not_lt_zero _)) i (by simpa using hi)
  simpa using this

theorem elem_of {P : Program} {e : Ty} {t : TypeId} {ag : Bool} (ht : TyOk1 P (.slice e) t ag) (hag : ag = false) : ∃ te ag', P.underlying t = some (.slice te) ∧ TyOk P e te ag' := by
  rcases ht with ht | ⟨rfl, _⟩
  · exact ht.2.2
  · cases hag

theorem zeroCells_size (z : Array Value) (n : Nat) : (Builtin.zeroCells z n).size = n * z.size := by simp [Builtin.zeroCells]

/-- What the grown branch leaves. -/
theorem run_append_grow {P : Program} {w : World} {e : Ty} {xs ys : List e.D} {t t' : TypeId} {ty : TypeId} {te : TypeId} {ag' : Bool} {d : TypeDesc} {base : Option Addr} {cap : Nat} {v : Value}
    (hu : P.underlying t = some (.slice te)) (hte : TyOk P e te ag') (hu' : P.underlying t' = some d) (hd : ∀ k, d ≠ .int k)
    (hold : Src P w.heap I e xs (.slice base xs.length cap)) (hnew : Src P w.heap I e ys v) (hgt : cap < xs.length + ys.length) (hmax : xs.length + ys.length ≤ maxLen) :
    ∃ (nc : Nat) (C : Array Value), (Builtin.append_ #[t, t'] ty #[.slice base xs.length cap, v]).run P w =
        .ok (.slice (some ⟨w.heap.size, 0, none⟩) (xs.length + ys.length) nc) { w with heap := w.heap.push (.cells C te (0, 0)), drawn := w.drawn + 1 } ∧
      C.size = nc * e.size ∧ xs.length + ys.length ≤ nc ∧ ∀ i (hi : i < (xs ++ ys).length), Rep w.heap I e ((C.toList.drop (i * e.size)).take e.size) (xs ++ ys)[i] := by
  obtain ⟨l1, cs, f1, c1, o1, s1⟩ := hold
  obtain ⟨l2, ds, f2, c2, o2, s2⟩ := hnew
  obtain ⟨i0, hi1, hi2, hi3, hi4⟩ := hte.info
  have hcell := zval_cells (P := P) (T := e) (t := te) (ag := ag') (.inl hte)
  have hzs : (zval ag' e).cells.size = e.size := by rw [← Array.length_toList, hcell, zv_length]
  have hle : ¬ xs.length + ys.length ≤ cap := by omega
  have hfit := growslice_fits (bytes := i0.bytes) hgt (by
    unfold maxLen at hmax
    calc (xs.length + ys.length) * i0.bytes ≤ 4294967296 * 16384 := Nat.mul_le_mul hmax hi3
      _ ≤ _ := by decide)
  have hfit2 : ¬ Builtin.nextslicecap (xs.length + ys.length) cap * i0.bytes > 2 ^ 48 := by
    have e48 : (2 : Nat) ^ 48 = 281474976710656 := by decide
    rw [e48]; omega
  have hb2 : ¬ ((((xs.length + ys.length : Nat) : Int) > IntKind.i64.max) ∧ (false = true ∨ i0.bytes = 0)) := by
    rintro ⟨hb, _⟩
    have e1 : IntKind.i64.max = 9223372036854775807 := rfl
    rw [e1] at hb
    unfold maxLen at hmax
    omega
  have hti : ∀ w', (typeInfo te).run P w' = .ok i0 w' := fun w' => by simp [typeInfo, hi1]
  have hso : ∀ w', (sizeOf te).run P w' = .ok e.size w' := fun w' => run_sizeOf hte.info w'
  have hzr : ∀ w', (zeroValue te).run P w' = .ok (zval ag' e) w' := fun w' => run_zeroValue hte.info w'
  have hnz : (match d with | .int _ => true | _ => false) = false := by cases d <;> first | rfl | exact absurd rfl (hd _)
  generalize hq : (w.tape w.drawn (.appendCap (xs.length + ys.length) cap te)) % (2 ^ 63 - (xs.length + ys.length)) = q
  have f1' := f1 { w with drawn := w.drawn + 1 } rfl
  have f2' := f2 { w with drawn := w.drawn + 1 } rfl
  refine ⟨xs.length + ys.length + q, (cs ++ ds).toArray ++ Builtin.zeroCells (zval ag' e).cells q, ?_, ?_, by omega, ?_⟩
  · unfold Builtin.append_
    simp only [List.getElem?_toArray, List.getElem?_cons_zero, List.getElem?_cons_succ, Sem.run_bind, run_underlying hu, run_underlying hu', Result.andThen_ok, hso, hnz, l2, Sem.run_pure, Bool.false_eq_true, if_false, hle]
    have hb3 : ¬ ((((xs.length + ys.length : Nat) : Int) > IntKind.i64.max) ∧ (False ∨ i0.bytes = 0)) := fun ⟨a, b⟩ => hb2 ⟨a, b.imp (fun f => f.elim) id⟩
    rw [hti w, Result.andThen_ok, if_neg hb3]
    simp only [Sem.run_bind, hti, Result.andThen_ok]
    rw [if_neg hfit2]
    simp only [Sem.run_bind, run_choose, Question.forced, Bool.false_eq_true, if_false, Question.cut, Result.andThen_ok, hti, run_askRoom, f1', Bool.not_false, if_true, f2', hzr, hq,
      Nat.add_sub_cancel_left, newRow, run_newObj, Sem.run_pure]
    simp
  · simp [zeroCells_size, hzs, c1, c2, Nat.add_mul]
  · intro i hi
    rw [Array.toList_append]
    exact segs_prefix (xs := xs ++ ys) (by simp [c1, c2, Nat.add_mul]) (segs_append c1 s1 s2) i hi

end
end Go.VE
