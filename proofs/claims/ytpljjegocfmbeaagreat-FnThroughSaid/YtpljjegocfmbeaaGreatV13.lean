/- More operations: what builds, what cuts, what looks in, what reckons. -/
import Derived.Test.YtpljjegocfmbeaaGreatV12
namespace Go.VE
set_option linter.unusedVariables false
set_option linter.unusedSimpArgs false

section
variable {P : Program} {X : Nat → Prop} {μ : List Slot} {s : St} {h : Heap} {I : Nat → Prop} {wr : List Nat}

/-! ### build -/

theorem foldl_set (off : Nat) : ∀ (vs : List Value) (n : Nat) (cs : Array Value), off + n + vs.length ≤ cs.size →
    ((vs.zipIdx n).foldl (fun (cs : Array Value) (x : Value × Nat) => cs.setIfInBounds (off + x.2) x.1) cs).toList = cs.toList.take (off + n) ++ vs ++ cs.toList.drop (off + n + vs.length)
  | [], n, cs, _ => by simp
  | v :: vs, n, cs, hl => by
    simp only [List.length_cons] at hl
    simp only [List.zipIdx_cons, List.foldl_cons]
    rw [foldl_set off vs (n + 1) _ (by simp; omega), Array.toList_setIfInBounds]
    apply List.ext_getElem?
    intro p
    rw [show off + (n + 1) = off + n + 1 by omega]
    have hlen : (cs.toList.set (off + n) v).length = cs.toList.length := List.length_set
    have hl' : off + n + (vs.length + 1) ≤ cs.toList.length := by simpa using hl
    rw [get_splice (by rw [hlen]; omega), show cs.toList.take (off + n) ++ v :: vs ++ cs.toList.drop (off + n + (v :: vs).length) = cs.toList.take (off + n) ++ (v :: vs) ++ cs.toList.drop (off + n + (v :: vs).length) from rfl, get_splice (by simp only [List.length_cons]; omega)]
    simp only [List.length_cons]
    by_cases h1 : p < off + n
    · rw [if_pos (by omega), if_pos h1, List.getElem?_set_ne (by omega)]
    · rw [if_neg h1]
      by_cases h2 : p = off + n
      · subst h2
        rw [if_pos (by omega), if_pos (by omega), Nat.sub_self, List.getElem?_set_self (by omega)]; rfl
      · rw [if_neg (by omega)]
        by_cases h3 : p < off + n + 1 + vs.length
        · rw [if_pos h3, if_pos (by omega), show p - (off + n) = (p - (off + n + 1)) + 1 by omega, List.getElem?_cons_succ]
        · rw [if_neg h3, if_neg (by omega), List.getElem?_set_ne (by omega)]

theorem fill_rv {place place' : Nat → Option (Nat × Nat)} (hp : ∀ i p, place i = some p → place' i = some p) : ∀ (ps : List (Nat × AV)) (qs : List (Nat × Value)) (cs cs' : List AV) (vs : Array Value), fillA ps place cs = some cs' →
    (qs.map (·.1) = ps.map (·.1)) → RVs h I μ s (ps.map (·.2)) (qs.map (·.2)) → RVs h I μ s cs vs.toList →
    ∃ vs', Instr.fill place' vs qs = some vs' ∧ RVs h I μ s cs' vs'.toList
  | [], [], cs, cs', vs, hf, _, _, hc => by
    simp only [fillA, Option.some.injEq] at hf
    subst hf
    exact ⟨vs, rfl, hc⟩
  | [], q :: qs, cs, cs', vs, hf, hm, _, _ => by simp at hm
  | p :: ps, [], cs, cs', vs, hf, hm, _, _ => by simp at hm
  | (i, x) :: ps, (j, v) :: qs, cs, cs', vs, hf, hm, hv, hc => by
    simp only [List.map_cons, List.cons.injEq] at hm
    obtain ⟨rfl, hm⟩ := hm
    simp only [List.map_cons, RVs] at hv
    obtain ⟨u, r, e1, hu, hr⟩ := hv
    cases e1
    simp only [fillA] at hf
    split at hf
    · rename_i off n vc hpl hvc
      split at hf
      · rename_i hlen
        split at hf
        · rename_i cs1 hsp
          obtain ⟨g1, g2⟩ := cells?_rv hvc hu
          have hl1 := RVs_length _ _ g1
          rw [Array.length_toList] at hl1
          obtain ⟨k1, k2⟩ := splice_rv hsp g1 hc
          rw [Array.length_toList, Array.length_toList] at k2
          have hset := foldl_set off v.cells.toList 0 vs (by simpa using k2)
          simp only [Nat.add_zero] at hset
          have hfold : (v.cells.zipIdx.foldl (fun cs (c, j) => cs.setIfInBounds (off + j) c) vs) = (v.cells.toList.zipIdx 0).foldl (fun (cs : Array Value) (x : Value × Nat) => cs.setIfInBounds (off + x.2) x.1) vs := by
            rw [← Array.foldl_toList, Array.toList_zipIdx]
          obtain ⟨vs', f1, f2⟩ := fill_rv hp ps qs cs1 cs' _ hf hm hr (by rw [← hset] at k1; exact k1)
          refine ⟨vs', ?_, f2⟩
          simp only [Instr.fill, hp _ _ hpl]
          rw [if_neg (by simp; omega), hfold]
          exact f1
        · cases hf
      · cases hf
    · cases hf

theorem parts_rv {e : Env} {a : Act} (he : RVs h I μ s e a.tmps.toList) (ps : List (Nat × Operand)) :
    RVs h I μ s ((ps.map fun p => (p.1, ev e p.2)).map (·.2)) ((ps.map fun (i, x) => (i, a.eval x)).map (·.2)) := by
  induction ps with
  | nil => simp only [List.map_nil, RVs]
  | cons p ps ih => simp only [List.map_cons, RVs]; exact ⟨_, _, rfl, ev_rv he _, ih⟩

theorem replCells_rv (T : Ty) : ∀ n : Nat, RVs h I μ s (replCells n T.zcells) (List.replicate n T.zv).flatten
  | 0 => by simp only [replCells, RVs, List.replicate_zero, List.flatten_nil]
  | n + 1 => by
    simp only [replCells, List.replicate_succ, List.flatten_cons]
    exact RVs_append _ _ _ _ (zcells_rv T) (replCells_rv T n)

/-- The cells of n zero elements. -/
theorem zrow (T : Ty) (n : Nat) (z : Array Value) (hz : z.toList = T.zv) : ((Array.range (n * T.size)).map (z[· % z.size]!)).toList = (List.replicate n T.zv).flatten := by
  have hzs : z.size = T.size := by rw [← Array.length_toList, hz, zv_length]
  have hpos := T.size_pos
  apply List.ext_getElem?
  intro p
  have hfl : ∀ n p, (List.replicate n T.zv).flatten[p]? = if p < n * T.size then T.zv[p % T.size]? else none := by
    intro n
    induction n with
    | zero => intro p; simp
    | succ n ih =>
      intro p
      rw [List.replicate_succ, List.flatten_cons, List.getElem?_append, zv_length, ih]
      by_cases h1 : p < T.size
      · rw [if_pos h1, if_pos (by rw [Nat.add_mul]; omega), Nat.mod_eq_of_lt h1]
      · rw [if_neg h1]
        have h2 : (p - T.size) % T.size = p % T.size := by
          rw [Nat.mod_eq_sub_mod (by omega : p ≥ T.size)]
        rw [h2]
        by_cases h3 : p - T.size < n * T.size
        · rw [if_pos h3, if_pos (by rw [Nat.add_mul]; omega)]
        · rw [if_neg h3, if_neg (by rw [Nat.add_mul]; omega)]
  rw [hfl]
  simp only [Array.toList_map, Array.toList_range, List.getElem?_map]
  by_cases hp : p < n * T.size
  · rw [if_pos hp, List.getElem?_range hp]
    simp only [Option.map_some]
    have hm : p % z.size < z.size := Nat.mod_lt _ (by omega)
    rw [← hz, hzs.symm]
    rw [Array.getElem?_toList, Array.getElem?_eq_getElem hm]
    congr 1
    exact getElem!_pos z (p % z.size) hm
  · rw [if_neg hp]
    simp [List.getElem?_eq_none]
    omega

theorem elems_rep {I0 : Nat → Prop} (inv : Inv X h μ s) (hI : ∀ b, Im X h μ s b → I0 b) (e : Ty) : ∀ (n : Nat) (cs : List AV) (xs : List e.D) (vs : List Value), elems s e n cs = some xs → RVs h (Im X h μ s) μ s cs vs →
    (∀ r sl b, r ∈ ownIds cs → μ[r]? = some sl → (∃ e xs, getR s r = .arr e xs) → sl.blk = some b → I0 b) →
    xs.length = n ∧ vs.length = n * e.size ∧ ∀ i (hi : i < xs.length), Rep h I0 e ((vs.drop (i * e.size)).take e.size) xs[i]
  | 0, [], xs, vs, he, hv, _ => by
    simp only [elems, Option.some.injEq] at he
    subst he
    simp only [RVs] at hv
    subst hv
    exact ⟨rfl, by simp, fun i hi => absurd hi (Nat.not_lt_zero _)⟩
  | 0, _ :: _, xs, vs, he, hv, _ => by simp [elems] at he
  | n + 1, cs, xs, vs, he, hv, hb => by
    simp only [elems] at he
    split at he
    · rename_i x r ht
      split at he
      · rename_i ys hys
        simp only [Option.some.injEq] at he
        subst he
        obtain ⟨⟨pre, hpre⟩, v1, v2, rfl, g1, g2⟩ := take_rep inv hI e cs x r vs ht hv hb
        obtain ⟨l1, l2, l3⟩ := elems_rep inv hI e n r ys v2 hys g2 (fun q sl b hq => hb q sl b (by rw [hpre, ownIds_append]; exact List.mem_append_right _ hq))
        have hl := Rep.length _ _ _ g1
        refine ⟨by simp [l1], by rw [List.length_append, hl, l2, Nat.add_mul]; omega, ?_⟩
        intro i hi
        have := segs_append (xs := [x]) (ys := ys) (cs := v1) (ds := v2) (by simpa using hl) (by
          intro i hi
          simp at hi; subst hi
          simpa [← hl] using g1) l3 i (by simpa using hi)
        simpa using this
      · cases he
    · cases he

theorem run_mapM {α β : Type} (f : α → Sem β) (g : α → β) (w : World) : ∀ l : List α, (∀ x ∈ l, (f x).run P w = .ok (g x) w) → (l.mapM f).run P w = .ok (l.map g) w
  | [], _ => by simp
  | x :: l, h => by
    rw [List.mapM_cons]
    simp only [Sem.run_bind, h x (by simp), Result.andThen_ok, run_mapM f g w l (fun y hy => h y (by simp [hy])), Sem.run_pure, List.map_cons]

theorem op_build {o : Oper} {e : Env} {t : TypeId} {parts : Array (Nat × Operand)} {T : Ty} {cs : List AV} {G : Glob} (hG : TysOk P G) (ho : o.op = .build t parts) (ht : G.ty t = some (true, T))
    (hf : fillA (parts.toList.map fun p => (p.1, ev e p.2)) (fun i => match G.fld t i with | some (off, _, T) => some (off, T.size) | none => none) T.zcells = some cs) : OpQ P o e s wr (.agg cs) :=
  fun X h μ a inv he => by
    have ht1 := hG.ty _ _ _ ht
    obtain ⟨fs, hu, hb⟩ := hG.bld _ _ ht
    let sz : Field → Nat := fun fd => (P.info? fd.type).elim 0 (·.size)
    have hsz : ∀ i fd, fs[i]? = some fd → ∃ off ag T', G.fld t i = some (off, ag, T') ∧ fd.offset = off ∧ (∀ w : World, (sizeOf fd.type).run P w = .ok T'.size w) ∧ sz fd = T'.size := by
      intro i fd hfd
      obtain ⟨off, ag, T', hfl⟩ := hb i fd hfd
      obtain ⟨fs', fd', hu', hfd', ho', hti⟩ := hG.fld _ _ _ _ _ hfl
      rw [hu] at hu'; cases hu'
      rw [hfd] at hfd'; cases hfd'
      obtain ⟨i0, g1, g2, _⟩ := hti.info
      exact ⟨off, ag, T', hfl, ho', fun w => run_sizeOf hti.info w, by simp [sz, g1, g2]⟩
    have hm : ∀ w : World, (fs.mapM fun (f : Field) => (do pure (f.offset, ← sizeOf f.type) : Sem (Nat × Nat))).run P w = .ok (fs.toList.map fun f => (f.offset, sz f)).toArray w := by
      intro w
      rw [Array.mapM_eq_mapM_toList]
      have := run_mapM (P := P) (fun (f : Field) => (do pure (f.offset, ← sizeOf f.type) : Sem (Nat × Nat))) (fun f => (f.offset, sz f)) w fs.toList (by
        intro fd hfd
        obtain ⟨i, hi, rfl⟩ := List.getElem_of_mem hfd
        obtain ⟨off, ag, T', _, _, h3, h4⟩ := hsz i fs.toList[i] (by simp at hi; simp [hi])
        simp only [Sem.run_bind, h3, Result.andThen_ok, Sem.run_pure, h4])
      simp only [Sem.run_map, this, Result.andThen_ok]
    obtain ⟨vs', f1, f2⟩ := fill_rv (place' := fun i => (fs.toList.map fun f => (f.offset, sz f)).toArray[i]?) (by
        intro i p hp
        split at hp
        · rename_i off ag T' hfl
          cases hp
          obtain ⟨fs', fd, hu', hfd, ho', hti⟩ := hG.fld _ _ _ _ _ hfl
          rw [hu] at hu'; cases hu'
          obtain ⟨off2, ag2, T2, h1, h2, h3, h4⟩ := hsz i fd hfd
          rw [hfl] at h1; cases h1
          simp [hfd, h2, h4]
        · cases hp)
      (parts.toList.map fun p => (p.1, ev e p.2)) (parts.toList.map fun (i, x) => (i, a.eval x)) _ cs (zval true T).cells hf (by simp) (parts_rv he parts.toList) (by rw [zval_cells ht1]; exact zcells_rv T)
    have hfill : Instr.fill ((fs.toList.map fun f => (f.offset, sz f)).toArray[·]?) (zval true T).cells (parts.map fun (i, x) => (i, a.eval x)).toList = some vs' := by rw [Array.toList_map]; exact f1
    refine ⟨.agg vs', fun w _ => ?_, by simp only [RV]; exact ⟨vs', rfl, f2⟩⟩
    simp only [execOp, ho, Instr.build, Sem.run_bind, run_zeroValue ht1.info, Result.andThen_ok, run_underlying hu, hm, hfill, Sem.run_pure]

theorem op_buildSlice {o : Oper} {e : Env} {t : TypeId} {n : Nat} {parts : Array (Nat × Operand)} {el : Ty} {cs : List AV} {xs : List el.D} (ho : o.op = .buildSlice t n parts) (ht : TyOk1 P (.slice el) t false)
    (hf : fillA (parts.toList.map fun p => (p.1, ev e p.2)) (fun i => some (i * el.size, el.size)) (replCells n el.zcells) = some cs) (hx : elems s el n cs = some xs) (hn : n * el.size ≤ 16777216) :
    OpOk P o e s [] (.own s.length) (freeze s (ownIds cs) ++ [.arr el xs]) :=
  OpOk.push fun X μ w a inv he => by
    obtain ⟨te, ag', hu, hte⟩ := elem_of ht rfl
    obtain ⟨vs', f1, f2⟩ := fill_rv (fun _ _ hp => hp) (parts.toList.map fun p => (p.1, ev e p.2)) (parts.toList.map fun (i, x) => (i, a.eval x)) _ cs
      (if n * el.size = 0 then #[] else (Array.range (n * el.size)).map ((zval ag' el).cells[· % (zval ag' el).cells.size]!)) hf (by simp) (parts_rv he parts.toList) (by
        split
        · rename_i h0
          have hp := el.size_pos
          have : n = 0 := by
            rcases Nat.mul_eq_zero.1 h0 with h1 | h1
            · exact h1
            · omega
          subst this
          simp only [replCells, RVs]
        · rw [zrow el n _ (zval_cells (.inl hte))]
          exact replCells_rv el n)
    obtain ⟨i1, e1⟩ := freeze_step (ownIds cs) inv
    obtain ⟨l1, l2, l3⟩ := elems_rep inv (fun b hb => (e1.im b hb).1) el n cs xs vs'.toList hx f2 (fun r sl b hr hsl harr hb => freeze_im inv hr hsl harr hb)
    obtain ⟨i2, e2, v2⟩ := new_arr i1 e1 el xs vs' te (0, 0) n (noFrz_new _) (by rw [← Array.length_toList]; exact l2) (by omega) l3
    rw [freeze_length] at v2
    refine ⟨.slice (some ⟨w.heap.size, 0, none⟩) n n, { w with heap := w.heap.push (.cells vs' te (0, 0)) }, _, _, ?_, rfl, ⟨rfl, rfl, rfl⟩, i2, ?_, e2, keep_app inv⟩
    · have hbig : ¬ (n * el.size > 2 ^ 24) := by
        have : (2 : Nat) ^ 24 = 16777216 := by decide
        omega
      by_cases h0 : n * el.size = 0
      · rw [if_pos h0] at f1
        have hfill : Instr.fill (fun i => some (i * el.size, el.size)) ((Array.range (n * el.size)).map fun x => (#[] : Array Value)[x % (#[] : Array Value).size]!) (parts.map fun (i, x) => (i, a.eval x)).toList = some vs' := by
          have e0 : ((Array.range (n * el.size)).map fun x => (#[] : Array Value)[x % (#[] : Array Value).size]!) = #[] := by rw [h0]; simp
          rw [Array.toList_map, e0]; exact f1
        simp only [execOp, ho, Instr.buildSlice, Sem.run_bind, run_underlying hu, Result.andThen_ok, run_sizeOf hte.info, if_neg hbig, if_pos h0, Sem.run_pure, hfill, newRow, run_newObj]
      · rw [if_neg h0] at f1
        have hfill : Instr.fill (fun i => some (i * el.size, el.size)) ((Array.range (n * el.size)).map fun x => (zval ag' el).cells[x % (zval ag' el).cells.size]!) (parts.map fun (i, x) => (i, a.eval x)).toList = some vs' := by
          rw [Array.toList_map]; exact f1
        simp only [execOp, ho, Instr.buildSlice, Sem.run_bind, run_underlying hu, Result.andThen_ok, run_sizeOf hte.info, if_neg hbig, if_neg h0, Sem.run_pure, run_zeroValue hte.info, hfill, newRow, run_newObj]
    · have := v2 (Im X (w.heap.push (.cells vs' te (0, 0))) (μ ++ [⟨some w.heap.size, n⟩]) (freeze s (ownIds cs) ++ [.arr el xs]))
      rw [l1] at this
      exact this

end
end Go.VE
