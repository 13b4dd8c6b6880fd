/- What is stored, made, appended. -/
import Derived.Test.YtpljjegocfmbeaaGreatV8
namespace Go.VE
set_option linter.unusedVariables false
set_option linter.unusedSimpArgs false

theorem setCell_heap (w : World) (k o : Nat) (v : Value) (c : Array Value) (el : TypeId) (fr : Nat × Nat) (hk : w.heap[k]? = some (.cells c el fr)) :
    (w.setCell ⟨k, o, none⟩ v).heap.size = w.heap.size ∧ (∀ b, b ≠ k → (w.setCell ⟨k, o, none⟩ v).heap[b]? = w.heap[b]?) ∧
      (w.setCell ⟨k, o, none⟩ v).heap[k]? = some (.cells (c.setIfInBounds o v) el fr) := by
  unfold World.setCell
  refine ⟨by simp, fun b hb => ?_, ?_⟩
  · simp only [Array.getElem?_modify]
    rw [if_neg (fun e => hb e.symm)]
  · simp only [Array.getElem?_modify, if_true, hk]
    simp

theorem setCells_heap (k : Nat) (el : TypeId) (fr : Nat × Nat) : ∀ (vs : List Value) (o : Nat) (w : World) (c : Array Value), w.heap[k]? = some (.cells c el fr) → o + vs.length ≤ c.size →
    (w.setCells k o vs).heap.size = w.heap.size ∧ (∀ b, b ≠ k → (w.setCells k o vs).heap[b]? = w.heap[b]?) ∧
      ∃ c', (w.setCells k o vs).heap[k]? = some (.cells c' el fr) ∧ c'.toList = c.toList.take o ++ vs ++ c.toList.drop (o + vs.length)
  | [], o, w, c, hk, hl => ⟨rfl, fun _ _ => rfl, c, hk, by simp⟩
  | v :: r, o, w, c, hk, hl => by
    obtain ⟨h1, h2, h3⟩ := setCell_heap w k o v c el fr hk
    obtain ⟨g1, g2, c', g3, g4⟩ := setCells_heap k el fr r (o + 1) (w.setCell ⟨k, o, none⟩ v) _ h3 (by simp at hl ⊢; omega)
    simp only [World.setCells]
    refine ⟨g1.trans h1, fun b hb => (g2 b hb).trans (h2 b hb), c', g3, ?_⟩
    rw [g4, Array.toList_setIfInBounds]
    simp at hl
    have ho : o < c.toList.length := by simp; omega
    apply List.ext_getElem?
    intro p
    rw [List.append_assoc, List.append_assoc, List.getElem?_append, List.getElem?_append, List.getElem?_append, List.getElem?_append]
    simp only [List.length_take, List.length_set, Array.length_toList, List.getElem?_take, List.getElem?_drop, List.length_cons]
    have m1 : min (o + 1) c.size = o + 1 := by omega
    have m2 : min o c.size = o := by omega
    rw [m1, m2]
    by_cases hp : p < o
    · rw [if_pos (by omega), if_pos hp, List.getElem?_set_ne (by omega), if_pos (by omega), if_pos hp]
    · by_cases hp2 : p = o
      · subst hp2
        rw [if_pos (by omega), if_pos (by omega), if_neg (by omega), Nat.sub_self, if_pos (by omega), List.getElem?_set_self ho]
        rfl
      · have e1 : ¬ p < o + 1 := by omega
        rw [if_neg e1, if_neg hp]
        obtain ⟨q, rfl⟩ : ∃ q, p = o + 1 + q := ⟨p - (o + 1), by omega⟩
        rw [show o + 1 + q - (o + 1) = q by omega, show o + 1 + q - o = q + 1 by omega]
        simp only [List.getElem?_cons_succ]
        by_cases hq : q < r.length
        · rw [if_pos hq, if_pos (by omega)]
        · rw [if_neg hq, if_neg (by omega), List.getElem?_set_ne (by omega)]
          congr 1; omega

theorem storeCells_run {P : Program} {w : World} {k o : Nat} {c : Array Value} {el : TypeId} {fr : Nat × Nat} {vs : List Value} (hk : w.heap[k]? = some (.cells c el fr)) (hn : NoFrz c fr)
    (hl : o + vs.length ≤ c.size) (h1 : ∀ v ∈ vs, v.oneCell' = true) : (storeCells ⟨k, o, none⟩ vs).run P w = .ok () (w.setCells k o vs) := by
  have := run_storeCells_cells (P := P) k o vs 0 w (fun j hj => by
      rw [Nat.add_zero, cell_of hk, Array.getElem?_eq_getElem (by omega)]; rfl)
    (fun j hj => by
      have := hn (o + 0 + j) (by omega)
      simp only [World.frozen?, hk]
      exact this) h1
  simpa using this

theorem noFrz_size {c c' : Array Value} {fr : Nat × Nat} (h : NoFrz c fr) (e : c'.size = c.size) : NoFrz c' fr := fun o ho => h o (by omega)

theorem mem_ownIds : ∀ {l : List AV} {r : Nat}, r ∈ ownIds l ↔ ∃ a ∈ l, a = .own r ∨ ∃ lo, a = .win r lo
  | [], r => by simp [ownIds]
  | a :: l, r => by
    cases a <;> simp [ownIds, mem_ownIds (l := l), eq_comm]

theorem own_not_cells : ∀ (T : Ty) (x : T.D) (r : Nat) (a : AV), a ∈ T.cells x → ¬ (a = .own r ∨ ∃ lo, a = .win r lo)
  | .int _, _, _, _ => by simp only [Ty.cells, List.mem_singleton]; rintro rfl; simp
  | .bool, _, _, _ => by simp only [Ty.cells, List.mem_singleton]; rintro rfl; simp
  | .str, _, _, _ => by simp only [Ty.cells, List.mem_singleton]; rintro rfl; simp
  | .pair a b, x, r, c => by
    simp only [Ty.cells, List.mem_append]
    rintro (h | h)
    · exact own_not_cells a x.1 r c h
    · exact own_not_cells b x.2 r c h
  | .slice _, _, _, _ => by simp only [Ty.cells, List.mem_singleton]; rintro rfl; simp

section
variable {X : Nat → Prop} {μ : List Slot} {s : St} {h : Heap} {I : Nat → Prop}

theorem freeze_live {ids : List Nat} {r : Nat} (hl : (getR (freeze s ids) r).live = true) : getR (freeze s ids) r = getR s r := by
  rcases freeze_get ids s r with h1 | ⟨_, e, xs, _, h2⟩
  · exact h1.1
  · rw [h2] at hl; cases hl

theorem freeze_im (inv : Inv X h μ s) {ids : List Nat} {r b : Nat} {sl : Slot} (hr : r ∈ ids) (hs : μ[r]? = some sl) (ha : ∃ e xs, getR s r = .arr e xs) (hb : sl.blk = some b) :
    Im X h μ (freeze s ids) b := by
  obtain ⟨e, xs, he⟩ := ha
  have hl : (getR s r).live = true := by rw [he]; rfl
  refine ⟨inv.blk_lt hs hl hb, inv.notX r sl b hs hl hb, ?_⟩
  intro j sl' hj hl' hb'
  have hj' := freeze_live hl'
  have hne : j ≠ r := by
    intro e'
    subst e'
    rcases freeze_get ids s j with ⟨h1, h2⟩ | ⟨_, e, xs, _, h2⟩
    · exact h2 hr _ _ he
    · rw [h2] at hl'; cases hl'
  exact inv.dis j r sl' sl b hne hj hs (hj' ▸ hl') hl hb' hb

theorem get_splice {L ns : List Value} {o p : Nat} (ho : o + ns.length ≤ L.length) : (L.take o ++ ns ++ L.drop (o + ns.length))[p]? = if p < o then L[p]? else if p < o + ns.length then ns[p - o]? else L[p]? := by
  rw [List.append_assoc, List.getElem?_append, List.getElem?_append]
  simp only [List.length_take, List.getElem?_take, List.getElem?_drop]
  rw [show min o L.length = o by omega]
  by_cases h1 : p < o
  · simp [h1]
  · rw [if_neg h1, if_neg h1]
    by_cases h2 : p < o + ns.length
    · rw [if_pos h2, if_pos (by omega)]
    · rw [if_neg h2, if_neg (by omega)]
      congr 1; omega

theorem seg_splice_out {L ns : List Value} {i j sz off : Nat} (hij : j ≠ i) (hoff : off + ns.length ≤ sz) (hL : i * sz + sz ≤ L.length) :
    ((L.take (i * sz + off) ++ ns ++ L.drop (i * sz + off + ns.length)).drop (j * sz)).take sz = (L.drop (j * sz)).take sz := by
  apply List.ext_getElem?
  intro q
  rw [List.getElem?_take, List.getElem?_take]
  split
  · rename_i hq
    rw [List.getElem?_drop, List.getElem?_drop, get_splice (by omega)]
    rcases Nat.lt_or_gt_of_ne hij with h1 | h1
    · have : (j + 1) * sz ≤ i * sz := Nat.mul_le_mul_right _ h1
      rw [Nat.add_mul] at this
      rw [if_pos (by omega)]
    · have : (i + 1) * sz ≤ j * sz := Nat.mul_le_mul_right _ h1
      rw [Nat.add_mul] at this
      rw [if_neg (by omega), if_neg (by omega)]
  · rfl

theorem seg_splice_in {L ns : List Value} {i sz off : Nat} (hoff : off + ns.length ≤ sz) (hL : i * sz + sz ≤ L.length) :
    ((L.take (i * sz + off) ++ ns ++ L.drop (i * sz + off + ns.length)).drop (i * sz)).take sz =
      ((L.drop (i * sz)).take sz).take off ++ ns ++ ((L.drop (i * sz)).take sz).drop (off + ns.length) := by
  have hlen : ((L.drop (i * sz)).take sz).length = sz := by simp; omega
  apply List.ext_getElem?
  intro q
  rw [get_splice (by omega), List.getElem?_take, List.getElem?_take]
  split
  · rename_i hq
    rw [List.getElem?_drop, List.getElem?_drop, get_splice (by omega)]
    by_cases h1 : q < off
    · rw [if_pos h1, if_pos (by omega)]
    · rw [if_neg h1, if_neg (by omega)]
      by_cases h2 : q < off + ns.length
      · rw [if_pos h2, if_pos (by omega)]; congr 1; omega
      · rw [if_neg h2, if_neg (by omega)]
  · rename_i hq
    rw [if_neg (by omega), if_neg (by omega)]

/-- A store. -/
theorem storeCs_sound (inv : Inv X h μ s) {a : AV} {new : List AV} {s' : St} {v : Value} {ns : List Value} (hst : storeCs s a new = some s') (hv : RV h (Im X h μ s) μ s a v)
    (hn : RVs h (Im X h μ s) μ s new ns) :
    ∃ b o c el fr, v = .pointer (some ⟨b, o, none⟩) ∧ h[b]? = some (.cells c el fr) ∧ NoFrz c fr ∧ o + ns.length ≤ c.size ∧
      ∀ (h' : Heap) (c' : Array Value), h'.size = h.size → (∀ b', b' ≠ b → h'[b']? = h[b']?) → h'[b]? = some (.cells c' el fr) → c'.toList = c.toList.take o ++ ns ++ c.toList.drop (o + ns.length) →
        Inv X h' μ s' ∧ Ext X h μ s h' μ s' := by
  unfold storeCs at hst
  split at hst
  · rename_i b off
    simp only [RV] at hv
    obtain ⟨sl, h1, h2⟩ := hv
    have hreg := inv.reg b sl h1
    cases hg : getR s b with
    | box l =>
      rw [hg] at hst h2 hreg
      simp only at hst
      obtain ⟨k, c, el, fr, e1, e2, e3, e4⟩ := hreg
      obtain ⟨k', e1', rfl⟩ := h2
      have hkk : k' = k := by rw [e1] at e1'; exact (Option.some.inj e1').symm
      subst hkk
      cases hsp : splice off new l with
      | none => rw [hsp] at hst; cases hst
      | some cs' =>
        rw [hsp] at hst
        simp only [Option.some.injEq] at hst
        subst hst
        obtain ⟨g1, g2⟩ := splice_rv hsp hn e4
        refine ⟨k', off, c, el, fr, rfl, e2, e3, by simpa using g2, ?_⟩
        intro h' c' p1 p2 p3 p4
        have hsz : c'.size = c.size := by
          rw [← Array.length_toList, ← Array.length_toList, p4]
          simp at g2 ⊢; omega
        refine write_step inv b sl k' (.box cs') h' c' el fr h1 e1 (by rw [hg]; trivial) p1 p2 p3 (noFrz_size e3 hsz) ?_
        show RVs _ _ _ _ _ _
        rw [p4]; exact g1
    | _ => rw [hg] at hst; cases hst
  · rename_i r i off
    simp only [RV] at hv
    obtain ⟨sl, h1, h2⟩ := hv
    have hreg := inv.reg r sl h1
    cases hg : getR s r with
    | arr e xs =>
      rw [hg] at hst h2 hreg
      simp only at hst
      obtain ⟨hi, k', e1', rfl⟩ := h2
      rcases hreg with ⟨h0, _⟩ | ⟨k, c, el, fr, e1, e2, e3, e4, e5, e6⟩
      · rw [h0] at e1'; cases e1'
      have hkk : k' = k := by rw [e1] at e1'; exact (Option.some.inj e1').symm
      subst hkk
      rw [getD_get _ hi] at hst
      cases hsp : splice off new (e.cells xs[i]) with
      | none => rw [hsp] at hst; cases hst
      | some cs' =>
        rw [hsp] at hst
        simp only at hst
        cases hix : idx r (ownIds new) with
        | some j => rw [hix] at hst; cases hst
        | none =>
          rw [hix] at hst
          simp only at hst
          cases hd : e.data s cs' with
          | none => rw [hd] at hst; cases hst
          | some x =>
            rw [hd] at hst
            simp only [Option.some.injEq] at hst
            subst hst
            have hseg := e6 i hi
            have hcr := cells_rv (μ := μ) (s := s) e xs[i] _ hseg
            obtain ⟨g1, g2⟩ := splice_rv hsp hn hcr
            have hseglen := Rep.length _ _ _ hseg
            rw [hseglen] at g2
            have hcap : i * e.size + e.size ≤ c.toList.length := by
              have : (i + 1) * e.size ≤ sl.cap * e.size := Nat.mul_le_mul_right _ (by omega)
              rw [Nat.add_mul] at this
              simp; omega
            obtain ⟨i1, x1⟩ := freeze_step (ownIds new) inv
            have hgr : getR (freeze s (ownIds new)) r = .arr e xs := by
              rcases freeze_get (ownIds new) s r with q | ⟨q, _⟩
              · exact q.1.trans hg
              · exact absurd q (idx_none hix)
            refine ⟨k', i * e.size + off, c, el, fr, rfl, e2, e3, by simp at hcap ⊢; omega, ?_⟩
            intro h' c' p1 p2 p3 p4
            have hsz : c'.size = c.size := by
              rw [← Array.length_toList, ← Array.length_toList, p4]
              simp at hcap ⊢; omega
            have hw := write_step i1 r sl k' (.arr e (xs.set i x)) h' c' el fr h1 e1 (by rw [hgr]; exact ⟨rfl, by simp⟩) p1 p2 p3 (noFrz_size e3 hsz) (by
              refine ⟨by rw [hsz]; exact e4, by simpa using e5, ?_⟩
              intro j hj
              simp only [List.length_set] at hj
              rw [p4]
              by_cases hij : j = i
              · subst hij
                rw [seg_splice_in (by omega) hcap]
                have hx : (xs.set j x)[j]'(by simpa using hj) = x := by simp
                rw [hx]
                refine data_rep inv (fun b hb => (x1.im b hb).1) hd g1 ?_
                intro q sl' b hq hsl harr hb
                have hq' : q ∈ ownIds new := by
                  rw [mem_ownIds] at hq ⊢
                  unfold splice at hsp
                  split at hsp
                  · cases hsp
                    obtain ⟨a0, hq, ha0⟩ := hq
                    rw [List.mem_append, List.mem_append] at hq
                    rcases hq with (hq | hq) | hq
                    · exact absurd ha0 (own_not_cells _ _ _ _ (List.mem_of_mem_take hq))
                    · exact ⟨a0, hq, ha0⟩
                    · exact absurd ha0 (own_not_cells _ _ _ _ (List.mem_of_mem_drop hq))
                  · cases hsp
                exact freeze_im inv hq' hsl harr hb
              · rw [seg_splice_out hij (by omega) hcap]
                have hx : (xs.set i x)[j]'(by simpa using hj) = xs[j] := by
                  rw [List.getElem_set_ne (fun e => hij e.symm)]
                rw [hx]
                exact Rep.mono x1.im _ _ _ (e6 j hj))
            exact ⟨hw.1, x1.trans hw.2⟩
    | _ => rw [hg] at hst; cases hst
  · cases hst

/-- An array is forgotten. -/
theorem gone_step (inv : Inv X h μ s) (r : Nat) (e : Ty) (xs : List e.D) (he : getR s r = .arr e xs) : Inv X h μ (setR s r .gone) ∧ Ext X h μ s h μ (setR s r .gone) := by
  have hlt : r < s.length := lt_of_getR he (by simp)
  have hget : ∀ j, getR (setR s r .gone) j = if j = r then .gone else getR s j := fun j => getR_setR s r j _ hlt
  have hlv : ∀ j, (getR (setR s r .gone) j).live = true → j ≠ r ∧ (getR s j).live = true := by
    intro j hl
    rw [hget] at hl
    by_cases e : j = r
    · rw [if_pos e] at hl; cases hl
    · rw [if_neg e] at hl; exact ⟨e, hl⟩
  have hnew : ∀ j x b, μ[j]? = some x → (getR (setR s r .gone) j).live = true → x.blk = some b → h.size ≤ b ∨ ¬ Free μ s b := by
    intro j x b hj hl hb
    exact .inr fun hf => hf j x hj (hlv j hl).2 hb
  have him : ∀ b, Im X h μ s b → Im X h μ (setR s r .gone) b ∧ h[b]? = h[b]? := fun b hb => ⟨Im.later (Nat.le_refl _) hnew hb, rfl⟩
  have ext : Ext X h μ s h μ (setR s r .gone) := by
    refine Ext.mk' (Nat.le_refl _) (fun b hb hf => rfl) hnew ?_ (by rw [setR_length]; exact Nat.le_refl _)
    intro a v ha hv
    cases a with
    | own j =>
      simp only [RV] at hv ⊢
      obtain ⟨x, h1, h2⟩ := hv
      refine ⟨x, h1, ?_⟩
      rw [hget]
      by_cases e' : j = r
      · subst e'
        rw [if_pos rfl]
        rw [he] at h2
        obtain ⟨a0, rfl, _⟩ := h2
        rfl
      · rw [if_neg e']
        revert h2
        cases getR s j with
        | box _ => exact id
        | arr _ _ => exact id
        | frz e xs => exact Rep.mono him _ _ _
        | gone => exact id
    | bp j off =>
      simp only [RV] at hv ⊢
      obtain ⟨x, h1, h2⟩ := hv
      refine ⟨x, h1, ?_⟩
      rw [hget]
      by_cases e' : j = r
      · subst e'; rw [he] at h2; exact h2.elim
      · rw [if_neg e']; exact h2
    | ep j i off =>
      simp only [RV] at hv ⊢
      obtain ⟨x, h1, h2⟩ := hv
      refine ⟨x, h1, ?_⟩
      rw [hget]
      by_cases e' : j = r
      · subst e'
        rw [if_pos rfl]
        rw [he] at h2
        obtain ⟨_, k0, _, rfl⟩ := h2
        rfl
      · rw [if_neg e']; exact h2
    | win j lo =>
      simp only [RV] at hv ⊢
      obtain ⟨x, h1, h2⟩ := hv
      refine ⟨x, h1, ?_⟩
      rw [hget]
      by_cases e' : j = r
      · subst e'
        rw [if_pos rfl]
        rw [he] at h2
        obtain ⟨_, a0, rfl, _⟩ := h2
        rfl
      · rw [if_neg e']; exact h2
    | _ => cases ha
  refine ⟨⟨by rw [setR_length]; exact inv.len, ?_, ?_, ?_, inv.xlt⟩, ext⟩
  · intro j x hj
    rw [hget]
    by_cases e' : j = r
    · rw [if_pos e']; trivial
    · rw [if_neg e']
      exact RegOk.mono ext.im ext.rv _ (fun b hl hb => rfl) (inv.reg j x hj)
  · intro j j' x x' b hjj hj hj' hl hl' hb
    exact inv.dis j j' x x' b hjj hj hj' (hlv j hl).2 (hlv j' hl').2 hb
  · intro j x b hj hl hb
    exact inv.notX j x b hj (hlv j hl).2 hb

theorem setR_self : ∀ (s : St) (r : Nat) (g : Rg), getR s r = g → r < s.length → setR s r g = s
  | [], r, g, _, h => by simp at h
  | a :: l, 0, g, h, _ => by simp only [getR] at h; subst h; rfl
  | a :: l, r + 1, g, h, hl => by simp only [getR] at h; simp only [setR, setR_self l r g h (by simpa using hl)]

theorem last_slot (inv : Inv X h μ s) (sl : Slot) : (μ ++ [sl])[s.length]? = some sl := by
  rw [← inv.len]; simp

theorem last_get (s : St) (g : Rg) : getR (s ++ [g]) s.length = g := by simpa [getR] using getR_app_right s [g] 0

end
end Go.VE
