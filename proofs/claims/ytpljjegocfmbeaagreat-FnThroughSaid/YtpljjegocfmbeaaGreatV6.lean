/- A call: the callee's contract, told in the caller's state. -/
import Derived.Test.YtpljjegocfmbeaaGreatV5
namespace Go.VE
set_option linter.unusedVariables false

def mergeM (μ : List Slot) : List Nat → List Slot → List Slot
  | [], sub => μ ++ sub
  | r :: l, g :: sub => mergeM (μ.set r g) l sub
  | _ :: _, [] => μ

theorem getR_map_ren2 (f : Nat → Nat) : ∀ (s : St) (j : Nat), getR (s.map (Rg.ren2 f)) j = (getR s j).ren2 f
  | [], j => by cases j <;> rfl
  | g :: l, 0 => rfl
  | g :: l, j + 1 => by simpa [getR] using getR_map_ren2 f l j

theorem back_in : ∀ {ids : List Nat} {n j r : Nat}, ids[j]? = some r → back ids n j = r
  | [], _, _, _, h => by simp at h
  | a :: l, n, 0, r, h => by simpa [back] using h
  | a :: l, n, j + 1, r, h => by
    simp at h
    simpa [back] using back_in h

theorem back_out : ∀ {ids : List Nat} {n j : Nat}, ids.length ≤ j → back ids n j = n + (j - ids.length)
  | [], n, j, _ => by simp [back]
  | a :: l, n, 0, h => by simp at h
  | a :: l, n, j + 1, h => by
    simp at h
    simp [back, back_out h]

theorem merge_get (f : Nat → Nat) : ∀ (ids : List Nat) (s sub : St), ids.Nodup → (∀ r ∈ ids, r < s.length) → ids.length ≤ sub.length →
    (merge s f ids sub).length = s.length + (sub.length - ids.length) ∧
    (∀ r, r < s.length → getR (merge s f ids sub) r = match idx r ids with | some j => (getR sub j).ren2 f | none => getR s r) ∧
    (∀ j, getR (merge s f ids sub) (s.length + j) = (getR sub (ids.length + j)).ren2 f)
  | [], s, sub, _, _, _ => by
    refine ⟨by simp [merge], fun r hr => ?_, fun j => ?_⟩
    · simp only [merge, idx]; exact getR_app_left _ _ _ hr
    · simp only [merge, List.length_nil, Nat.zero_add]
      rw [getR_app_right, getR_map_ren2]
  | a :: l, s, [], _, _, h => by simp at h
  | a :: l, s, g :: sub, hd, hm, hl => by
    simp only [List.nodup_cons] at hd
    have ha : a < s.length := hm a (by simp)
    have hlen := setR_length s a (g.ren2 f)
    obtain ⟨h1, h2, h3⟩ := merge_get f l (setR s a (g.ren2 f)) sub hd.2 (fun r hr => by rw [hlen]; exact hm r (by simp [hr])) (by simpa using hl)
    rw [hlen] at h1 h2 h3
    refine ⟨by simp only [merge, h1, List.length_cons]; omega, fun r hr => ?_, fun j => ?_⟩
    · simp only [merge, h2 r hr, idx]
      by_cases e : a = r
      · subst e
        have : idx a l = none := by
          cases hi : idx a l with
          | none => rfl
          | some j => exact absurd (List.mem_of_getElem? (idx_some hi)) hd.1
        rw [this, if_pos rfl, getR_setR _ _ _ _ ha, if_pos rfl]; rfl
      · rw [if_neg e]
        cases hi : idx r l with
        | none => simp only; rw [getR_setR _ _ _ _ ha, if_neg (fun e' => e e'.symm)]
        | some j => rfl
    · simp only [merge, h3 j, List.length_cons]
      rw [Nat.add_right_comm]; rfl

theorem mergeM_get : ∀ (ids : List Nat) (μ sub : List Slot), ids.Nodup → (∀ r ∈ ids, r < μ.length) → ids.length ≤ sub.length →
    (mergeM μ ids sub).length = μ.length + (sub.length - ids.length) ∧
    (∀ r, r < μ.length → (mergeM μ ids sub)[r]? = match idx r ids with | some j => sub[j]? | none => μ[r]?) ∧
    (∀ j, (mergeM μ ids sub)[μ.length + j]? = sub[ids.length + j]?)
  | [], s, sub, _, _, _ => by
    refine ⟨by simp [mergeM], fun r hr => ?_, fun j => ?_⟩
    · simp only [mergeM, idx]; exact List.getElem?_append_left hr
    · simp only [mergeM, List.length_nil, Nat.zero_add]
      rw [List.getElem?_append_right (by omega)]
      congr 1; omega
  | a :: l, s, [], _, _, h => by simp at h
  | a :: l, s, g :: sub, hd, hm, hl => by
    simp only [List.nodup_cons] at hd
    have ha : a < s.length := hm a (by simp)
    have hlen : (s.set a g).length = s.length := List.length_set
    obtain ⟨h1, h2, h3⟩ := mergeM_get l (s.set a g) sub hd.2 (fun r hr => by rw [hlen]; exact hm r (by simp [hr])) (by simpa using hl)
    rw [hlen] at h1 h2 h3
    refine ⟨by simp only [mergeM, h1, List.length_cons]; omega, fun r hr => ?_, fun j => ?_⟩
    · simp only [mergeM, h2 r hr, idx]
      by_cases e : a = r
      · subst e
        have : idx a l = none := by
          cases hi : idx a l with
          | none => rfl
          | some j => exact absurd (List.mem_of_getElem? (idx_some hi)) hd.1
        rw [this, if_pos rfl]
        simp [ha]
      · rw [if_neg e]
        cases hi : idx r l with
        | none => simp only; rw [List.getElem?_set_ne e]
        | some j => simp
    · simp only [mergeM, h3 j, List.length_cons]
      rw [Nat.add_right_comm]; simp

theorem freeze_length : ∀ (l : List Nat) (s : St), (freeze s l).length = s.length
  | [], s => rfl
  | r :: l, s => by
    simp only [freeze]
    rw [freeze_length l]
    unfold freeze1
    split <;> simp [setR_length]

theorem freeze1_get (s : St) (r j : Nat) : getR (freeze1 s r) j = getR s j ∨ (j = r ∧ ∃ e xs, getR s j = .arr e xs ∧ getR (freeze1 s r) j = .frz e xs) := by
  unfold freeze1
  split
  · rename_i e xs he
    have hlt : r < s.length := lt_of_getR he (by simp)
    rw [getR_setR _ _ _ _ hlt]
    by_cases h : j = r
    · subst h; exact .inr ⟨rfl, e, xs, he, by simp⟩
    · exact .inl (by simp [h])
  · exact .inl rfl

theorem freeze1_frz {s : St} {r : Nat} {e : Ty} {xs : List e.D} (he : getR s r = .arr e xs) : getR (freeze1 s r) r = .frz e xs := by
  unfold freeze1
  rw [he]
  simp only
  rw [getR_setR _ _ _ _ (lt_of_getR he (by simp)), if_pos rfl]

theorem freeze_get : ∀ (l : List Nat) (s : St) (j : Nat), (getR (freeze s l) j = getR s j ∧ (j ∈ l → ∀ e xs, getR s j ≠ .arr e xs)) ∨ (j ∈ l ∧ ∃ e xs, getR s j = .arr e xs ∧ getR (freeze s l) j = .frz e xs)
  | [], s, j => .inl ⟨rfl, by simp⟩
  | r :: l, s, j => by
    simp only [freeze]
    rcases freeze1_get s r j with h1 | ⟨h0, e, xs, h1, h2⟩
    · rcases freeze_get l (freeze1 s r) j with ⟨h3, h4⟩ | ⟨h3, e, xs, h4, h5⟩
      · left
        refine ⟨h3.trans h1, fun hm e xs he => ?_⟩
        simp only [List.mem_cons] at hm
        rcases hm with hm | hm
        · subst hm
          rw [freeze1_frz he] at h1
          rw [he] at h1; cases h1
        · exact h4 hm e xs (h1.trans he)
      · exact .inr ⟨by simp [h3], e, xs, h1 ▸ h4, h5⟩
    · rcases freeze_get l (freeze1 s r) j with ⟨h3, h4⟩ | ⟨h3, e', xs', h4, h5⟩
      · exact .inr ⟨by simp [h0], e, xs, h1, h3.trans h2⟩
      · rw [h2] at h4; cases h4

theorem meets_false : ∀ {l m : List Nat}, meets l m = false → ∀ r ∈ l, r ∉ m
  | [], _, _, r, hr => by simp at hr
  | a :: l, m, h, r, hr => by
    simp only [meets, Bool.or_eq_false_iff] at h
    simp only [List.mem_cons] at hr
    rcases hr with hr | hr
    · subst hr
      have : idx r m = none := by
        cases e : idx r m with
        | none => rfl
        | some j => rw [e] at h; simp at h
      exact idx_none this
    · exact meets_false h.2 r hr

theorem liveIds_arr (s : St) : ∀ (l : List Nat) (r : Nat), r ∈ liveIds s l → ∃ e xs, getR s r = .arr e xs
  | [], r, h => by simp [liveIds] at h
  | a :: l, r, h => by
    simp only [liveIds] at h
    split at h
    · rename_i e xs he
      simp only [List.mem_cons] at h
      rcases h with h | h
      · subst h; exact ⟨e, xs, he⟩
      · exact liveIds_arr s l r h
    · exact liveIds_arr s l r h

theorem liveIds_mem (s : St) : ∀ (l : List Nat) (r : Nat), r ∈ l → (∃ e xs, getR s r = .arr e xs) → r ∈ liveIds s l
  | [], r, h, _ => by simp at h
  | a :: l, r, h, ⟨e, xs, he⟩ => by
    simp only [List.mem_cons] at h
    simp only [liveIds]
    rcases h with h | h
    · subst h; rw [he]; simp
    · have := liveIds_mem s l r h ⟨e, xs, he⟩
      split
      · simp [this]
      · exact this

/-! ### contracts -/

/-- What isn't memory is as it was. -/
def Calm (w w' : World) : Prop := w'.os = w.os ∧ w'.tape = w.tape ∧ w'.output = w.output

theorem Calm.refl (w : World) : Calm w w := ⟨rfl, rfl, rfl⟩

theorem Calm.trans {a b c : World} (h : Calm a b) (k : Calm b c) : Calm a c := ⟨k.1.trans h.1, k.2.1.trans h.2.1, k.2.2.trans h.2.2⟩

def Post (X : Nat → Prop) (w : World) (μ : List Slot) (s : St) (v : AV) (s' : St) : Ending → World → Prop := fun e w' =>
  ∃ cv μ', e = .returned cv ∧ Inv X w'.heap μ' s' ∧ RV w'.heap (Im X w'.heap μ' s') μ' s' v cv ∧ Ext X w.heap μ s w'.heap μ' s' ∧ Calm w w'

/-- The function does what g says: its answer and what becomes of the regions that it is handed. -/
def Contract (P : Program) (f : Nat) (g : List AV → St → K1 → Option Res) : Prop :=
  ∀ args s k r, g args s k = some r → ∃ v s', k v s' = some r ∧
    ∀ X μ (w : World) (cargs : List Value), Inv X w.heap μ s → RVs w.heap (Im X w.heap μ s) μ s args cargs → Calls P f cargs.toArray w (Post X w μ s v s')

/-- The same, and what is not touched. -/
def PostT (X : Nat → Prop) (w : World) (μ : List Slot) (s : St) (tch : List Nat) (v : AV) (s' : St) : Ending → World → Prop := fun e w' =>
  ∃ cv μ', e = .returned cv ∧ Inv X w'.heap μ' s' ∧ RV w'.heap (Im X w'.heap μ' s') μ' s' v cv ∧ Ext X w.heap μ s w'.heap μ' s' ∧ Calm w w' ∧
    (∀ b, b < w.heap.size → NotOf μ tch b → w'.heap[b]? = w.heap[b]?) ∧ ∀ r, r < s.length → r ∉ tch → μ'[r]? = μ[r]?

def handed (args : List AV) (s : St) : List Nat := reach s 64 (refsL args) []

theorem callWith_sound {P : Program} {G : Glob} {f : Nat} {args : List AV} {seen : List Nat} {s : St} {k : K1} {r : Res}
    (hc : Contract P f (G.call f)) (hs : ∀ q ∈ seen, ∃ e xs, getR s q = .arr e xs) (hk : callWith G f args seen s k = some r) :
    (∀ q ∈ seen, q ∉ handed args s) ∧ ∃ v s', k v s' = some r ∧ ∀ X μ (w : World) (cargs : List Value), Inv X w.heap μ s →
      RVs w.heap (Im (Beyond X μ s (handed args s) seen) w.heap (slots μ (handed args s)) (restrict s (handed args s) (handed args s))) μ s args cargs →
      Calls P f cargs.toArray w (PostT X w μ s (handed args s) v s') := by
  unfold callWith at hk
  simp only at hk
  change (bif meets seen (handed args s) then none else _) = _ at hk
  cases hmt : meets seen (handed args s) with
  | true => rw [hmt] at hk; cases hk
  | false =>
    rw [hmt] at hk
    simp only [cond_false] at hk
    have hns := meets_false hmt
    refine ⟨hns, ?_⟩
    have hd : (handed args s).Nodup := reach_nodup s _ _ _ (by simp)
    have hlive : ∀ q ∈ handed args s, (getR s q).live = true := fun q hq => by
      rcases reach_live s _ _ _ q hq with h1 | h1
      · simp at h1
      · exact h1
    change G.call f (renL s (handed args s) args) (restrict s (handed args s) (handed args s)) _ = some r at hk
    obtain ⟨v, sub, hk1, hcalls⟩ := hc _ _ _ _ hk
    -- which state is left
    have hst : ∃ s', k (v.ren2 (back (handed args s) s.length)) s' = some r ∧
        ((s' = freeze (merge s (back (handed args s) s.length) (handed args s) sub) seen) ∨
         (s' = merge s (back (handed args s) s.length) (handed args s) sub ∧ v.hasLst = false ∧ anyLst sub = false)) := by
      cases seen with
      | nil => exact ⟨_, hk1, .inl rfl⟩
      | cons q l =>
        simp only at hk1
        cases hb : v.hasLst || anyLst sub with
        | true => rw [hb] at hk1; exact ⟨_, hk1, .inl rfl⟩
        | false =>
          rw [hb] at hk1
          simp only [Bool.or_eq_false_iff] at hb
          exact ⟨_, hk1, .inr ⟨rfl, hb.1, hb.2⟩⟩
    obtain ⟨s', hks, hs'⟩ := hst
    refine ⟨_, s', hks, ?_⟩
    intro X μ w cargs inv hargs
    have hX' : ∀ b, Beyond X μ s (handed args s) seen b → b < w.heap.size ∧ (X b ∨ ¬ Free μ s b) := by
      rintro b (hb | ⟨q, sl, h1, h2, h3, h4, h5⟩)
      · exact ⟨inv.xlt b hb, .inl hb⟩
      · exact ⟨inv.blk_lt h1 h2 h3, .inr fun hf => hf q sl h1 h2 h3⟩
    have hout : ∀ q sl b, q ∈ handed args s → μ[q]? = some sl → (getR s q).live = true → sl.blk = some b → ¬ Beyond X μ s (handed args s) seen b := by
      rintro q sl b hq h1 h2 h3 (hb | ⟨q', sl', g1, g2, g3, g4, g5⟩)
      · exact inv.notX q sl b h1 h2 h3 hb
      · exact inv.dis q q' sl sl' b (fun e => g4 (e ▸ hq)) h1 g1 h2 g2 h3 g3
    obtain ⟨i0, _⟩ := part_step inv (handed args s) hd (Beyond X μ s (handed args s) seen) hX' hout
    have hargs0 := RVs.ren (fun b hb => hb) (handed args s) args cargs hargs
    refine (hcalls _ _ w cargs i0 hargs0).mono ?_
    rintro e w' ⟨cv, μ1, rfl, i1, hv, e1, hcalm⟩
    have hlt : ∀ q ∈ handed args s, q < s.length := fun q hq => live_lt (hlive q hq)
    have hltμ : ∀ q ∈ handed args s, q < μ.length := fun q hq => by rw [inv.len]; exact hlt q hq
    have hls : (handed args s).length ≤ sub.length := by have := e1.len; rwa [restrict_length] at this
    have hlm : (handed args s).length ≤ μ1.length := by rw [i1.len]; exact hls
    obtain ⟨m1, m2, m3⟩ := merge_get (back (handed args s) s.length) (handed args s) s sub hd hlt hls
    obtain ⟨n1, n2, n3⟩ := mergeM_get (handed args s) μ μ1 hd hltμ hlm
    have hsl : s'.length = s.length + (sub.length - (handed args s).length) := by
      rcases hs' with h1 | ⟨h1, _⟩
      · rw [h1, freeze_length, m1]
      · rw [h1, m1]
    -- the new state, place by place
    have hget : ∀ q, (getR s' q = getR (merge s (back (handed args s) s.length) (handed args s) sub) q) ∨
        (q ∈ seen ∧ ∃ e xs, getR (merge s (back (handed args s) s.length) (handed args s) sub) q = .arr e xs ∧ getR s' q = .frz e xs) := by
      intro q
      rcases hs' with h1 | ⟨h1, _⟩
      · rw [h1]
        rcases freeze_get seen (merge s (back (handed args s) s.length) (handed args s) sub) q with h2 | h2
        · exact .inl h2.1
        · exact .inr h2
      · exact .inl (by rw [h1])
    have hseenlt : ∀ q ∈ seen, q < s.length := fun q hq => by
      obtain ⟨e, xs, he⟩ := hs q hq
      exact lt_of_getR he (by simp)
    have q1 : ∀ j sl, μ1[j]? = some sl → (mergeM μ (handed args s) μ1)[back (handed args s) s.length j]? = some sl ∧ getR s' (back (handed args s) s.length j) = (getR sub j).ren2 (back (handed args s) s.length) := by
      intro j sl hj
      rcases Nat.lt_or_ge j (handed args s).length with hlt' | hge
      · have hjr : (handed args s)[j]? = some (handed args s)[j] := List.getElem?_eq_getElem hlt'
        have hi := idx_nodup hd hjr
        have hmem := List.mem_of_getElem? hjr
        rw [back_in hjr]
        refine ⟨by rw [n2 _ (hltμ _ hmem), hi]; exact hj, ?_⟩
        rcases hget (handed args s)[j] with h1 | ⟨h1, _⟩
        · rw [h1, m2 _ (hlt _ hmem), hi]
        · exact absurd hmem (hns _ h1)
      · rw [back_out hge]
        refine ⟨?_, ?_⟩
        · rw [← inv.len, n3]
          rw [show (handed args s).length + (j - (handed args s).length) = j by omega]; exact hj
        · rcases hget (s.length + (j - (handed args s).length)) with h1 | ⟨h1, _⟩
          · rw [h1, m3]
            rw [show (handed args s).length + (j - (handed args s).length) = j by omega]
          · have := hseenlt _ h1; omega
    have q2 : ∀ q, q < s.length → q ∉ handed args s → (mergeM μ (handed args s) μ1)[q]? = μ[q]? ∧ (getR s' q = getR s q ∨ ∃ e xs, getR s q = .arr e xs ∧ getR s' q = .frz e xs) := by
      intro q hq hn
      have hi : idx q (handed args s) = none := by
        cases hi : idx q (handed args s) with
        | none => rfl
        | some j => exact absurd (List.mem_of_getElem? (idx_some hi)) hn
      refine ⟨by rw [n2 _ (by rw [inv.len]; exact hq), hi], ?_⟩
      have hm : getR (merge s (back (handed args s) s.length) (handed args s) sub) q = getR s q := by rw [m2 _ hq, hi]
      rcases hget q with h1 | ⟨_, e, xs, h1, h2⟩
      · exact .inl (h1.trans hm)
      · exact .inr ⟨e, xs, hm.symm.trans h1, h2⟩
    have q3 : ∀ q sl, (mergeM μ (handed args s) μ1)[q]? = some sl → (∃ j, μ1[j]? = some sl ∧ q = back (handed args s) s.length j) ∨ (q < s.length ∧ q ∉ handed args s ∧ μ[q]? = some sl) := by
      intro q sl hq
      rcases Nat.lt_or_ge q s.length with hlt' | hge
      · rw [n2 _ (by rw [inv.len]; exact hlt')] at hq
        cases hi : idx q (handed args s) with
        | none => rw [hi] at hq; exact .inr ⟨hlt', idx_none hi, hq⟩
        | some j =>
          rw [hi] at hq
          exact .inl ⟨j, hq, (back_in (idx_some hi)).symm⟩
      · have he : q = μ.length + (q - s.length) := by rw [inv.len]; omega
        rw [he, n3] at hq
        refine .inl ⟨_, hq, ?_⟩
        rw [back_out (by omega)]; omega
    have hcase : (∀ q ∈ seen, (getR s' q).live = false) ∨ (v.hasLst = false ∧ anyLst sub = false) := by
      rcases hs' with h1 | ⟨h1, h2, h3⟩
      · left
        intro q hq
        obtain ⟨e, xs, he⟩ := hs q hq
        have hi : idx q (handed args s) = none := by
          cases hi : idx q (handed args s) with
          | none => rfl
          | some j => exact absurd (List.mem_of_getElem? (idx_some hi)) (hns q hq)
        have hm : getR (merge s (back (handed args s) s.length) (handed args s) sub) q = .arr e xs := by rw [m2 _ (hseenlt q hq), hi]; exact he
        rw [h1]
        rcases freeze_get seen (merge s (back (handed args s) s.length) (handed args s) sub) q with ⟨_, h3⟩ | ⟨_, e', xs', _, h4⟩
        · exact absurd hm (h3 hq e xs)
        · rw [h4]; rfl
      · exact .inr ⟨h2, h3⟩
    obtain ⟨j1, j2, j3⟩ := back_step (s2 := s') (μ2 := mergeM μ (handed args s) μ1) (ρ := back (handed args s) s.length) inv hd hlive i1 e1 q1 q2 q3
      (by rw [n1, hsl, inv.len, i1.len]) (by omega) (fun j q hj => back_in hj) (hcase.imp id fun hn => hn.2)
    refine ⟨cv, _, rfl, j1, j3 v cv (hcase.imp id fun hn => hn.1) hv, j2, hcalm, fun b hb hno => e1.same b hb ?_, fun r hr hn => (q2 r hr hn).1⟩
    intro j sl hj hl hbl
    obtain ⟨q, g1, g2, _⟩ := slots_live inv hj hl
    exact hno q (List.mem_of_getElem? g1) sl g2 hbl

end Go.VE
