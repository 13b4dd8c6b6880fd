/- Regions are given other names: what a callee is handed, what is kept at a loop's head, what a call leaves. -/
import Derived.Test.YtpljjegocfmbeaaGreatV3
namespace Go.VE
set_option linter.unusedVariables false

theorem idx_some : ∀ {r : Nat} {l : List Nat} {j : Nat}, idx r l = some j → l[j]? = some r
  | r, [], _, h => by simp [idx] at h
  | r, a :: l, j, h => by
    unfold idx at h
    split at h
    · rename_i e; cases h; simp [e]
    · split at h
      · rename_i n hn; cases h; simpa using idx_some hn
      · cases h

theorem idx_none : ∀ {r : Nat} {l : List Nat}, idx r l = none → r ∉ l
  | r, [], _ => by simp
  | r, a :: l, h => by
    unfold idx at h
    split at h
    · cases h
    · rename_i hne
      split at h
      · cases h
      · rename_i hn
        simp only [List.mem_cons, not_or]
        exact ⟨fun e => hne e.symm, idx_none hn⟩

theorem idx_of_mem : ∀ {r : Nat} {l : List Nat}, r ∈ l → ∃ j, idx r l = some j := by
  intro r l h
  cases e : idx r l with
  | some j => exact ⟨j, rfl⟩
  | none => exact absurd h (idx_none e)

theorem idx_nodup : ∀ {l : List Nat} (hd : l.Nodup) {j r : Nat}, l[j]? = some r → idx r l = some j
  | [], _, j, r, h => by simp at h
  | a :: l, hd, 0, r, h => by
    simp at h; subst h; simp [idx]
  | a :: l, hd, j + 1, r, h => by
    simp at h
    have hm : r ∈ l := List.mem_of_getElem? h
    have hne : a ≠ r := fun e => (List.nodup_cons.1 hd).1 (e ▸ hm)
    simp [idx, hne, idx_nodup (List.nodup_cons.1 hd).2 h]

theorem getR_restrict (s : St) (all : List Nat) : ∀ (ids : List Nat) (j : Nat), getR (restrict s ids all) j = match ids[j]? with
    | some r => (getR s r).ren s all
    | none => .gone
  | [], j => by cases j <;> rfl
  | r :: l, 0 => rfl
  | r :: l, j + 1 => by simpa [restrict, getR] using getR_restrict s all l j

theorem restrict_length (s : St) (all : List Nat) : ∀ ids : List Nat, (restrict s ids all).length = ids.length
  | [] => rfl
  | r :: l => by simp [restrict, restrict_length s all l]

theorem ren_live (s : St) (ids : List Nat) (g : Rg) : (g.ren s ids).live = g.live := by cases g <;> rfl

/-! ### reach -/

theorem reach_pre (s : St) : ∀ (n : Nat) (w acc : List Nat), ∃ t, reach s n w acc = acc ++ t
  | 0, w, acc => ⟨[], by simp [reach]⟩
  | n + 1, [], acc => ⟨[], by simp [reach]⟩
  | n + 1, r :: w, acc => by
    simp only [reach]
    split
    · exact reach_pre s n w acc
    · split
      · rename_i cs _
        obtain ⟨t, ht⟩ := reach_pre s n (w ++ refsL cs) (acc ++ [r])
        exact ⟨r :: t, by rw [ht]; simp⟩
      · obtain ⟨t, ht⟩ := reach_pre s n w (acc ++ [r])
        exact ⟨r :: t, by rw [ht]; simp⟩
      · exact reach_pre s n w acc

theorem reach_nodup (s : St) : ∀ (n : Nat) (w acc : List Nat), acc.Nodup → (reach s n w acc).Nodup
  | 0, w, acc, h => by simpa [reach] using h
  | n + 1, [], acc, h => by simpa [reach] using h
  | n + 1, r :: w, acc, h => by
    simp only [reach]
    split
    · exact reach_nodup s n w acc h
    · rename_i he
      have hn : (acc ++ [r]).Nodup := by
        rw [List.nodup_append]
        refine ⟨h, by simp, ?_⟩
        intro a ha b hb
        simp at hb; subst hb
        intro e; subst e
        exact idx_none he ha
      split
      · exact reach_nodup s n _ _ hn
      · exact reach_nodup s n _ _ hn
      · exact reach_nodup s n _ _ h

theorem reach_live (s : St) : ∀ (n : Nat) (w acc : List Nat) (r : Nat), r ∈ reach s n w acc → r ∈ acc ∨ (getR s r).live = true
  | 0, w, acc, r, h => by left; simpa [reach] using h
  | n + 1, [], acc, r, h => by left; simpa [reach] using h
  | n + 1, q :: w, acc, r, h => by
    simp only [reach] at h
    have key : ∀ w', r ∈ reach s n w' (acc ++ [q]) → (getR s q).live = true → r ∈ acc ∨ (getR s r).live = true := by
      intro w' h1 h2
      rcases reach_live s n w' _ r h1 with h3 | h3
      · rw [List.mem_append] at h3
        rcases h3 with h3 | h3
        · exact .inl h3
        · simp at h3; subst h3; exact .inr h2
      · exact .inr h3
    split at h
    · exact reach_live s n w acc r h
    · split at h
      · rename_i e; exact key _ h (by rw [e]; rfl)
      · rename_i e; exact key _ h (by rw [e]; rfl)
      · exact reach_live s n w acc r h

theorem iota_length : ∀ a n, (iota a n).length = n
  | _, 0 => rfl
  | a, n + 1 => by simp [iota, iota_length (a + 1) n]

theorem iota_get : ∀ a n j, j < n → (iota a n)[j]? = some (a + j)
  | _, 0, _, h => by omega
  | a, n + 1, 0, _ => by simp [iota]
  | a, n + 1, j + 1, h => by
    simp only [iota, List.getElem?_cons_succ]
    rw [iota_get (a + 1) n j (by omega)]
    congr 1; omega

theorem iota_mem : ∀ a n r, r ∈ iota a n → a ≤ r ∧ r < a + n
  | _, 0, _, h => by simp [iota] at h
  | a, n + 1, r, h => by
    simp only [iota, List.mem_cons] at h
    rcases h with h | h
    · omega
    · have := iota_mem (a + 1) n r h; omega

theorem iota_nodup : ∀ a n, (iota a n).Nodup
  | _, 0 => by simp [iota]
  | a, n + 1 => by
    simp only [iota, List.nodup_cons]
    exact ⟨fun h => by have := iota_mem _ _ _ h; omega, iota_nodup (a + 1) n⟩

/-! ### other names -/

section
variable {X : Nat → Prop} {h : Heap} {μ : List Slot} {s : St}

def slots (μ : List Slot) (ids : List Nat) : List Slot := ids.map fun r => μ[r]?.getD ⟨none, 0⟩

theorem slots_get (μ : List Slot) (ids : List Nat) (j : Nat) : (slots μ ids)[j]? = (ids[j]?).map fun r => μ[r]?.getD ⟨none, 0⟩ := by
  simp [slots]

theorem slots_some {μ : List Slot} {ids : List Nat} {j r : Nat} {sl : Slot} (hj : ids[j]? = some r) (hr : μ[r]? = some sl) : (slots μ ids)[j]? = some sl := by
  rw [slots_get, hj]; simp [hr]

mutual
theorem RV.ren {I I' : Nat → Prop} (hI : ∀ b, I b → I' b) (ids : List Nat) :
    ∀ (a : AV) (v : Value), RV h I μ s a v → RV h I' (slots μ ids) (restrict s ids ids) (a.ren s ids) v
  | .int _ _, _, hv => by simpa only [RV, AV.ren] using hv
  | .bool _, _, hv => by simpa only [RV, AV.ren] using hv
  | .str _, _, hv => by simpa only [RV, AV.ren] using hv
  | .lst e xs, v, hv => by
    simp only [RV, AV.ren] at hv ⊢
    exact Rep.mono (fun b hb => ⟨hI b hb, rfl⟩) _ _ _ hv
  | .nilS, _, hv => by simpa only [RV, AV.ren] using hv
  | .own r, v, hv => by
    simp only [RV] at hv
    obtain ⟨sl, h1, h2⟩ := hv
    cases hg : getR s r with
    | frz e xs =>
      rw [hg] at h2
      simp only [AV.ren, hg, RV]
      exact Rep.mono (fun b hb => ⟨hI b hb, rfl⟩) _ _ _ h2
    | box cs => rw [hg] at h2; exact h2.elim
    | arr e xs =>
      rw [hg] at h2
      simp only [AV.ren, hg]
      cases hi : idx r ids with
      | none => simp only [RV]
      | some j =>
        simp only [RV]
        refine ⟨sl, slots_some (idx_some hi) h1, ?_⟩
        rw [getR_restrict, idx_some hi]
        simp only [hg, Rg.ren]
        exact h2
    | gone =>
      rw [hg] at h2
      simp only [AV.ren, hg]
      cases hi : idx r ids with
      | none => simp only [RV]
      | some j =>
        simp only [RV]
        refine ⟨sl, slots_some (idx_some hi) h1, ?_⟩
        rw [getR_restrict, idx_some hi]
        simp only [hg, Rg.ren]
        exact h2
  | .bp b off, v, hv => by
    simp only [RV] at hv
    obtain ⟨sl, h1, h2⟩ := hv
    simp only [AV.ren]
    cases hi : idx b ids with
    | none => simp only [RV]
    | some j =>
      simp only [RV]
      refine ⟨sl, slots_some (idx_some hi) h1, ?_⟩
      rw [getR_restrict, idx_some hi]
      cases hg : getR s b with
      | box cs => rw [hg] at h2; simp only [hg, Rg.ren]; exact h2
      | arr e xs => rw [hg] at h2; exact h2.elim
      | frz e xs => rw [hg] at h2; exact h2.elim
      | gone => rw [hg] at h2; exact h2.elim
  | .ep r i off, v, hv => by
    simp only [RV] at hv
    obtain ⟨sl, h1, h2⟩ := hv
    simp only [AV.ren]
    cases hi : idx r ids with
    | none => simp only [RV]
    | some j =>
      simp only [RV]
      refine ⟨sl, slots_some (idx_some hi) h1, ?_⟩
      rw [getR_restrict, idx_some hi]
      cases hg : getR s r with
      | box cs => rw [hg] at h2; exact h2.elim
      | arr e xs => rw [hg] at h2; simp only [hg, Rg.ren]; exact h2
      | frz e xs => rw [hg] at h2; simp only [hg, Rg.ren]; exact h2
      | gone => rw [hg] at h2; simp only [hg, Rg.ren]; exact h2
  | .win r lo, v, hv => by
    simp only [RV] at hv
    obtain ⟨sl, h1, h2⟩ := hv
    simp only [AV.ren]
    cases hi : idx r ids with
    | none => simp only [RV]
    | some j =>
      simp only [RV]
      refine ⟨sl, slots_some (idx_some hi) h1, ?_⟩
      rw [getR_restrict, idx_some hi]
      cases hg : getR s r with
      | box cs => rw [hg] at h2; exact h2.elim
      | arr e xs => rw [hg] at h2; simp only [hg, Rg.ren]; exact h2
      | frz e xs => rw [hg] at h2; simp only [hg, Rg.ren]; exact h2
      | gone => rw [hg] at h2; simp only [hg, Rg.ren]; exact h2
  | .ip T x off, v, hv => by
    simp only [RV, AV.ren] at hv ⊢
    obtain ⟨b, o, cs, hb, hc, hx, e⟩ := hv
    exact ⟨b, o, cs, hI b hb, hc, Rep.mono (fun b hb => ⟨hI b hb, rfl⟩) _ _ _ hx, e⟩
  | .fn f caps, v, hv => by
    simp only [RV, AV.ren] at hv ⊢
    obtain ⟨vs, e, hs⟩ := hv
    exact ⟨vs, e, RVs.ren hI ids caps _ hs⟩
  | .agg cs, v, hv => by
    simp only [RV, AV.ren] at hv ⊢
    obtain ⟨vs, e, hs⟩ := hv
    exact ⟨vs, e, RVs.ren hI ids cs _ hs⟩
  | .tup cs, v, hv => by
    simp only [RV, AV.ren] at hv ⊢
    obtain ⟨vs, e, hs⟩ := hv
    exact ⟨vs, e, RVs.ren hI ids cs _ hs⟩
  | .dead, _, _ => by simp only [RV, AV.ren]
theorem RVs.ren {I I' : Nat → Prop} (hI : ∀ b, I b → I' b) (ids : List Nat) :
    ∀ (as : List AV) (vs : List Value), RVs h I μ s as vs → RVs h I' (slots μ ids) (restrict s ids ids) (renL s ids as) vs
  | [], _, hv => by simpa only [RVs, renL] using hv
  | a :: as, vs, hv => by
    simp only [RVs, renL] at hv ⊢
    obtain ⟨v, r, e, h1, h2⟩ := hv
    exact ⟨v, r, e, RV.ren hI ids a v h1, RVs.ren hI ids as r h2⟩
end

theorem slots_live (inv : Inv X h μ s) {ids : List Nat} {j : Nat} {sl : Slot} (hj : (slots μ ids)[j]? = some sl) (hl : (getR (restrict s ids ids) j).live = true) :
    ∃ r, ids[j]? = some r ∧ μ[r]? = some sl ∧ (getR s r).live = true := by
  rw [getR_restrict] at hl
  cases hi : ids[j]? with
  | none => rw [hi] at hl; cases hl
  | some r =>
    rw [hi] at hl
    simp only [ren_live] at hl
    obtain ⟨x, hx⟩ := inv.slot (live_lt hl)
    have := slots_some hi hx
    rw [hj] at this; cases this
    exact ⟨r, rfl, hx, hl⟩

theorem Free.slots (inv : Inv X h μ s) (ids : List Nat) {b : Nat} (hf : Free μ s b) : Free (slots μ ids) (restrict s ids ids) b := by
  intro j sl hj hl hb
  obtain ⟨r, _, h2, h3⟩ := slots_live inv hj hl
  exact hf r sl h2 h3 hb

/-- A part of the regions, named anew; X' may be greater. -/
theorem part_step (inv : Inv X h μ s) (ids : List Nat) (hd : ids.Nodup) (X' : Nat → Prop) (hX' : ∀ b, X' b → b < h.size ∧ (X b ∨ ¬ Free μ s b))
    (hout : ∀ r sl b, r ∈ ids → μ[r]? = some sl → (getR s r).live = true → sl.blk = some b → ¬ X' b) :
    Inv X' h (slots μ ids) (restrict s ids ids) ∧ (∀ b, Im X h μ s b → Im X' h (slots μ ids) (restrict s ids ids) b) := by
  have him : ∀ b, Im X h μ s b → Im X' h (slots μ ids) (restrict s ids ids) b := fun b hb =>
    ⟨hb.1, fun hx => by
      rcases (hX' b hx).2 with h1 | h1
      · exact hb.2.1 h1
      · exact h1 hb.2.2, Free.slots inv ids hb.2.2⟩
  refine ⟨⟨by rw [restrict_length]; simp [slots], ?_, ?_, ?_, fun b hb => (hX' b hb).1⟩, him⟩
  · intro j sl hj
    rw [getR_restrict]
    rw [slots_get] at hj
    cases hi : ids[j]? with
    | none => rw [hi] at hj; cases hj
    | some r =>
      rw [hi] at hj
      simp only [Option.map_some, Option.some.injEq] at hj
      cases hg : getR s r with
      | gone => simp only [hg, Rg.ren]; trivial
      | frz e xs => simp only [hg, Rg.ren]; trivial
      | box cs =>
        have hlt : r < s.length := lt_of_getR hg (by simp)
        obtain ⟨x, hx⟩ := inv.slot hlt
        rw [hx] at hj; simp at hj; subst hj
        have := inv.reg r x hx
        rw [hg] at this
        obtain ⟨k, c, el, fr, h1, h2, h3, h4⟩ := this
        simp only [hg, Rg.ren]
        exact ⟨k, c, el, fr, h1, h2, h3, RVs.ren him ids _ _ h4⟩
      | arr e xs =>
        have hlt : r < s.length := lt_of_getR hg (by simp)
        obtain ⟨x, hx⟩ := inv.slot hlt
        rw [hx] at hj; simp at hj; subst hj
        have := inv.reg r x hx
        rw [hg] at this
        simp only [hg, Rg.ren]
        rcases this with h0 | ⟨k, c, el, fr, h1, h2, h3, h4, h5, h6⟩
        · exact .inl h0
        · exact .inr ⟨k, c, el, fr, h1, h2, h3, h4, h5, fun i hi => Rep.mono (fun b hb => ⟨him b hb, rfl⟩) _ _ _ (h6 i hi)⟩
  · intro j j' sl sl' b hjj hj hj' hl hl' hb
    obtain ⟨r, h1, h2, h3⟩ := slots_live inv hj hl
    obtain ⟨r', h1', h2', h3'⟩ := slots_live inv hj' hl'
    refine inv.dis r r' sl sl' b ?_ h2 h2' h3 h3' hb
    intro e; subst e
    have a1 := idx_nodup hd h1
    have a2 := idx_nodup hd h1'
    rw [a1] at a2; cases a2
    exact hjj rfl
  · intro j sl b hj hl hb
    obtain ⟨r, h1, h2, h3⟩ := slots_live inv hj hl
    exact hout r sl b (List.mem_of_getElem? h1) h2 h3 hb

/-- What is kept at a loop's head, or handed back: the first n regions stay where they are. -/
theorem pack_step {h0 : Heap} {μ0 : List Slot} {s0 : St} (inv : Inv X h μ s) (ext : Ext X h0 μ0 s0 h μ s) (inv0 : μ0.length = s0.length) (vs : List AV) :
    let p := pack s0.length vs s
    ∃ μ', Inv X h μ' p.2 ∧ Ext X h0 μ0 s0 h μ' p.2 ∧ ∀ ws, RVs h (Im X h μ s) μ s vs ws → RVs h (Im X h μ' p.2) μ' p.2 p.1 ws := by
  intro p
  generalize hids : reach s 64 (boxRefs s (iota 0 s0.length) ++ refsL vs) (iota 0 s0.length) = ids
  have hp : p = (renL s ids vs, restrict s ids ids) := by simp only [p, pack, hids]
  rw [hp]
  have hd : ids.Nodup := by rw [← hids]; exact reach_nodup s _ _ _ (iota_nodup 0 s0.length)
  obtain ⟨t, ht⟩ := reach_pre s 64 (boxRefs s (iota 0 s0.length) ++ refsL vs) (iota 0 s0.length)
  rw [hids] at ht
  have hfirst : ∀ j, j < s0.length → ids[j]? = some j := by
    intro j hj
    rw [ht, List.getElem?_append_left (by rw [iota_length]; exact hj), iota_get 0 _ _ hj, Nat.zero_add]
  have hlen : s0.length ≤ ids.length := by rw [ht, List.length_append, iota_length]; omega
  obtain ⟨i1, him⟩ := part_step inv ids hd X (fun b hb => ⟨inv.xlt b hb, .inl hb⟩) (fun r sl b _ hr hl hb => inv.notX r sl b hr hl hb)
  refine ⟨slots μ ids, i1, ?_, fun ws hv => RVs.ren him ids _ _ hv⟩
  have hnew : ∀ j sl b, (slots μ ids)[j]? = some sl → (getR (restrict s ids ids) j).live = true → sl.blk = some b → h0.size ≤ b ∨ ¬ Free μ0 s0 b := by
    intro j sl b hj hl hb
    obtain ⟨r, _, h2, h3⟩ := slots_live inv hj hl
    exact ext.new r sl b h2 h3 hb
  refine Ext.mk' ext.size ext.same hnew ?_ (by rw [restrict_length]; exact hlen)
  intro a v ha hv
  have hv1 := ext.rv a v hv
  have hlt0 : ∀ (r : Nat) (sl : Slot), μ0[r]? = some sl → r < s0.length := fun r sl hr => by
    rw [← inv0]
    rcases Nat.lt_or_ge r μ0.length with h2 | h2
    · exact h2
    · rw [List.getElem?_eq_none h2] at hr; cases hr
  cases a with
  | own r =>
    have hr : r < s0.length := by simp only [RV] at hv; obtain ⟨sl, h1, _⟩ := hv; exact hlt0 r sl h1
    simp only [RV] at hv1 ⊢
    obtain ⟨sl, h1, h2⟩ := hv1
    refine ⟨sl, slots_some (hfirst r hr) h1, ?_⟩
    rw [getR_restrict, hfirst r hr]
    cases hg : getR s r with
    | box cs => rw [hg] at h2; exact h2.elim
    | arr e xs => rw [hg] at h2; simp only [hg, Rg.ren]; exact h2
    | frz e xs => rw [hg] at h2; simp only [hg, Rg.ren]; exact Rep.mono (fun b hb => ⟨him b hb, rfl⟩) _ _ _ h2
    | gone => rw [hg] at h2; simp only [hg, Rg.ren]; exact h2
  | bp r off =>
    have hr : r < s0.length := by simp only [RV] at hv; obtain ⟨sl, h1, _⟩ := hv; exact hlt0 r sl h1
    simp only [RV] at hv1 ⊢
    obtain ⟨sl, h1, h2⟩ := hv1
    refine ⟨sl, slots_some (hfirst r hr) h1, ?_⟩
    rw [getR_restrict, hfirst r hr]
    cases hg : getR s r with
    | box cs => rw [hg] at h2; simp only [hg, Rg.ren]; exact h2
    | arr e xs => rw [hg] at h2; exact h2.elim
    | frz e xs => rw [hg] at h2; exact h2.elim
    | gone => rw [hg] at h2; exact h2.elim
  | ep r i off =>
    have hr : r < s0.length := by simp only [RV] at hv; obtain ⟨sl, h1, _⟩ := hv; exact hlt0 r sl h1
    simp only [RV] at hv1 ⊢
    obtain ⟨sl, h1, h2⟩ := hv1
    refine ⟨sl, slots_some (hfirst r hr) h1, ?_⟩
    rw [getR_restrict, hfirst r hr]
    cases hg : getR s r with
    | box cs => rw [hg] at h2; exact h2.elim
    | arr e xs => rw [hg] at h2; simp only [hg, Rg.ren]; exact h2
    | frz e xs => rw [hg] at h2; simp only [hg, Rg.ren]; exact h2
    | gone => rw [hg] at h2; simp only [hg, Rg.ren]; exact h2
  | win r lo =>
    have hr : r < s0.length := by simp only [RV] at hv; obtain ⟨sl, h1, _⟩ := hv; exact hlt0 r sl h1
    simp only [RV] at hv1 ⊢
    obtain ⟨sl, h1, h2⟩ := hv1
    refine ⟨sl, slots_some (hfirst r hr) h1, ?_⟩
    rw [getR_restrict, hfirst r hr]
    cases hg : getR s r with
    | box cs => rw [hg] at h2; exact h2.elim
    | arr e xs => rw [hg] at h2; simp only [hg, Rg.ren]; exact h2
    | frz e xs => rw [hg] at h2; simp only [hg, Rg.ren]; exact h2
    | gone => rw [hg] at h2; simp only [hg, Rg.ren]; exact h2
  | _ => cases ha

end
end Go.VE
