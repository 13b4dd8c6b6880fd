/- The plain laws behind FnTidy: how the native programs answer. -/
import Derived.Test.YtpljjegocfmbeaaGreatLA1
namespace Go.VE
set_option linter.unusedVariables false
set_option linter.unusedSimpArgs false
theorem selI_mem {ε : Type} {xs : List ε} {f : Nat → Bool} {x : ε} : ∀ {n : Nat}, x ∈ selI xs f n ↔ ∃ i, ∃ h : i < xs.length, i < n ∧ f i = true ∧ x = xs[i]
  | 0 => by simp [selI]
  | n + 1 => by
    have ih := selI_mem (xs := xs) (f := f) (x := x) (n := n)
    simp only [selI, List.mem_append, ih]
    constructor
    · rintro (⟨i, h, h1, h2, h3⟩ | h)
      · exact ⟨i, h, by omega, h2, h3⟩
      · cases hx : xs[n]? with
        | none => rw [hx] at h; cases h
        | some y =>
          obtain ⟨hn, rfl⟩ := List.getElem?_eq_some_iff.1 hx
          rw [hx] at h
          cases hf : f n with
          | true => rw [hf] at h; exact ⟨n, hn, by omega, hf, List.mem_singleton.1 h⟩
          | false => rw [hf] at h; cases h
    · rintro ⟨i, h, h1, h2, h3⟩
      by_cases e : i < n
      · exact .inl ⟨i, h, e, h2, h3⟩
      · have : i = n := by omega
        subst this
        right
        rw [List.getElem?_eq_getElem h, h2]
        exact List.mem_singleton.2 h3
theorem selI_pw {ε : Type} {xs : List ε} {f : Nat → Bool} {R : ε → ε → Prop} (h : ∀ i j (hi : i < xs.length) (hj : j < xs.length), i < j → f i = true → f j = true → R xs[i] xs[j]) : ∀ n, (selI xs f n).Pairwise R
  | 0 => List.Pairwise.nil
  | n + 1 => by
    simp only [selI]
    refine List.pairwise_append.2 ⟨selI_pw h n, ?_, fun a ha b hb => ?_⟩
    · cases xs[n]? with
      | none => exact List.Pairwise.nil
      | some y => cases f n <;> simp
    · obtain ⟨i, hi, h1, h2, rfl⟩ := selI_mem.1 ha
      cases hx : xs[n]? with
      | none => rw [hx] at hb; cases hb
      | some y =>
        obtain ⟨hn, rfl⟩ := List.getElem?_eq_some_iff.1 hx
        rw [hx] at hb
        cases hf : f n with
        | true => rw [hf] at hb; rw [List.mem_singleton.1 hb]; exact h i n hi hn h1 h2 hf
        | false => rw [hf] at hb; cases hb
theorem selI_all {ε : Type} {xs : List ε} {f : Nat → Bool} (h : ∀ i, i < xs.length → f i = true) : ∀ n, n ≤ xs.length → selI xs f n = xs.take n
  | 0, _ => by simp [selI]
  | n + 1, hn => by
    simp only [selI]
    rw [selI_all h n (by omega), List.getElem?_eq_getElem (by omega), h n (by omega), List.take_succ_eq_append_getElem (by omega)]
    rfl
/-- The place told by what stands there. -/
theorem atN_c (l : List dVersion) (key : ByteArray) (snap : Int) : ∀ n, n ≤ l.length → (atN l key snap n = -1 ∧ ∀ j (hj : j < l.length), j < n → l[j].1 = key → ¬ l[j].2.2.2 ≤ snap) ∨
    ∃ i, ∃ h : i < l.length, i < n ∧ atN l key snap n = (i : Int) ∧ l[i].1 = key ∧ l[i].2.2.2 ≤ snap ∧ ∀ j (hj : j < l.length), j < n → l[j].1 = key → l[j].2.2.2 ≤ snap → l[j].2.2.2 ≤ l[i].2.2.2
  | 0, _ => .inl ⟨rfl, fun j _ h => absurd h (by omega)⟩
  | n + 1, hn => by
    have ih := atN_c l key snap n (by omega)
    have hl : n < l.length := by omega
    simp only [atN, List.getElem?_eq_getElem hl]
    by_cases hk : l[n].1 = key
    · rw [strEq_iff.2 hk, Bool.true_and]
      by_cases hs : l[n].2.2.2 ≤ snap
      · rw [decide_eq_true hs, Bool.true_and]
        rcases ih with ⟨h1, h2⟩ | ⟨i, hi, h1, h2, h3, h4, h5⟩
        · rw [h1]
          refine .inr ⟨n, hl, by omega, by simp, hk, hs, fun j hj hjn e1 e2 => ?_⟩
          by_cases e : j = n
          · subst e; omega
          · exact absurd e2 (h2 j hj (by omega) e1)
        · rw [h2, rd_get _ _ _ hi, decide_eq_false (by omega), Bool.false_or]
          by_cases h6 : l[n].2.2.2 > l[i].2.2.2
          · rw [decide_eq_true h6]
            refine .inr ⟨n, hl, by omega, rfl, hk, hs, fun j hj hjn e1 e2 => ?_⟩
            by_cases e : j = n
            · subst e; omega
            · have := h5 j hj (by omega) e1 e2; omega
          · rw [decide_eq_false h6]
            refine .inr ⟨i, hi, by omega, rfl, h3, h4, fun j hj hjn e1 e2 => ?_⟩
            by_cases e : j = n
            · subst e; omega
            · exact h5 j hj (by omega) e1 e2
      · rw [decide_eq_false hs, Bool.false_and]
        rcases ih with ⟨h1, h2⟩ | ⟨i, hi, h1, h2, h3, h4, h5⟩
        · refine .inl ⟨h1, fun j hj hjn e1 => ?_⟩
          by_cases e : j = n
          · subst e; exact hs
          · exact h2 j hj (by omega) e1
        · refine .inr ⟨i, hi, by omega, h2, h3, h4, fun j hj hjn e1 e2 => ?_⟩
          by_cases e : j = n
          · subst e; exact absurd e2 hs
          · exact h5 j hj (by omega) e1 e2
    · have : strEq l[n].1 key = false := by rw [strEq_beq, decide_eq_false hk]
      rw [this, Bool.false_and]
      rcases ih with ⟨h1, h2⟩ | ⟨i, hi, h1, h2, h3, h4, h5⟩
      · refine .inl ⟨h1, fun j hj hjn e1 => ?_⟩
        by_cases e : j = n
        · subst e; exact absurd e1 hk
        · exact h2 j hj (by omega) e1
      · refine .inr ⟨i, hi, by omega, h2, h3, h4, fun j hj hjn e1 e2 => ?_⟩
        by_cases e : j = n
        · subst e; exact absurd e1 hk
        · exact h5 j hj (by omega) e1 e2
noncomputable def sF (l : List dVersion) (snap : Int) (i : Nat) : Bool := match l[i]? with
  | some v => decide (v.2.2.2 > snap) || (atN l v.1 snap l.length == (i : Int))
  | none => false
theorem sF_at {l : List dVersion} {snap : Int} {i : Nat} (h : i < l.length) : sF l snap i = (decide (l[i].2.2.2 > snap) || (atN l l[i].1 snap l.length == (i : Int))) := by
  unfold sF; rw [List.getElem?_eq_getElem h]
theorem someF_mem {l : List dVersion} {snap : Int} {v : dVersion} : v ∈ someF l snap ↔ ∃ i, ∃ h : i < l.length, (l[i].2.2.2 > snap ∨ atN l l[i].1 snap l.length = (i : Int)) ∧ v = l[i] := by
  refine selI_mem (f := sF l snap).trans ⟨fun ⟨i, h, _, h2, h3⟩ => ⟨i, h, ?_, h3⟩, fun ⟨i, h, h2, h3⟩ => ⟨i, h, h, ?_, h3⟩⟩
  · rw [sF_at h, Bool.or_eq_true, decide_eq_true_eq, beq_iff_eq] at h2; exact h2
  · rw [sF_at h, Bool.or_eq_true, decide_eq_true_eq, beq_iff_eq]; exact h2
/-- At most one of a key that is not young. -/
def One (snap : Int) (a b : dVersion) : Prop := a.1 = b.1 → a.2.2.2 ≤ snap → b.2.2.2 ≤ snap → False
theorem someF_one (l : List dVersion) (snap : Int) : (someF l snap).Pairwise (One snap) := by
  refine selI_pw (f := sF l snap) (fun i j hi hj hij h1 h2 e e1 e2 => ?_) _
  rw [sF_at hi, decide_eq_false (by omega), Bool.false_or, beq_iff_eq] at h1
  rw [sF_at hj, decide_eq_false (by omega), Bool.false_or, beq_iff_eq, ← e, h1] at h2
  omega
theorem someF_id {t : List dVersion} {snap : Int} (h : t.Pairwise (One snap)) : someF t snap = t := by
  have : selI t (sF t snap) t.length = t.take t.length := selI_all (fun i hi => ?_) _ (Nat.le_refl _)
  · rw [List.take_length] at this; exact this
  rw [sF_at hi, Bool.or_eq_true, decide_eq_true_eq, beq_iff_eq]
  by_cases hs : t[i].2.2.2 > snap
  · exact .inl hs
  · refine .inr ?_
    rcases atN_c t t[i].1 snap t.length (Nat.le_refl _) with ⟨_, h2⟩ | ⟨j, hj, _, h2, h3, h4, _⟩
    · exact absurd (by omega) (h2 i hi hi rfl)
    · have e : j = i := by
        rcases Nat.lt_trichotomy j i with h5 | h5 | h5
        · exact (List.pairwise_iff_getElem.1 h j i hj hi h5 h3 h4 (by omega)).elim
        · exact h5
        · exact (List.pairwise_iff_getElem.1 h i j hi hj h5 h3.symm (by omega) h4).elim
      rw [h2, e]
noncomputable def trP (s : List dVersion) (snap : Int) (v : dVersion) : Bool := !v.2.2.1 || (decide (v.2.2.2 > snap) || decide (((cntF s v.1 : Nat) : Int) > 1))
theorem trF_id (l : List dVersion) (snap : Int) : trF (trF l snap) snap = trF l snap := by
  have h1 : (trF l snap).Pairwise (One snap) := (someF_one l snap).sublist List.filter_sublist
  show (someF (trF l snap) snap).filter (trP (someF (trF l snap) snap) snap) = _
  rw [someF_id h1, List.filter_eq_self]
  intro v hv
  have hv2 : v ∈ (someF l snap).filter (trP (someF l snap) snap) := hv
  rw [List.mem_filter] at hv2
  have hp := hv2.2
  unfold trP at hp ⊢
  simp only [Bool.or_eq_true, Bool.not_eq_true', decide_eq_true_eq] at hp ⊢
  rcases hp with h | h | h
  · exact .inl h
  · exact .inr (.inl h)
  · refine .inr (.inr ?_)
    have e : cntF (trF l snap) v.1 = cntF (someF l snap) v.1 := by
      show (((someF l snap).filter (trP (someF l snap) snap)).filter fun u => strEq u.1 v.1).length = _
      rw [List.filter_filter, cntF]
      congr 1
      refine List.filter_congr fun u _ => ?_
      cases hk : strEq u.1 v.1 with
      | false => rfl
      | true =>
        rw [Bool.true_and]
        unfold trP
        rw [strEq_iff.1 hk, decide_eq_true h, Bool.or_true, Bool.or_true]
    rw [e]; exact h
theorem tdF_id (b : dBase) (o : List dTxn) : tdF (tdF b o) o = tdF b o := by
  show (trF (trF b.1 (oldF b.2.2.2.1 o)) (oldF b.2.2.2.1 o), ((b.2.1.filter _).filter (fun t => decide (t.2.2.2.1 > oldF b.2.2.2.1 o))), b.2.2.1, b.2.2.2) = _
  rw [trF_id, List.filter_filter]
  simp only [Bool.and_self]
  rfl
/-! What is seen. -/
noncomputable def seenF (l : List dVersion) (key : ByteArray) (snap : Int) : ByteArray × Bool :=
  bif decide (atN l key snap l.length < 0) then (⟨#[]⟩, false) else bif (rd zVersion l (atN l key snap l.length)).2.2.1 then (⟨#[]⟩, false) else ((rd zVersion l (atN l key snap l.length)).2.1, true)
theorem SeenAt_a {l : List dVersion} (hl : l.length ≤ 1000000) (key : ByteArray) (snap : Int) : An (spec_SeenAt_k (l, key, snap)) (fun z => z = seenF l key snap) := by
  have hr := atN_r l key snap l.length (Nat.le_refl _)
  refine An.fn (An.bind (l06At_a hl key snap) fun y hy => ?_)
  subst hy
  unfold seenF
  dsimp only
  refine An.bif (fun h => An.ret (by rw [h]; rfl)) fun h => An.ite (by have := of_decide_eq_false h; omega) (An.bif (fun h2 => An.ret (by rw [h, h2]; rfl)) fun h2 => An.ite (by have := of_decide_eq_false h; omega) (An.ret (by rw [h, h2]; rfl)))
/-- The version that is seen. -/
def Sees (l : List dVersion) (key : ByteArray) (snap : Int) (v : dVersion) : Prop := v ∈ l ∧ v.1 = key ∧ v.2.2.2 ≤ snap ∧ ∀ u ∈ l, u.1 = key → u.2.2.2 ≤ snap → u.2.2.2 ≤ v.2.2.2
theorem seen_c (l : List dVersion) (key : ByteArray) (snap : Int) : (seenF l key snap = (⟨#[]⟩, false) ∧ ∀ v ∈ l, v.1 = key → ¬ v.2.2.2 ≤ snap) ∨ ∃ i, ∃ h : i < l.length, atN l key snap l.length = (i : Int) ∧ Sees l key snap l[i] ∧ seenF l key snap = bif l[i].2.2.1 then (⟨#[]⟩, false) else (l[i].2.1, true) := by
  rcases atN_c l key snap l.length (Nat.le_refl _) with ⟨h1, h2⟩ | ⟨i, hi, _, h2, h3, h4, h5⟩
  · refine .inl ⟨by unfold seenF; rw [h1]; rfl, fun v hv => ?_⟩
    obtain ⟨j, hj, rfl⟩ := List.getElem_of_mem hv
    exact h2 j hj hj
  · refine .inr ⟨i, hi, h2, ⟨List.getElem_mem hi, h3, h4, fun u hu => ?_⟩, by unfold seenF; rw [h2, decide_eq_false (by omega), rd_get _ _ _ hi]; rfl⟩
    obtain ⟨j, hj, rfl⟩ := List.getElem_of_mem hu
    exact h5 j hj hj
theorem vLt_uniq {l : List dVersion} (h : l.Pairwise vLt) {u v : dVersion} (hu : u ∈ l) (hv : v ∈ l) (h1 : u.1 = v.1) (h2 : u.2.2.2 = v.2.2.2) : u = v := by
  obtain ⟨i, hi, rfl⟩ := List.getElem_of_mem hu
  obtain ⟨j, hj, rfl⟩ := List.getElem_of_mem hv
  have ne : ∀ a b : dVersion, vLt a b → a.1 = b.1 → a.2.2.2 = b.2.2.2 → False := fun a b hab e1 e2 => by
    rcases hab with h | h
    · rw [e1, strLess_irrefl] at h; cases h
    · omega
  rcases Nat.lt_trichotomy i j with h3 | h3 | h3
  · exact (ne _ _ (List.pairwise_iff_getElem.1 h i j hi hj h3) h1 h2).elim
  · subst h3; rfl
  · exact (ne _ _ (List.pairwise_iff_getElem.1 h j i hj hi h3) h1.symm h2.symm).elim
theorem Sees.uniq {l : List dVersion} (h : l.Pairwise vLt) {key : ByteArray} {snap : Int} {u v : dVersion} (hu : Sees l key snap u) (hv : Sees l key snap v) : u = v :=
  vLt_uniq h hu.1 hv.1 (hu.2.1.trans hv.2.1.symm) (by have a := hu.2.2.2 v hv.1 hv.2.1 hv.2.2.1; have b := hv.2.2.2 u hu.1 hu.2.1 hu.2.2.1; omega)
theorem seen_of {l : List dVersion} (h : l.Pairwise vLt) {key : ByteArray} {snap : Int} {v : dVersion} (hv : Sees l key snap v) : seenF l key snap = bif v.2.2.1 then (⟨#[]⟩, false) else (v.2.1, true) := by
  rcases seen_c l key snap with ⟨_, h2⟩ | ⟨i, hi, _, h2, h3⟩
  · exact absurd hv.2.2.1 (h2 v hv.1 hv.2.1)
  · rw [h3, Sees.uniq h h2 hv]
theorem seen_eq {l m : List dVersion} (hl : l.Pairwise vLt) (hm : m.Pairwise vLt) {key : ByteArray} {s t : Int} (h : ∀ v : dVersion, v.2.2.1 = false → (Sees l key s v ↔ Sees m key t v)) : seenF l key s = seenF m key t := by
  rcases seen_c l key s with ⟨h1, h2⟩ | ⟨i, hi, _, h2, h3⟩
  · rw [h1]
    rcases seen_c m key t with ⟨g1, _⟩ | ⟨j, hj, _, g2, g3⟩
    · rw [g1]
    · rw [g3]
      cases hg : m[j].2.2.1 with
      | true => rfl
      | false =>
        have := (h _ hg).2 g2
        exact absurd this.2.2.1 (h2 _ this.1 this.2.1)
  · cases hg : l[i].2.2.1 with
    | false => rw [h3, seen_of hm ((h _ hg).1 h2)]
    | true =>
      rw [h3, hg]
      rcases seen_c m key t with ⟨g1, _⟩ | ⟨j, hj, _, g2, g3⟩
      · rw [g1]; rfl
      · rw [g3]
        cases hg2 : m[j].2.2.1 with
        | true => rfl
        | false =>
          have := Sees.uniq hl ((h _ hg2).2 g2) h2
          rw [this, hg] at hg2
          cases hg2
theorem seen_tr {l : List dVersion} (hp : l.Pairwise vLt) {cs : Int} (hc : ∀ v ∈ l, v.2.2.2 ≤ cs) (key : ByteArray) : seenF (trF l cs) key cs = seenF l key cs := by
  have hs := trF_sub l cs
  have inn : ∀ v : dVersion, v.2.2.1 = false → Sees l key cs v → v ∈ trF l cs := fun v hg hv => by
    rcases atN_c l key cs l.length (Nat.le_refl _) with ⟨_, h2⟩ | ⟨i, hi, _, h2, h3, h4, h5⟩
    · obtain ⟨j, hj, rfl⟩ := List.getElem_of_mem hv.1
      exact absurd hv.2.2.1 (h2 j hj hj hv.2.1)
    · have e : v = l[i] := Sees.uniq hp hv ⟨List.getElem_mem hi, h3, h4, fun u hu => by
        obtain ⟨j, hj, rfl⟩ := List.getElem_of_mem hu
        exact h5 j hj hj⟩
      refine List.mem_filter.2 ⟨someF_mem.2 ⟨i, hi, .inr (by rw [h3]; exact h2), e⟩, by rw [hg]; rfl⟩
  refine seen_eq (hp.sublist hs) hp fun v hg => ⟨fun h => ?_, fun h => ⟨inn v hg h, h.2.1, h.2.2.1, fun u hu => h.2.2.2 u (hs.subset hu)⟩⟩
  refine ⟨hs.subset h.1, h.2.1, h.2.2.1, fun u hu e1 e2 => ?_⟩
  obtain ⟨i, hi, h3, e⟩ := someF_mem.1 (List.mem_filter.1 h.1).1
  subst e
  rcases h3 with h3 | h3
  · have := hc _ (List.getElem_mem hi); omega
  · rw [h.2.1] at h3
    rcases atN_c l key cs l.length (Nat.le_refl _) with ⟨h4, _⟩ | ⟨j, hj, _, h4, _, _, h5⟩
    · omega
    · have : i = j := by omega
      subst this
      obtain ⟨k, hk, rfl⟩ := List.getElem_of_mem hu
      exact h5 k hk hk e1 e2
/-! What is scanned. -/
noncomputable def keysF (l : List dVersion) (r : dRange) : List ByteArray := ((l.map (·.1)).filter (inR r)).foldl (insK id) []
noncomputable def scF (l : List dVersion) (snap : Int) (ks : List ByteArray) : List dRange := (ks.filter fun k => (seenF l k snap).2).map fun k => (k, (seenF l k snap).1)
theorem ScanAt_a {l : List dVersion} (hl : l.length ≤ 100000) (r : dRange) (snap : Int) : An (spec_ScanAt_k (l, r, snap)) (fun z => z = scF l snap (keysF l r)) := by
  have hk : (keysF l r).length ≤ 100000 := by
    have e1 := foldl_insK_len ((l.map (·.1)).filter (inR r)) []
    have e2 := List.length_filter_le (inR r) (l.map (·.1))
    simp only [List.length_nil, List.length_map] at e1 e2
    unfold keysF; omega
  refine An.fn (An.bind (l06Keys_a hl r) fun y1 h1 => ?_)
  replace h1 : y1 = keysF l r := h1
  rw [← h1] at hk ⊢
  refine An.bind (P := fun z => z.2 = scF l snap y1) (An.run (n := y1.length) (fun i => ((i : Int), scF l snap (y1.take i))) (by omega) rfl (fun i hi => ?_) ?_) fun z hz => An.ret hz
  · have e : scF l snap (y1.take (i + 1)) = scF l snap (y1.take i) ++ (bif (seenF l y1[i] snap).2 then [(y1[i], (seenF l y1[i] snap).1)] else []) := by
      rw [List.take_succ_eq_append_getElem hi, scF, List.filter_append, List.map_append, scF]
      cases h : (seenF l y1[i] snap).2 <;> simp [h]
    have hL : (scF l snap (y1.take i)).length ≤ i := by
      have := List.length_filter_le (fun k => (seenF l k snap).2) (y1.take i)
      rw [List.length_take] at this
      rw [scF, List.length_map]; omega
    refine An.lb ?_
    dsimp only
    rw [rd_get _ _ _ hi, e, ← wsucc (by omega)]
    refine An.dec (fun _ => An.ite (by omega) (An.bind (SeenAt_a (by omega) _ _) fun y3 h3 => An.bif (fun h => An.ite (by omega) (An.ite (by simp [maxLen_eq]; omega) (An.ret ?_))) fun h => An.ret ?_)) fun h => absurd (by omega) h
    · rw [h3] at h ⊢; rw [h]; rfl
    · rw [h3] at h; rw [h]; simp
  · refine An.lb (An.dec (fun h => absurd h (by dsimp only; omega)) fun _ => An.ret ?_)
    simp only [Sum.elim_inr, List.take_length]
theorem keys_pw (ks : List ByteArray) : ∀ {out : List ByteArray}, (out.Pairwise fun a b => strLess a b = true) → (ks.foldl (insK id) out).Pairwise fun a b => strLess a b = true := by
  induction ks with
  | nil => intro out h; exact h
  | cons a ks ih => intro out h; exact ih (insK_pw (key := id) h)
theorem insK_has {out : List ByteArray} {w y : ByteArray} : y ∈ insK id out w ↔ y = w ∨ y ∈ out := by
  refine ⟨insK_mem, fun h => ?_⟩
  rcases h with rfl | h
  · simp [insK]
  · cases h1 : strLess y w with
    | true => exact List.mem_append.2 (.inl (List.mem_filter.2 ⟨h, h1⟩))
    | false =>
      cases h2 : strEq y w with
      | true => rw [strEq_iff.1 h2]; simp [insK]
      | false => exact List.mem_append.2 (.inr (List.mem_cons_of_mem _ (List.mem_filter.2 ⟨h, by show (!(strLess y w || strEq y w)) = true; rw [h1, h2]; rfl⟩)))
theorem keys_has {ks : List ByteArray} {y : ByteArray} : ∀ {out : List ByteArray}, y ∈ ks.foldl (insK id) out ↔ y ∈ ks ∨ y ∈ out := by
  induction ks with
  | nil => intro out; simp
  | cons a ks ih =>
    intro out
    rw [List.foldl_cons, ih, insK_has, List.mem_cons]
    exact ⟨fun h => h.elim (fun h => .inl (.inr h)) fun h => h.elim (fun h => .inl (.inl h)) .inr, fun h => h.elim (fun h => h.elim (fun h => .inr (.inl h)) .inl) fun h => .inr (.inr h)⟩
theorem pw_ext {l m : List ByteArray} (hl : l.Pairwise fun a b => strLess a b = true) (hm : m.Pairwise fun a b => strLess a b = true) (h : ∀ x, x ∈ l ↔ x ∈ m) : l = m := by
  induction l generalizing m with
  | nil => cases m with
    | nil => rfl
    | cons b m => exact absurd ((h b).2 (List.mem_cons_self ..)) (by simp)
  | cons a l ih =>
    cases m with
    | nil => exact absurd ((h a).1 (List.mem_cons_self ..)) (by simp)
    | cons b m =>
      rw [List.pairwise_cons] at hl hm
      have e : a = b := by
        rcases List.mem_cons.1 ((h a).1 (List.mem_cons_self ..)) with e | e
        · exact e
        · rcases List.mem_cons.1 ((h b).2 (List.mem_cons_self ..)) with e2 | e2
          · exact e2.symm
          · have h1 := hl.1 b e2
            have h2 := hm.1 a e
            rw [strLess_asymm h1] at h2; cases h2
      subst e
      rw [ih hl.2 hm.2 fun x => ⟨fun hx => ?_, fun hx => ?_⟩]
      · rcases List.mem_cons.1 ((h x).1 (List.mem_cons_of_mem _ hx)) with e | e
        · subst e; have := hl.1 _ hx; rw [strLess_irrefl] at this; cases this
        · exact e
      · rcases List.mem_cons.1 ((h x).2 (List.mem_cons_of_mem _ hx)) with e | e
        · subst e; have := hm.1 _ hx; rw [strLess_irrefl] at this; cases this
        · exact e
theorem keysF_mem {l : List dVersion} {r : dRange} {k : ByteArray} : k ∈ keysF l r ↔ inR r k = true ∧ ∃ v ∈ l, v.1 = k := by
  rw [keysF, keys_has, List.mem_filter, List.mem_map]
  simp [and_comm]
/-- The same is scanned where the same is seen. -/
theorem sc_eq {l m : List dVersion} {s t : Int} {r : dRange} (h : ∀ key, seenF l key s = seenF m key t) : scF l s (keysF l r) = scF m t (keysF m r) := by
  have has : ∀ (l : List dVersion) (s : Int) (k : ByteArray), (seenF l k s).2 = true → ∃ v ∈ l, v.1 = k := fun l s k hk => by
    rcases seen_c l k s with ⟨h1, _⟩ | ⟨i, hi, _, h2, _⟩
    · rw [h1] at hk; cases hk
    · exact ⟨_, h2.1, h2.2.1⟩
  have e : ((keysF l r).filter fun k => (seenF l k s).2) = (keysF m r).filter fun k => (seenF m k t).2 := by
    refine pw_ext ((keys_pw _ List.Pairwise.nil).sublist List.filter_sublist) ((keys_pw _ List.Pairwise.nil).sublist List.filter_sublist) fun x => ?_
    rw [List.mem_filter, List.mem_filter, keysF_mem, keysF_mem, h x]
    exact ⟨fun ⟨⟨h1, _⟩, h2⟩ => ⟨⟨h1, has m t x h2⟩, h2⟩, fun ⟨⟨h1, _⟩, h2⟩ => ⟨⟨h1, has l s x (by rw [h x]; exact h2)⟩, h2⟩⟩
  unfold scF
  rw [e]
  refine List.map_congr_left fun k _ => by rw [h k]
end Go.VE
namespace Go.VE
set_option linter.unusedVariables false
set_option linter.unusedSimpArgs false
theorem DrawTidied_a {x : List Int} (hx : x.length ≤ 1048576) : An (spec_DrawTidied_k x) (fun z => BI z.1 ∧ z.2.length ≤ 100) :=
  An.fn (An.bind (P := fun z => BI z.1 ∧ z.2.length ≤ 100) (An.fn (An.bind (l01New_a hx) fun y1 g1 => An.bind (l09Open_a g1) fun y2 g2 => An.bind (l09Any_a g2.1) fun y3 g3 => An.ret ⟨g3.1, g2.2⟩)) fun y1 g1 => An.ret g1)
theorem DrawBaseOk_a {x : List Int} (hx : x.length ≤ 1048576) : An (spec_DrawBaseOk_k x) BI := An.fn (An.bind (l01New_a hx) fun y1 g1 => An.bind (l09Any_a g1) fun y2 g2 => An.ret g2.1)
theorem all_l : An (laws_all_k ()) (fun z => z = (⟨#[97]⟩, ⟨#[122, 122, 122]⟩)) := An.fn (An.ret rfl)
theorem samePairs_l {l : List dRange} (hl : l.length ≤ 1000000) : An (laws_samePairs_k (l, l)) (fun z => z = true) := by
  refine An.fn (An.bne (fun h => absurd rfl h) fun _ => An.bind2 (P := fun _ => False) (P' := fun _ => True) (An.go (n := l.length) (by omega) (fun i hi => ?_) ?_) (fun _ h => h.elim) fun _ _ => An.ret rfl)
  · refine An.lb ?_
    dsimp only
    refine (An.dec (fun _ => An.ite (by omega) (An.ite (by omega) (An.nt (fun h => absurd (eqB_refl tRange _ rfl) (by rw [h]; decide)) fun _ => An.ret rfl))) fun h => absurd (by omega) h)
  · exact An.lb (An.dec (fun h => absurd h (by dsimp only; omega)) fun _ => An.ret trivial)
theorem sc_len {l : List dVersion} (hl : l.length ≤ 100000) (r : dRange) (snap : Int) : (scF l snap (keysF l r)).length ≤ 100000 := by
  have e1 := foldl_insK_len ((l.map (·.1)).filter (inR r)) []
  have e2 := List.length_filter_le (inR r) (l.map (·.1))
  have e3 := List.length_filter_le (fun k => (seenF l k snap).2) (keysF l r)
  simp only [List.length_nil, List.length_map] at e1 e2
  rw [scF, List.length_map]
  unfold keysF at e3 ⊢
  omega
theorem law_FnTidy (x : List Int) : An (laws_FnTidy_k x) (fun z => z = true) := by
  refine An.fn (An.bind (big_a x) fun y1 g1 => An.bif (fun _ => An.ret rfl) fun h1 => ?_)
  have hx := g1 h1
  refine An.bind (DrawTidied_a hx) fun y2 g2 => An.bind (Tidied_i g2.1.1 (by omega)) fun y3 h3 => An.bind (OldestOf_i (by omega)) fun y4 h4 => An.bind (DrawBaseOk_a hx) fun y5 g5 => An.bind (DrawBase_a hx) fun b gb => ?_
  obtain ⟨hb, _⟩ := gb
  have sb := sm_base hb
  have l1 := hb.1.2.2
  refine An.bind (Tidied_i sb (by simp)) fun y7 h7 => An.bind (Tidied_a g2.1.1 (by omega)) fun y8 h8 => ?_
  have s3 : Sm tBase y3 := by rw [h3]; exact sm_tdF g2.1.1 _
  have b7 : BOk y7 := by rw [h7]; exact BOk_td hb _
  refine An.bind (sameBase_l s3 (by rw [h3, h8])) fun y9 g9 => An.bif (fun _ => An.bind (OldestOf_a (by omega)) fun y10 h10 => An.beq (fun _ => An.bind (Tidied_i s3 (by omega)) fun y11 h11 => ?_) fun h => absurd (by rw [h4, h10]) h) fun h => by rw [g9] at h; cases h
  have e11 : y3 = y11 := by rw [h11, h3, tdF_id]
  refine An.bind (sameBase_l (by rw [← e11]; exact s3) e11) fun y12 g12 => An.bif (fun _ => An.bind (BaseOk_i g5.1) fun y13 h13 => An.bind (BaseOk_a g5.1) fun y14 h14 => ?_) fun h => by rw [g12] at h; cases h
  have e13 : y13 = y14 := Bool.eq_iff_iff.2 (h13.trans h14.symm)
  refine An.bif (fun _ => An.bind (BaseOk_i sb) fun y15 h15 => An.bif (fun _ => An.bind (BaseOk_i (sm_base b7)) fun y16 h16 => An.bif (fun _ => An.beq (fun _ => ?_) fun h => absurd ?_ h) fun h => by rw [h16.2 b7] at h; cases h) fun h => by rw [h15.2 hb] at h; cases h) fun h => by rw [e13, beq_self_eq_true] at h; cases h
  · have l7 := b7.1.2.2
    have ecs : y7.2.2.2.1 = b.2.2.2.1 := by rw [h7]; rfl
    have ev : y7.1 = trF b.1 b.2.2.2.1 := by rw [h7]; rfl
    refine An.bind all_l fun y17 e17 => An.bind (ScanAt_a (by omega) _ _) fun y18 h18 => An.bind all_l fun y19 e19 => An.bind (ScanAt_a (by omega) _ _) fun y20 h20 => ?_
    have e20 : y20 = y18 := by
      rw [h18, h20, e17, e19, ecs, ev]
      exact sc_eq fun key => (seen_tr ((asc_pw vLt_tr).1 hb.1.2.1) hb.2.2.2.2.2.1 key).symm
    rw [e20]
    refine An.bind (samePairs_l (by rw [h18]; have := sc_len (l := y7.1) (by omega) y17 y7.2.2.2.1; omega)) fun y21 g21 => An.bif (fun _ => An.bind (P := fun z => z = (0, 1)) (An.fn (An.ret rfl)) fun y22 h22 => ?_) fun h => by rw [g21] at h; cases h
    subst h22
    exact An.bind (BaseOk_i (sm_base BOk_new)) fun y23 h23 => An.ret (h23.2 BOk_new)
  · have : y7.2.1 = [] := by
      rw [h7]
      show b.2.1.filter _ = []
      refine List.filter_eq_nil_iff.2 fun t ht => ?_
      have := (hb.2.2.2.2.2.2.1.1 t ht).2.2
      rw [decide_eq_true_eq]
      show ¬ (t.2.2.2.1 > b.2.2.2.1)
      omega
    rw [this]; rfl
end Go.VE
