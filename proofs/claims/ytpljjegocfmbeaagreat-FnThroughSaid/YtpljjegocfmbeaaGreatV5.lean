/- What a call leaves, told in the caller's names. -/
import Derived.Test.YtpljjegocfmbeaaGreatV4
namespace Go.VE
set_option linter.unusedVariables false

theorem Rep.flat {h h' : Heap} {I I' : Nat → Prop} : ∀ (T : Ty), T.flat = true → ∀ (cs : List Value) (x : T.D), Rep h I T cs x → Rep h' I' T cs x
  | .int _, _, _, _, hr => hr
  | .bool, _, _, _, hr => hr
  | .str, _, _, _, hr => hr
  | .pair a b, hf, _, _, ⟨c, d, e, h1, h2⟩ => by
    simp only [Ty.flat, Bool.and_eq_true] at hf
    exact ⟨c, d, e, Rep.flat a hf.1 c _ h1, Rep.flat b hf.2 d _ h2⟩
  | .slice _, hf, _, _, _ => by simp [Ty.flat] at hf

theorem ren2_live (f : Nat → Nat) (g : Rg) : (g.ren2 f).live = g.live := by cases g <;> rfl

section
variable {h : Heap} {I1 I2 : Nat → Prop} {μ1 μ2 : List Slot} {s1 s2 : St}

mutual
theorem RV.ren2 (ρ : Nat → Nat) (hq : ∀ j sl, μ1[j]? = some sl → μ2[ρ j]? = some sl ∧ getR s2 (ρ j) = (getR s1 j).ren2 ρ)
    (hz : (∀ b, I1 b → I2 b) ∨ ∀ j e xs, getR s1 j ≠ .frz e xs) :
    ∀ (a : AV) (v : Value), ((∀ b, I1 b → I2 b) ∨ a.hasLst = false) → RV h I1 μ1 s1 a v → RV h I2 μ2 s2 (a.ren2 ρ) v
  | .int _ _, _, _, hv => by simpa only [RV, AV.ren2] using hv
  | .bool _, _, _, hv => by simpa only [RV, AV.ren2] using hv
  | .str _, _, _, hv => by simpa only [RV, AV.ren2] using hv
  | .lst e xs, v, hn, hv => by
    simp only [RV, AV.ren2] at hv ⊢
    rcases hn with hn | hn
    · exact Rep.mono (fun b hb => ⟨hn b hb, rfl⟩) _ _ _ hv
    · simp [AV.hasLst] at hn
  | .nilS, _, _, hv => by simpa only [RV, AV.ren2] using hv
  | .own r, v, _, hv => by
    simp only [RV, AV.ren2] at hv ⊢
    obtain ⟨sl, h1, h2⟩ := hv
    obtain ⟨q1, q2⟩ := hq r sl h1
    refine ⟨sl, q1, ?_⟩
    rw [q2]
    cases hg : getR s1 r with
    | box cs => rw [hg] at h2; exact h2.elim
    | arr e xs => rw [hg] at h2; simp only [Rg.ren2]; exact h2
    | frz e xs =>
      rw [hg] at h2; simp only [Rg.ren2]
      rcases hz with hz | hz
      · exact Rep.mono (fun b hb => ⟨hz b hb, rfl⟩) _ _ _ h2
      · exact absurd hg (hz r e xs)
    | gone => rw [hg] at h2; simp only [Rg.ren2]; exact h2
  | .bp b off, v, _, hv => by
    simp only [RV, AV.ren2] at hv ⊢
    obtain ⟨sl, h1, h2⟩ := hv
    obtain ⟨q1, q2⟩ := hq b sl h1
    refine ⟨sl, q1, ?_⟩
    rw [q2]
    cases hg : getR s1 b with
    | box cs => rw [hg] at h2; simp only [Rg.ren2]; exact h2
    | arr e xs => rw [hg] at h2; exact h2.elim
    | frz e xs => rw [hg] at h2; exact h2.elim
    | gone => rw [hg] at h2; exact h2.elim
  | .ep r i off, v, _, hv => by
    simp only [RV, AV.ren2] at hv ⊢
    obtain ⟨sl, h1, h2⟩ := hv
    obtain ⟨q1, q2⟩ := hq r sl h1
    refine ⟨sl, q1, ?_⟩
    rw [q2]
    cases hg : getR s1 r with
    | box cs => rw [hg] at h2; exact h2.elim
    | arr e xs => rw [hg] at h2; simp only [Rg.ren2]; exact h2
    | frz e xs => rw [hg] at h2; simp only [Rg.ren2]; exact h2
    | gone => rw [hg] at h2; simp only [Rg.ren2]; exact h2
  | .win r lo, v, _, hv => by
    simp only [RV, AV.ren2] at hv ⊢
    obtain ⟨sl, h1, h2⟩ := hv
    obtain ⟨q1, q2⟩ := hq r sl h1
    refine ⟨sl, q1, ?_⟩
    rw [q2]
    cases hg : getR s1 r with
    | box cs => rw [hg] at h2; exact h2.elim
    | arr e xs => rw [hg] at h2; simp only [Rg.ren2]; exact h2
    | frz e xs => rw [hg] at h2; simp only [Rg.ren2]; exact h2
    | gone => rw [hg] at h2; simp only [Rg.ren2]; exact h2
  | .ip T x off, v, hn, hv => by
    simp only [RV, AV.ren2] at hv ⊢
    obtain ⟨b, o, cs, hb, hc, hx, e⟩ := hv
    rcases hn with hn | hn
    · exact ⟨b, o, cs, hn b hb, hc, Rep.mono (fun b hb => ⟨hn b hb, rfl⟩) _ _ _ hx, e⟩
    · simp [AV.hasLst] at hn
  | .fn f caps, v, hn, hv => by
    simp only [RV, AV.ren2] at hv ⊢
    obtain ⟨vs, e, hs⟩ := hv
    exact ⟨vs, e, RVs.ren2 ρ hq hz caps _ (hn.imp id fun hn => by simpa [AV.hasLst] using hn) hs⟩
  | .agg cs, v, hn, hv => by
    simp only [RV, AV.ren2] at hv ⊢
    obtain ⟨vs, e, hs⟩ := hv
    exact ⟨vs, e, RVs.ren2 ρ hq hz cs _ (hn.imp id fun hn => by simpa [AV.hasLst] using hn) hs⟩
  | .tup cs, v, hn, hv => by
    simp only [RV, AV.ren2] at hv ⊢
    obtain ⟨vs, e, hs⟩ := hv
    exact ⟨vs, e, RVs.ren2 ρ hq hz cs _ (hn.imp id fun hn => by simpa [AV.hasLst] using hn) hs⟩
  | .dead, _, _, _ => by simp only [RV, AV.ren2]
theorem RVs.ren2 (ρ : Nat → Nat) (hq : ∀ j sl, μ1[j]? = some sl → μ2[ρ j]? = some sl ∧ getR s2 (ρ j) = (getR s1 j).ren2 ρ)
    (hz : (∀ b, I1 b → I2 b) ∨ ∀ j e xs, getR s1 j ≠ .frz e xs) :
    ∀ (as : List AV) (vs : List Value), ((∀ b, I1 b → I2 b) ∨ hasLstL as = false) → RVs h I1 μ1 s1 as vs → RVs h I2 μ2 s2 (renL2 ρ as) vs
  | [], _, _, hv => by simpa only [RVs, renL2] using hv
  | a :: as, vs, hn, hv => by
    simp only [RVs, renL2] at hv ⊢
    obtain ⟨v, r, e, h1, h2⟩ := hv
    exact ⟨v, r, e, RV.ren2 ρ hq hz a v (hn.imp id fun hn => by simp [hasLstL] at hn; exact hn.1) h1,
      RVs.ren2 ρ hq hz as r (hn.imp id fun hn => by simp [hasLstL] at hn; exact hn.2) h2⟩
end
end

theorem anyLst_get : ∀ {s : St} (hs : anyLst s = false) (j : Nat), (getR s j).hasLst = false
  | [], _, j => by cases j <;> rfl
  | g :: l, hs, 0 => by simp [anyLst] at hs; exact hs.1
  | g :: l, hs, j + 1 => by simp [anyLst] at hs; exact anyLst_get hs.2 j

/-- What the callee may not look at: the caller's own, and live arrays that it was not handed. -/
def Beyond (X : Nat → Prop) (μ : List Slot) (s : St) (ids seen : List Nat) (b : Nat) : Prop :=
  X b ∨ ∃ r sl, μ[r]? = some sl ∧ (getR s r).live = true ∧ sl.blk = some b ∧ r ∉ ids ∧ r ∉ seen

section
variable {X : Nat → Prop} {h h' : Heap} {μ μ1 μ2 : List Slot} {s s1 s2 : St} {ids seen : List Nat} {ρ : Nat → Nat}

theorem back_step (inv : Inv X h μ s) (hd : ids.Nodup) (hlv : ∀ r ∈ ids, (getR s r).live = true)
    (inv1 : Inv (Beyond X μ s ids seen) h' μ1 s1) (ext1 : Ext (Beyond X μ s ids seen) h (slots μ ids) (restrict s ids ids) h' μ1 s1)
    (q1 : ∀ j sl, μ1[j]? = some sl → μ2[ρ j]? = some sl ∧ getR s2 (ρ j) = (getR s1 j).ren2 ρ)
    (q2 : ∀ r, r < s.length → r ∉ ids → μ2[r]? = μ[r]? ∧ (getR s2 r = getR s r ∨ ∃ e xs, getR s r = .arr e xs ∧ getR s2 r = .frz e xs))
    (q3 : ∀ r sl, μ2[r]? = some sl → (∃ j, μ1[j]? = some sl ∧ r = ρ j) ∨ (r < s.length ∧ r ∉ ids ∧ μ[r]? = some sl))
    (q4 : μ2.length = s2.length) (q4' : s.length ≤ s2.length) (q5 : ∀ j r, ids[j]? = some r → ρ j = r)
    (hcase : (∀ r ∈ seen, (getR s2 r).live = false) ∨ anyLst s1 = false) :
    Inv X h' μ2 s2 ∧ Ext X h μ s h' μ2 s2 ∧
      ∀ v cv, ((∀ r ∈ seen, (getR s2 r).live = false) ∨ v.hasLst = false) → RV h' (Im (Beyond X μ s ids seen) h' μ1 s1) μ1 s1 v cv → RV h' (Im X h' μ2 s2) μ2 s2 (v.ren2 ρ) cv := by
  have hq3 : ∀ r sl b, μ2[r]? = some sl → (getR s2 r).live = true → sl.blk = some b →
      (∃ j, μ1[j]? = some sl ∧ r = ρ j ∧ (getR s1 j).live = true) ∨ (r < s.length ∧ r ∉ ids ∧ μ[r]? = some sl ∧ (getR s r).live = true ∧ getR s2 r = getR s r) := by
    intro r sl b hr hl hb
    rcases q3 r sl hr with ⟨j, h1, h2⟩ | ⟨h1, h2, h3⟩
    · left
      refine ⟨j, h1, h2, ?_⟩
      rw [h2, (q1 j sl h1).2, ren2_live] at hl
      exact hl
    · right
      rcases (q2 r h1 h2).2 with h4 | ⟨e, xs, h4, h5⟩
      · exact ⟨h1, h2, h3, h4 ▸ hl, h4⟩
      · rw [h5] at hl; cases hl
  have hfree0 : ∀ b, Free μ s b → Free (slots μ ids) (restrict s ids ids) b := fun b => Free.slots inv ids
  have hnew : ∀ r sl b, μ2[r]? = some sl → (getR s2 r).live = true → sl.blk = some b → h.size ≤ b ∨ ¬ Free μ s b := by
    intro r sl b hr hl hb
    rcases hq3 r sl b hr hl hb with ⟨j, h1, h2, h3⟩ | ⟨h1, h2, h3, h4, h5⟩
    · rcases ext1.new j sl b h1 h3 hb with h6 | h6
      · exact .inl h6
      · exact .inr fun hf => h6 (hfree0 b hf)
    · exact .inr fun hf => hf r sl h3 h4 hb
  have hsame : ∀ b, b < h.size → Free μ s b → h'[b]? = h[b]? := fun b hb hf => ext1.same b hb (hfree0 b hf)
  have him : ∀ b, Im X h μ s b → Im X h' μ2 s2 b ∧ h'[b]? = h[b]? := fun b hb => ⟨Im.later ext1.size hnew hb, hsame b hb.1 hb.2.2⟩
  -- a block of a live region that was not handed over
  have hout : ∀ r sl b, r ∉ ids → μ[r]? = some sl → (getR s r).live = true → sl.blk = some b → Free (slots μ ids) (restrict s ids ids) b := by
    intro r sl b hni hr hl hb j sl' hj hl' hb'
    obtain ⟨r', h1, h2, h3⟩ := slots_live inv hj hl'
    exact inv.dis r r' sl sl' b (fun e => hni (e ▸ List.mem_of_getElem? h1)) hr h2 hl h3 hb hb'
  have hI12 : (∀ r ∈ seen, (getR s2 r).live = false) → ∀ b, Im (Beyond X μ s ids seen) h' μ1 s1 b → Im X h' μ2 s2 b := by
    intro hc b hb
    refine ⟨hb.1, fun hx => hb.2.1 (.inl hx), ?_⟩
    intro r sl hr hl he
    rcases hq3 r sl b hr hl he with ⟨j, h1, h2, h3⟩ | ⟨h1, h2, h3, h4, h5⟩
    · exact hb.2.2 j sl h1 h3 he
    · refine hb.2.1 (.inr ⟨r, sl, h3, h4, he, h2, ?_⟩)
      intro hs
      have := hc r hs
      rw [this] at hl; cases hl
  have hz : (∀ b, Im (Beyond X μ s ids seen) h' μ1 s1 b → Im X h' μ2 s2 b) ∨ ∀ j e xs, getR s1 j ≠ .frz e xs := by
    rcases hcase with hc | hc
    · exact .inl (hI12 hc)
    · right
      intro j e xs hg
      have := anyLst_get hc j
      rw [hg] at this; cases this
  have hval : ∀ v cv, ((∀ r ∈ seen, (getR s2 r).live = false) ∨ v.hasLst = false) → RV h' (Im (Beyond X μ s ids seen) h' μ1 s1) μ1 s1 v cv → RV h' (Im X h' μ2 s2) μ2 s2 (v.ren2 ρ) cv :=
    fun v cv hn hv => RV.ren2 ρ q1 hz v cv (hn.imp hI12 id) hv
  have hI0 : ∀ b, Im X h μ s b → Im (Beyond X μ s ids seen) h (slots μ ids) (restrict s ids ids) b := by
    intro b hb
    refine ⟨hb.1, ?_, hfree0 b hb.2.2⟩
    rintro (hx | ⟨r, sl, h1, h2, h3, _, _⟩)
    · exact hb.2.1 hx
    · exact hb.2.2 r sl h1 h2 h3
  have hlt0 : ∀ (r : Nat) (sl : Slot), μ[r]? = some sl → r < s.length := fun r sl hr => inv.lt hr
  have hrv : ∀ a v, a.ref? = true → RV h (Im X h μ s) μ s a v → RV h' (Im X h' μ2 s2) μ2 s2 a v := by
    intro a v ha hv
    -- what was handed over
    have hin : ∀ (r : Nat) (a' : AV), r ∈ ids → a' = a.ren s ids → a'.ren2 ρ = a → a'.hasLst = false → RV h' (Im X h' μ2 s2) μ2 s2 a v := by
      intro r a' hr e1 e2 e3
      have h1 := RV.ren hI0 ids a v hv
      rw [← e1] at h1
      have h2 := hval a' v (.inr e3) (ext1.rv a' v h1)
      rw [e2] at h2; exact h2
    cases a with
    | own r =>
      by_cases hr : r ∈ ids
      · obtain ⟨j, hj⟩ := idx_of_mem hr
        refine hin r (.own j) hr ?_ (by simp only [AV.ren2]; rw [q5 j r (idx_some hj)]) rfl
        have hl := hlv r hr
        simp only [AV.ren]
        cases hg : getR s r with
        | box cs => simp only [hj]
        | arr e xs => simp only [hj]
        | frz e xs => rw [hg] at hl; cases hl
        | gone => rw [hg] at hl; cases hl
      · simp only [RV] at hv ⊢
        obtain ⟨sl, h1, h2⟩ := hv
        obtain ⟨p1, p2⟩ := q2 r (hlt0 r sl h1) hr
        refine ⟨sl, p1.trans h1, ?_⟩
        rcases p2 with p2 | ⟨e, xs, p2, p3⟩
        · rw [p2]
          revert h2
          cases getR s r with
          | box _ => exact id
          | arr _ _ => exact id
          | frz e xs => exact Rep.mono him _ _ _
          | gone => exact id
        · rw [p3]
          rw [p2] at h2
          have hreg := inv.reg r sl h1
          rw [p2] at hreg
          have hl : (getR s r).live = true := by rw [p2]; rfl
          have hb' : ∀ b, sl.blk = some b → h'[b]? = h[b]? := fun b hb => ext1.same b (inv.blk_lt h1 hl hb) (hout r sl b hr h1 hl hb)
          have hreg' : RegOk h' (Im X h' μ2 s2) μ2 s2 sl (.arr e xs) := by
            rcases hreg with h0 | ⟨k, c, el, fr, g1, g2, g3, g4, g5, g6⟩
            · exact .inl h0
            · exact .inr ⟨k, c, el, fr, g1, (hb' k g1).trans g2, g3, g4, g5, fun i hi => Rep.mono him _ _ _ (g6 i hi)⟩
          refine rep_of_arr hreg' (fun b hb => hb) ?_ h2
          intro b hb
          refine ⟨Nat.lt_of_lt_of_le (inv.blk_lt h1 hl hb) ext1.size, inv.notX r sl b h1 hl hb, ?_⟩
          intro r' sl' hr' hl' hb2
          rcases hq3 r' sl' b hr' hl' hb2 with ⟨j, g1, g2, g3⟩ | ⟨g1, g2, g3, g4, g5⟩
          · rcases ext1.new j sl' b g1 g3 hb2 with g4 | g4
            · have := inv.blk_lt h1 hl hb; omega
            · exact g4 (hout r sl b hr h1 hl hb)
          · by_cases e' : r' = r
            · subst e'; rw [p3] at hl'; cases hl'
            · exact inv.dis r' r sl' sl b e' g3 h1 g4 hl hb2 hb
    | bp r off =>
      by_cases hr : r ∈ ids
      · obtain ⟨j, hj⟩ := idx_of_mem hr
        exact hin r (.bp j off) hr (by simp only [AV.ren, hj]) (by simp only [AV.ren2]; rw [q5 j r (idx_some hj)]) rfl
      · simp only [RV] at hv ⊢
        obtain ⟨sl, h1, h2⟩ := hv
        obtain ⟨p1, p2⟩ := q2 r (hlt0 r sl h1) hr
        refine ⟨sl, p1.trans h1, ?_⟩
        rcases p2 with p2 | ⟨e, xs, p2, p3⟩
        · rw [p2]; exact h2
        · rw [p2] at h2; exact h2.elim
    | ep r i off =>
      by_cases hr : r ∈ ids
      · obtain ⟨j, hj⟩ := idx_of_mem hr
        exact hin r (.ep j i off) hr (by simp only [AV.ren, hj]) (by simp only [AV.ren2]; rw [q5 j r (idx_some hj)]) rfl
      · simp only [RV] at hv ⊢
        obtain ⟨sl, h1, h2⟩ := hv
        obtain ⟨p1, p2⟩ := q2 r (hlt0 r sl h1) hr
        refine ⟨sl, p1.trans h1, ?_⟩
        rcases p2 with p2 | ⟨e, xs, p2, p3⟩
        · rw [p2]; exact h2
        · rw [p3]
          rw [p2] at h2
          obtain ⟨_, k0, _, rfl⟩ := h2
          rfl
    | win r lo =>
      by_cases hr : r ∈ ids
      · obtain ⟨j, hj⟩ := idx_of_mem hr
        exact hin r (.win j lo) hr (by simp only [AV.ren, hj]) (by simp only [AV.ren2]; rw [q5 j r (idx_some hj)]) rfl
      · simp only [RV] at hv ⊢
        obtain ⟨sl, h1, h2⟩ := hv
        obtain ⟨p1, p2⟩ := q2 r (hlt0 r sl h1) hr
        refine ⟨sl, p1.trans h1, ?_⟩
        rcases p2 with p2 | ⟨e, xs, p2, p3⟩
        · rw [p2]; exact h2
        · rw [p3]
          rw [p2] at h2
          obtain ⟨_, a0, rfl, _⟩ := h2
          rfl
    | _ => cases ha
  have ext : Ext X h μ s h' μ2 s2 := Ext.mk' ext1.size hsame hnew hrv q4'
  refine ⟨⟨q4, ?_, ?_, ?_, fun b hb => Nat.lt_of_lt_of_le (inv.xlt b hb) ext1.size⟩, ext, hval⟩
  · intro r sl hr
    rcases q3 r sl hr with ⟨j, h1, h2⟩ | ⟨h1, h2, h3⟩
    · subst h2
      rw [(q1 j sl h1).2]
      have hreg := inv1.reg j sl h1
      cases hg : getR s1 j with
      | frz e xs => trivial
      | gone => trivial
      | box cs =>
        rw [hg] at hreg
        obtain ⟨k, c, el, fr, g1, g2, g3, g4⟩ := hreg
        refine ⟨k, c, el, fr, g1, g2, g3, RVs.ren2 ρ q1 hz cs _ ?_ g4⟩
        rcases hcase with hc | hc
        · exact .inl (hI12 hc)
        · right
          have := anyLst_get hc j
          rw [hg] at this; exact this
      | arr e xs =>
        rw [hg] at hreg
        rcases hreg with h0 | ⟨k, c, el, fr, g1, g2, g3, g4, g5, g6⟩
        · exact .inl h0
        · refine .inr ⟨k, c, el, fr, g1, g2, g3, g4, g5, fun i hi => ?_⟩
          rcases hcase with hc | hc
          · exact Rep.mono (fun b hb => ⟨hI12 hc b hb, rfl⟩) _ _ _ (g6 i hi)
          · have := anyLst_get hc j
            rw [hg] at this
            exact Rep.flat _ (by simpa [Rg.hasLst] using this) _ _ (g6 i hi)
    · rcases (q2 r h1 h2).2 with p2 | ⟨e, xs, p2, p3⟩
      · rw [p2]
        refine RegOk.mono him ext.rv _ (fun b hl hb => ext1.same b (inv.blk_lt h3 hl hb) (hout r sl b h2 h3 hl hb)) (inv.reg r sl h3)
      · rw [p3]; trivial
  · intro r r' sl sl' b hrr hr hr' hl hl' hb hb'
    have mixed : ∀ j r0 sl0 sl0', μ1[j]? = some sl0 → (getR s1 j).live = true → sl0.blk = some b → r0 ∉ ids → μ[r0]? = some sl0' → (getR s r0).live = true → sl0'.blk = some b → False := by
      intro j r0 sl0 sl0' g1 g2 g3 g4 g5 g6 g7
      rcases ext1.new j sl0 b g1 g2 g3 with g8 | g8
      · have := inv.blk_lt g5 g6 g7; omega
      · exact g8 (hout r0 sl0' b g4 g5 g6 g7)
    rcases hq3 r sl b hr hl hb with ⟨j, h1, h2, h3⟩ | ⟨h1, h2, h3, h4, h5⟩ <;> rcases hq3 r' sl' b hr' hl' hb' with ⟨j', h1', h2', h3'⟩ | ⟨h1', h2', h3', h4', h5'⟩
    · exact inv1.dis j j' sl sl' b (fun e => hrr (by rw [h2, h2', e])) h1 h1' h3 h3' hb hb'
    · exact mixed j r' sl sl' h1 h3 hb h2' h3' h4' hb'
    · exact mixed j' r sl' sl h1' h3' hb' h2 h3 h4 hb
    · exact inv.dis r r' sl sl' b hrr h3 h3' h4 h4' hb hb'
  · intro r sl b hr hl hb
    rcases hq3 r sl b hr hl hb with ⟨j, h1, h2, h3⟩ | ⟨h1, h2, h3, h4, h5⟩
    · exact fun hx => inv1.notX j sl b h1 h3 hb (.inl hx)
    · exact inv.notX r sl b h3 h4 hb

end
end Go.VE
