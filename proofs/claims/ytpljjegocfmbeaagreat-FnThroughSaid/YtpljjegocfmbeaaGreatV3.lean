/- The steps of the state: a new block, a block written, a region that takes another's place, a region frozen. -/
import Derived.Test.YtpljjegocfmbeaaGreatV2
namespace Go.VE
set_option linter.unusedVariables false

/-- Not a block of one of these regions. -/
def NotOf (μ : List Slot) (l : List Nat) (b : Nat) : Prop := ∀ r ∈ l, ∀ sl, μ[r]? = some sl → sl.blk ≠ some b

section
variable {X : Nat → Prop} {h : Heap} {μ : List Slot} {s : St}

theorem Inv.slot (inv : Inv X h μ s) {r : Nat} (hr : r < s.length) : ∃ sl, μ[r]? = some sl :=
  ⟨_, List.getElem?_eq_getElem (inv.len ▸ hr)⟩

theorem Inv.lt (inv : Inv X h μ s) {r : Nat} {sl : Slot} (hr : μ[r]? = some sl) : r < s.length := by
  rw [← inv.len]
  rcases Nat.lt_or_ge r μ.length with h1 | h1
  · exact h1
  · rw [List.getElem?_eq_none h1] at hr; cases hr

theorem Inv.blk_lt (inv : Inv X h μ s) {r : Nat} {sl : Slot} {b : Nat} (hr : μ[r]? = some sl) (hl : (getR s r).live = true) (hb : sl.blk = some b) : b < h.size := by
  have h1 := inv.reg r sl hr
  generalize getR s r = g at h1 hl
  have key : ∀ {k : Nat} {o : Obj}, h[k]? = some o → k < h.size := by
    intro k o hk
    rcases Nat.lt_or_ge k h.size with h2 | h2
    · exact h2
    · rw [Array.getElem?_eq_none h2] at hk; cases hk
  cases g with
  | box cs =>
    obtain ⟨k, c, el, fr, e, hc, _⟩ := h1
    rw [hb] at e; cases e
    exact key hc
  | arr e xs =>
    rcases h1 with ⟨h2, _⟩ | ⟨k, c, el, fr, e', hc, _⟩
    · rw [hb] at h2; cases h2
    · rw [hb] at e'; cases e'
      exact key hc
  | frz e xs => cases hl
  | gone => cases hl

/-- What a new block is to hold. -/
def Fills (h : Heap) (I : Nat → Prop) (μ : List Slot) (s : St) (c : Array Value) (cap : Nat) : Rg → Prop
  | .box cs => RVs h I μ s cs c.toList
  | .arr e xs => c.size = cap * e.size ∧ xs.length ≤ cap ∧ ∀ i (hi : i < xs.length), Rep h I e ((c.toList.drop (i * e.size)).take e.size) xs[i]
  | _ => False

theorem RegOk.of_fills {h h' : Heap} {I I' : Nat → Prop} {μ μ' : List Slot} {s s' : St} {sl : Slot} {k : Nat} {c : Array Value} {el : TypeId} {fr : Nat × Nat}
    (hI : ∀ b, I b → I' b ∧ h'[b]? = h[b]?) (hv : ∀ a v, RV h I μ s a v → RV h' I' μ' s' a v) (hs : sl.blk = some k) (hk : h'[k]? = some (.cells c el fr)) (hn : NoFrz c fr) :
    ∀ g : Rg, Fills h I μ s c sl.cap g → RegOk h' I' μ' s' sl g
  | .box cs, hf => ⟨k, c, el, fr, hs, hk, hn, RVs.mono hI (fun a v _ => hv a v) _ _ hf⟩
  | .arr e xs, hf => .inr ⟨k, c, el, fr, hs, hk, hn, hf.1, hf.2.1, fun i hi => Rep.mono hI _ _ _ (hf.2.2 i hi)⟩
  | .frz _ _, hf => hf.elim
  | .gone, hf => hf.elim

theorem Fills.live {h : Heap} {I : Nat → Prop} {μ : List Slot} {s : St} {c : Array Value} {cap : Nat} : ∀ {g : Rg}, Fills h I μ s c cap g → g.live = true
  | .box _, _ => rfl
  | .arr _ _, _ => rfl
  | .frz _ _, hf => hf.elim
  | .gone, hf => hf.elim

theorem get_app_left {α : Type} {l m : List α} {r : Nat} {a : α} (h : (l ++ m)[r]? = some a) (hr : r < l.length) : l[r]? = some a := by
  rwa [List.getElem?_append_left hr] at h

theorem ref_mono_app {h' : Heap} {I' : Nat → Prop} (inv : Inv X h μ s) (sl : List Slot) (g : List Rg) (hsame : ∀ b, Im X h μ s b → I' b ∧ h'[b]? = h[b]?) :
    ∀ a v, a.ref? = true → RV h (Im X h μ s) μ s a v → RV h' I' (μ ++ sl) (s ++ g) a v := by
  intro a v ha hv
  cases a with
  | own r =>
    simp only [RV] at hv ⊢
    obtain ⟨x, h1, h2⟩ := hv
    have hlt := inv.lt h1
    refine ⟨x, by rw [List.getElem?_append_left (inv.len ▸ hlt)]; exact h1, ?_⟩
    rw [getR_app_left s g r hlt]
    revert h2
    cases getR s r with
    | box _ => exact id
    | arr _ _ => exact id
    | frz e xs => exact Rep.mono hsame _ _ _
    | gone => exact id
  | bp r off =>
    simp only [RV] at hv ⊢
    obtain ⟨x, h1, h2⟩ := hv
    have hlt := inv.lt h1
    refine ⟨x, by rw [List.getElem?_append_left (inv.len ▸ hlt)]; exact h1, ?_⟩
    rw [getR_app_left s g r hlt]
    exact h2
  | ep r i off =>
    simp only [RV] at hv ⊢
    obtain ⟨x, h1, h2⟩ := hv
    have hlt := inv.lt h1
    refine ⟨x, by rw [List.getElem?_append_left (inv.len ▸ hlt)]; exact h1, ?_⟩
    rw [getR_app_left s g r hlt]
    exact h2
  | win r lo =>
    simp only [RV] at hv ⊢
    obtain ⟨x, h1, h2⟩ := hv
    have hlt := inv.lt h1
    refine ⟨x, by rw [List.getElem?_append_left (inv.len ▸ hlt)]; exact h1, ?_⟩
    rw [getR_app_left s g r hlt]
    exact h2
  | _ => cases ha

/-- A new block. -/
theorem alloc_step (inv : Inv X h μ s) (g : Rg) (c : Array Value) (el : TypeId) (fr : Nat × Nat) (cap : Nat) (hn : NoFrz c fr)
    (hg : Fills h (Im X h μ s) μ s c cap g) :
    Inv X (h.push (.cells c el fr)) (μ ++ [⟨some h.size, cap⟩]) (s ++ [g]) ∧ Ext X h μ s (h.push (.cells c el fr)) (μ ++ [⟨some h.size, cap⟩]) (s ++ [g]) := by
  have hold : ∀ b, b < h.size → (h.push (.cells c el fr))[b]? = h[b]? := fun b hb => by
    rw [Array.getElem?_push]; simp [Nat.ne_of_lt hb]
  have hslot : ∀ r sl, (μ ++ [⟨some h.size, cap⟩])[r]? = some sl → (r < s.length ∧ μ[r]? = some sl) ∨ (r = s.length ∧ sl = ⟨some h.size, cap⟩) := by
    intro r sl hr
    rcases Nat.lt_or_ge r s.length with h1 | h1
    · exact .inl ⟨h1, get_app_left hr (inv.len ▸ h1)⟩
    · have : r < (μ ++ [(⟨some h.size, cap⟩ : Slot)]).length := by
        rcases Nat.lt_or_ge r (μ ++ [(⟨some h.size, cap⟩ : Slot)]).length with h2 | h2
        · exact h2
        · rw [List.getElem?_eq_none h2] at hr; cases hr
      simp [inv.len] at this
      have e : r = s.length := by omega
      subst e
      rw [← inv.len] at hr
      simp at hr
      exact .inr ⟨rfl, hr.symm⟩
  have hgl : ∀ r, r < s.length → getR (s ++ [g]) r = getR s r := fun r => getR_app_left s [g] r
  have hgn : getR (s ++ [g]) s.length = g := by simpa [getR] using getR_app_right s [g] 0
  have hnew : ∀ r sl b, (μ ++ [⟨some h.size, cap⟩])[r]? = some sl → (getR (s ++ [g]) r).live = true → sl.blk = some b → h.size ≤ b ∨ ¬ Free μ s b := by
    intro r sl b hr hl hb
    rcases hslot r sl hr with ⟨h1, h2⟩ | ⟨h1, h2⟩
    · rw [hgl r h1] at hl
      exact .inr fun hf => hf r sl h2 hl hb
    · subst h2; cases hb; exact .inl (Nat.le_refl _)
  have ext : Ext X h μ s (h.push (.cells c el fr)) (μ ++ [⟨some h.size, cap⟩]) (s ++ [g]) :=
    Ext.mk' (by simp) (fun b hb _ => hold b hb) hnew
      (ref_mono_app inv _ _ (fun b hb => ⟨Im.later (by simp) hnew hb, hold b hb.1⟩)) (by simp)
  refine ⟨⟨by simp [inv.len], ?_, ?_, ?_, fun b hb => Nat.lt_of_lt_of_le (inv.xlt b hb) ext.size⟩, ext⟩
  · intro r sl hr
    rcases hslot r sl hr with ⟨h1, h2⟩ | ⟨h1, h2⟩
    · rw [hgl r h1]
      exact RegOk.mono ext.im ext.rv _ (fun b hl hb => hold b (inv.blk_lt h2 hl hb)) (inv.reg r sl h2)
    · subst h1 h2
      rw [hgn]
      refine RegOk.of_fills (sl := ⟨some h.size, cap⟩) ext.im ext.rv rfl (k := h.size) (c := c) (el := el) (fr := fr) ?_ hn g hg
      simp
  · intro r r' sl sl' b hne hr hr' hl hl' hb
    rcases hslot r sl hr with ⟨h1, h2⟩ | ⟨h1, h2⟩ <;> rcases hslot r' sl' hr' with ⟨h1', h2'⟩ | ⟨h1', h2'⟩
    · rw [hgl r h1] at hl; rw [hgl r' h1'] at hl'
      exact inv.dis r r' sl sl' b hne h2 h2' hl hl' hb
    · subst h2'
      rw [hgl r h1] at hl
      have := inv.blk_lt h2 hl hb
      intro e; cases e; omega
    · subst h2
      rw [hgl r' h1'] at hl'
      cases hb
      intro e
      have := inv.blk_lt h2' hl' e
      omega
    · omega
  · intro r sl b hr hl hb
    rcases hslot r sl hr with ⟨h1, h2⟩ | ⟨h1, h2⟩
    · rw [hgl r h1] at hl
      exact inv.notX r sl b h2 hl hb
    · subst h2; cases hb
      intro hx
      have := inv.xlt _ hx
      omega

/-- A region without a block. -/
theorem none_step (inv : Inv X h μ s) (e : Ty) :
    Inv X h (μ ++ [⟨none, 0⟩]) (s ++ [.arr e []]) ∧ Ext X h μ s h (μ ++ [⟨none, 0⟩]) (s ++ [.arr e []]) := by
  have hslot : ∀ r sl, (μ ++ [⟨none, 0⟩])[r]? = some sl → (r < s.length ∧ μ[r]? = some sl) ∨ (r = s.length ∧ sl = ⟨none, 0⟩) := by
    intro r sl hr
    rcases Nat.lt_or_ge r s.length with h1 | h1
    · exact .inl ⟨h1, get_app_left hr (inv.len ▸ h1)⟩
    · have : r < (μ ++ [(⟨none, 0⟩ : Slot)]).length := by
        rcases Nat.lt_or_ge r (μ ++ [(⟨none, 0⟩ : Slot)]).length with h2 | h2
        · exact h2
        · rw [List.getElem?_eq_none h2] at hr; cases hr
      simp [inv.len] at this
      have e : r = s.length := by omega
      subst e
      rw [← inv.len] at hr
      simp at hr
      exact .inr ⟨rfl, hr.symm⟩
  have hgl : ∀ r, r < s.length → getR (s ++ [.arr e []]) r = getR s r := fun r => getR_app_left s _ r
  have hgn : getR (s ++ [.arr e []]) s.length = .arr e [] := by simpa [getR] using getR_app_right s [.arr e []] 0
  have hnew : ∀ r sl b, (μ ++ [⟨none, 0⟩])[r]? = some sl → (getR (s ++ [.arr e []]) r).live = true → sl.blk = some b → h.size ≤ b ∨ ¬ Free μ s b := by
    intro r sl b hr hl hb
    rcases hslot r sl hr with ⟨h1, h2⟩ | ⟨h1, h2⟩
    · rw [hgl r h1] at hl
      exact .inr fun hf => hf r sl h2 hl hb
    · subst h2; cases hb
  have ext : Ext X h μ s h (μ ++ [⟨none, 0⟩]) (s ++ [.arr e []]) :=
    Ext.mk' (Nat.le_refl _) (fun b hb _ => rfl) hnew
      (ref_mono_app inv _ _ (fun b hb => ⟨Im.later (Nat.le_refl _) hnew hb, rfl⟩)) (by simp)
  refine ⟨⟨by simp [inv.len], ?_, ?_, ?_, fun b hb => Nat.lt_of_lt_of_le (inv.xlt b hb) ext.size⟩, ext⟩
  · intro r sl hr
    rcases hslot r sl hr with ⟨h1, h2⟩ | ⟨h1, h2⟩
    · rw [hgl r h1]
      exact RegOk.mono ext.im ext.rv _ (fun b hl hb => rfl) (inv.reg r sl h2)
    · subst h1 h2
      rw [hgn]
      exact .inl ⟨rfl, rfl, rfl⟩
  · intro r r' sl sl' b hne hr hr' hl hl' hb
    rcases hslot r sl hr with ⟨h1, h2⟩ | ⟨h1, h2⟩ <;> rcases hslot r' sl' hr' with ⟨h1', h2'⟩ | ⟨h1', h2'⟩
    · rw [hgl r h1] at hl; rw [hgl r' h1'] at hl'
      exact inv.dis r r' sl sl' b hne h2 h2' hl hl' hb
    · subst h2'; exact fun e => nomatch e
    · subst h2; cases hb
    · omega
  · intro r sl b hr hl hb
    rcases hslot r sl hr with ⟨h1, h2⟩ | ⟨h1, h2⟩
    · rw [hgl r h1] at hl
      exact inv.notX r sl b h2 hl hb
    · subst h2; cases hb

/-- Alike for those who hold a reference. -/
def Alike : Rg → Rg → Prop
  | .box _, .box _ => True
  | .arr e xs, .arr e' xs' => e = e' ∧ xs.length = xs'.length
  | _, _ => False

theorem Alike.cases : ∀ {g g' : Rg}, Alike g g' → (∃ cs cs', g = .box cs ∧ g' = .box cs') ∨ ∃ e xs xs', g = .arr e xs ∧ g' = .arr e xs' ∧ xs.length = xs'.length
  | .box cs, .box cs', _ => .inl ⟨cs, cs', rfl, rfl⟩
  | .arr e xs, .arr _ xs', ⟨rfl, hl⟩ => .inr ⟨e, xs, xs', rfl, rfl, hl⟩

/-- A live region's block is written. -/
theorem write_step (inv : Inv X h μ s) (r : Nat) (sl : Slot) (k : Nat) (g : Rg) (h' : Heap) (c : Array Value) (el : TypeId) (fr : Nat × Nat)
    (hr : μ[r]? = some sl) (hk : sl.blk = some k) (hal : Alike (getR s r) g) (hsz : h'.size = h.size) (hoth : ∀ b, b ≠ k → h'[b]? = h[b]?)
    (hkk : h'[k]? = some (.cells c el fr)) (hn : NoFrz c fr) (hg : Fills h (Im X h μ s) μ s c sl.cap g) :
    Inv X h' μ (setR s r g) ∧ Ext X h μ s h' μ (setR s r g) := by
  have hlt := inv.lt hr
  have hlive : (getR s r).live = true := by
    revert hal; cases getR s r <;> cases g <;> simp [Alike, Rg.live]
  have hgl : g.live = true := hg.live
  have hget : ∀ j, getR (setR s r g) j = if j = r then g else getR s j := fun j => getR_setR s r j g hlt
  have hlv : ∀ j, (getR (setR s r g) j).live = (getR s j).live := by
    intro j; rw [hget]; split
    · rename_i e; rw [e, hlive, hgl]
    · rfl
  have hfree : ∀ b, Free μ (setR s r g) b ↔ Free μ s b := by
    intro b
    constructor
    · intro hf j sl' hj hl; exact hf j sl' hj (by rw [hlv]; exact hl)
    · intro hf j sl' hj hl; exact hf j sl' hj (by rw [← hlv]; exact hl)
  have hne : ∀ b, Free μ s b → b ≠ k := fun b hf e => hf r sl hr hlive (e ▸ hk)
  have hnew : ∀ j sl' b, μ[j]? = some sl' → (getR (setR s r g) j).live = true → sl'.blk = some b → h.size ≤ b ∨ ¬ Free μ s b := by
    intro j sl' b hj hl hb
    rw [hlv] at hl
    exact .inr fun hf => hf j sl' hj hl hb
  have him : ∀ b, Im X h μ s b → Im X h' μ (setR s r g) b ∧ h'[b]? = h[b]? := fun b hb => ⟨Im.later (Nat.le_of_eq hsz.symm) hnew hb, hoth b (hne b hb.2.2)⟩
  have ext : Ext X h μ s h' μ (setR s r g) := by
    refine Ext.mk' (Nat.le_of_eq hsz.symm) (fun b _ hf => hoth b (hne b hf)) hnew ?_ (by rw [setR_length]; exact Nat.le_refl _)
    intro a v ha hv
    cases a with
    | own j =>
      simp only [RV] at hv ⊢
      obtain ⟨x, h1, h2⟩ := hv
      refine ⟨x, h1, ?_⟩
      rw [hget]
      by_cases e : j = r
      · subst e
        rw [if_pos rfl]
        rcases hal.cases with ⟨cs, cs', e1, e2⟩ | ⟨e0, xs, xs', e1, e2, e3⟩
        · rw [e1] at h2; exact h2.elim
        · rw [e1] at h2; rw [e2]
          obtain ⟨a, ha, hb⟩ := h2
          exact ⟨a, e3 ▸ ha, hb⟩
      · rw [if_neg e]
        revert h2
        cases getR s j with
        | box _ => exact id
        | arr _ _ => exact id
        | frz e xs => exact Rep.mono him _ _ _
        | gone => exact id
    | bp j off =>
      simp only [RV] at hv ⊢
      obtain ⟨x, h1, h2⟩ := hv
      refine ⟨x, h1, ?_⟩
      rw [hget]
      by_cases e : j = r
      · subst e
        rw [if_pos rfl]
        rcases hal.cases with ⟨cs, cs', e1, e2⟩ | ⟨e0, xs, xs', e1, e2, e3⟩
        · rw [e1] at h2; rw [e2]; exact h2
        · rw [e1] at h2; exact h2.elim
      · rw [if_neg e]; exact h2
    | ep j i off =>
      simp only [RV] at hv ⊢
      obtain ⟨x, h1, h2⟩ := hv
      refine ⟨x, h1, ?_⟩
      rw [hget]
      by_cases e : j = r
      · subst e
        rw [if_pos rfl]
        rcases hal.cases with ⟨cs, cs', e1, e2⟩ | ⟨e0, xs, xs', e1, e2, e3⟩
        · rw [e1] at h2; exact h2.elim
        · rw [e1] at h2; rw [e2]; exact ⟨e3 ▸ h2.1, h2.2⟩
      · rw [if_neg e]; exact h2
    | win j lo =>
      simp only [RV] at hv ⊢
      obtain ⟨x, h1, h2⟩ := hv
      refine ⟨x, h1, ?_⟩
      rw [hget]
      by_cases e : j = r
      · subst e
        rw [if_pos rfl]
        rcases hal.cases with ⟨cs, cs', e1, e2⟩ | ⟨e0, xs, xs', e1, e2, e3⟩
        · rw [e1] at h2; exact h2.elim
        · rw [e1] at h2; rw [e2]
          simp only [← e3]; exact h2
      · rw [if_neg e]; exact h2
    | _ => cases ha
  refine ⟨⟨by rw [setR_length]; exact inv.len, ?_, ?_, ?_, fun b hb => Nat.lt_of_lt_of_le (inv.xlt b hb) ext.size⟩, ext⟩
  · intro j sl' hj
    rw [hget]
    by_cases e : j = r
    · subst e
      rw [if_pos rfl]
      rw [hr] at hj; cases hj
      exact RegOk.of_fills ext.im ext.rv hk hkk hn g hg
    · rw [if_neg e]
      exact RegOk.mono ext.im ext.rv _ (fun b hl hb => hoth b fun e' => inv.dis j r sl' sl b e hj hr hl hlive hb (e' ▸ hk)) (inv.reg j sl' hj)
  · intro j j' sl1 sl2 b hne hj hj' hl hl'
    rw [hlv] at hl hl'
    exact inv.dis j j' sl1 sl2 b hne hj hj' hl hl'
  · intro j sl1 b hj hl
    rw [hlv] at hl
    exact inv.notX j sl1 b hj hl

/-- A live array is given up, a new region takes its content's place: in its block or in a new one. -/
theorem move_step (inv : Inv X h μ s) (r : Nat) (sl sl' : Slot) (k : Nat) (g : Rg) (h' : Heap) (c : Array Value) (el : TypeId) (fr : Nat × Nat)
    (hr : μ[r]? = some sl) (harr : ∃ e xs, getR s r = .arr e xs) (hk : sl'.blk = some k) (hwh : sl.blk = some k ∨ k = h.size) (hsz : h.size ≤ h'.size)
    (hoth : ∀ b, b < h.size → b ≠ k → h'[b]? = h[b]?)
    (hkk : h'[k]? = some (.cells c el fr)) (hn : NoFrz c fr) (hg : Fills h (Im X h μ s) μ s c sl'.cap g) :
    Inv X h' (μ ++ [sl']) (setR s r .gone ++ [g]) ∧ Ext X h μ s h' (μ ++ [sl']) (setR s r .gone ++ [g]) := by
  have hlt := inv.lt hr
  have hlive : (getR s r).live = true := by obtain ⟨e, xs, he⟩ := harr; rw [he]; rfl
  have hlen : (setR s r .gone).length = s.length := setR_length _ _ _
  have hget : ∀ j, j < s.length → getR (setR s r .gone ++ [g]) j = if j = r then .gone else getR s j := fun j hj => by
    rw [getR_app_left _ _ _ (hlen ▸ hj), getR_setR s r j _ hlt]
  have hgn : getR (setR s r .gone ++ [g]) s.length = g := by
    have := getR_app_right (setR s r .gone) [g] 0
    rw [hlen] at this
    simpa [getR] using this
  have hslot : ∀ j x, (μ ++ [sl'])[j]? = some x → (j < s.length ∧ μ[j]? = some x) ∨ (j = s.length ∧ x = sl') := by
    intro j x hj
    rcases Nat.lt_or_ge j s.length with h1 | h1
    · exact .inl ⟨h1, get_app_left hj (inv.len ▸ h1)⟩
    · have : j < (μ ++ [sl']).length := by
        rcases Nat.lt_or_ge j (μ ++ [sl']).length with h2 | h2
        · exact h2
        · rw [List.getElem?_eq_none h2] at hj; cases hj
      simp [inv.len] at this
      have e : j = s.length := by omega
      subst e
      rw [← inv.len] at hj
      simp at hj
      exact .inr ⟨rfl, hj.symm⟩
  have hlv : ∀ j, j < s.length → (getR (setR s r .gone ++ [g]) j).live = true → j ≠ r ∧ (getR s j).live = true := by
    intro j hj hl
    rw [hget j hj] at hl
    by_cases e : j = r
    · rw [if_pos e] at hl; cases hl
    · rw [if_neg e] at hl; exact ⟨e, hl⟩
  have hne : ∀ b, b < h.size → Free μ s b → b ≠ k := fun b hb hf e => by
    rcases hwh with h1 | h1
    · exact hf r sl hr hlive (e ▸ h1)
    · omega
  have hnew : ∀ j x b, (μ ++ [sl'])[j]? = some x → (getR (setR s r .gone ++ [g]) j).live = true → x.blk = some b → h.size ≤ b ∨ ¬ Free μ s b := by
    intro j x b hj hl hb
    rcases hslot j x hj with ⟨h1, h2⟩ | ⟨h1, h2⟩
    · exact .inr fun hf => hf j x h2 (hlv j h1 hl).2 hb
    · subst h2
      rw [hk] at hb; cases hb
      rcases hwh with h3 | h3
      · exact .inr fun hf => hf r sl hr hlive h3
      · exact .inl (by omega)
  have him : ∀ b, Im X h μ s b → Im X h' (μ ++ [sl']) (setR s r .gone ++ [g]) b ∧ h'[b]? = h[b]? := fun b hb => ⟨Im.later hsz hnew hb, hoth b hb.1 (hne b hb.1 hb.2.2)⟩
  have ext : Ext X h μ s h' (μ ++ [sl']) (setR s r .gone ++ [g]) := by
    refine Ext.mk' hsz (fun b hb hf => hoth b hb (hne b hb hf)) hnew ?_ (by simp [hlen])
    intro a v ha hv
    cases a with
    | own j =>
      simp only [RV] at hv ⊢
      obtain ⟨x, h1, h2⟩ := hv
      have hj := inv.lt h1
      refine ⟨x, by rw [List.getElem?_append_left (inv.len ▸ hj)]; exact h1, ?_⟩
      rw [hget j hj]
      by_cases e : j = r
      · rw [if_pos e]
        subst e
        obtain ⟨e0, xs0, he0⟩ := harr
        rw [he0] at h2
        obtain ⟨a0, rfl, _⟩ := h2
        rfl
      · rw [if_neg e]
        revert h2
        cases getR s j with
        | box _ => exact id
        | arr _ _ => exact id
        | frz e xs => exact Rep.mono him _ _ _
        | gone => exact id
    | bp j off =>
      simp only [RV] at hv ⊢
      obtain ⟨x, h1, h2⟩ := hv
      have hj := inv.lt h1
      refine ⟨x, by rw [List.getElem?_append_left (inv.len ▸ hj)]; exact h1, ?_⟩
      rw [hget j hj]
      by_cases e : j = r
      · subst e
        obtain ⟨e0, xs0, he0⟩ := harr
        rw [he0] at h2
        exact h2.elim
      · rw [if_neg e]; exact h2
    | ep j i off =>
      simp only [RV] at hv ⊢
      obtain ⟨x, h1, h2⟩ := hv
      have hj := inv.lt h1
      refine ⟨x, by rw [List.getElem?_append_left (inv.len ▸ hj)]; exact h1, ?_⟩
      rw [hget j hj]
      by_cases e : j = r
      · rw [if_pos e]
        subst e
        obtain ⟨e0, xs0, he0⟩ := harr
        rw [he0] at h2
        obtain ⟨_, k0, _, rfl⟩ := h2
        rfl
      · rw [if_neg e]; exact h2
    | win j lo =>
      simp only [RV] at hv ⊢
      obtain ⟨x, h1, h2⟩ := hv
      have hj := inv.lt h1
      refine ⟨x, by rw [List.getElem?_append_left (inv.len ▸ hj)]; exact h1, ?_⟩
      rw [hget j hj]
      by_cases e : j = r
      · rw [if_pos e]
        subst e
        obtain ⟨e0, xs0, he0⟩ := harr
        rw [he0] at h2
        obtain ⟨_, a0, rfl, _⟩ := h2
        rfl
      · rw [if_neg e]; exact h2
    | _ => cases ha
  have hkey : ∀ j x b, j < s.length → μ[j]? = some x → (getR (setR s r .gone ++ [g]) j).live = true → x.blk = some b → b ≠ k := by
    intro j x b hj hx hl hb e
    have h1 := hlv j hj hl
    rcases hwh with h3 | h3
    · exact inv.dis j r x sl b h1.1 hx hr h1.2 hlive hb (e ▸ h3)
    · have := inv.blk_lt hx h1.2 hb; omega
  refine ⟨⟨by simp [hlen, inv.len], ?_, ?_, ?_, fun b hb => Nat.lt_of_lt_of_le (inv.xlt b hb) ext.size⟩, ext⟩
  · intro j x hj
    rcases hslot j x hj with ⟨h1, h2⟩ | ⟨h1, h2⟩
    · rw [hget j h1]
      by_cases e : j = r
      · rw [if_pos e]; trivial
      · rw [if_neg e]
        refine RegOk.mono ext.im ext.rv _ (fun b hl hb => hoth b (inv.blk_lt h2 hl hb) ?_) (inv.reg j x h2)
        exact hkey j x b h1 h2 (by rw [hget j h1, if_neg e]; exact hl) hb
    · subst h1 h2
      rw [hgn]
      exact RegOk.of_fills ext.im ext.rv hk hkk hn g hg
  · intro j j' x x' b hjj hj hj' hl hl' hb
    rcases hslot j x hj with ⟨h1, h2⟩ | ⟨h1, h2⟩ <;> rcases hslot j' x' hj' with ⟨h1', h2'⟩ | ⟨h1', h2'⟩
    · exact inv.dis j j' x x' b hjj h2 h2' (hlv j h1 hl).2 (hlv j' h1' hl').2 hb
    · subst h2'
      intro e
      rw [hk] at e; cases e
      exact hkey j x _ h1 h2 hl hb rfl
    · subst h2
      rw [hk] at hb; cases hb
      intro e
      exact hkey j' x' _ h1' h2' hl' e rfl
    · omega
  · intro j x b hj hl hb
    rcases hslot j x hj with ⟨h1, h2⟩ | ⟨h1, h2⟩
    · exact inv.notX j x b h2 (hlv j h1 hl).2 hb
    · subst h2
      rw [hk] at hb; cases hb
      rcases hwh with h3 | h3
      · exact inv.notX r sl _ hr hlive h3
      · intro hx; have := inv.xlt _ hx; omega

/-- What an array's region holds, as a slice that is read. -/
theorem rep_of_arr {I I' : Nat → Prop} {e : Ty} {xs : List e.D} {sl : Slot} {v : Value} (hreg : RegOk h I μ s sl (.arr e xs)) (hI : ∀ b, I b → I' b)
    (hb : ∀ k, sl.blk = some k → I' k) (hv : ∃ a, v = .slice a xs.length sl.cap ∧ (sl.cap = 0 ∨ ∃ k, sl.blk = some k ∧ a = some ⟨k, 0, none⟩)) : Rep h I' (.slice e) [v] xs := by
  obtain ⟨a, rfl, ha⟩ := hv
  refine ⟨a, sl.cap, rfl, ?_, ?_⟩
  · rcases hreg with ⟨_, h0, h1⟩ | ⟨k, c, el, fr, _, _, _, _, h2, _⟩
    · rw [h1]; exact Nat.zero_le _
    · exact h2
  rcases hreg with ⟨_, _, h0⟩ | ⟨k, c, el, fr, hk, hc, hf, h1, h2, h3⟩
  · exact .inl h0
  · rcases ha with ha | ⟨k', hk', ha⟩
    · left
      have : xs.length = 0 := by omega
      simpa using this
    · rw [hk] at hk'; cases hk'
      refine .inr ⟨k, 0, ha, hb k hk, fun i hi => ⟨(c.toList.drop (i * e.size)).take e.size, ⟨c, el, fr, hc, ?_⟩, Rep.mono (fun b hb => ⟨hI b hb, rfl⟩) _ _ _ (h3 i hi)⟩⟩
      intro j v hj
      rw [List.getElem?_take] at hj
      split at hj
      · rw [List.getElem?_drop] at hj
        rw [Nat.zero_add, ← Array.getElem?_toList]; exact hj
      · cases hj

/-- An array is never written again. -/
theorem freeze1_step (inv : Inv X h μ s) (r : Nat) : Inv X h μ (freeze1 s r) ∧ Ext X h μ s h μ (freeze1 s r) := by
  unfold freeze1
  split
  · rename_i e xs he
    have hlt : r < s.length := lt_of_getR he (by simp)
    have hget : ∀ j, getR (setR s r (.frz e xs)) j = if j = r then .frz e xs else getR s j := fun j => getR_setR s r j _ hlt
    have hlv : ∀ j, (getR (setR s r (.frz e xs)) j).live = true → j ≠ r ∧ (getR s j).live = true := by
      intro j hl
      rw [hget] at hl
      by_cases e : j = r
      · rw [if_pos e] at hl; cases hl
      · rw [if_neg e] at hl; exact ⟨e, hl⟩
    have hnew : ∀ j x b, μ[j]? = some x → (getR (setR s r (.frz e xs)) j).live = true → x.blk = some b → h.size ≤ b ∨ ¬ Free μ s b := by
      intro j x b hj hl hb
      exact .inr fun hf => hf j x hj (hlv j hl).2 hb
    have him : ∀ b, Im X h μ s b → Im X h μ (setR s r (.frz e xs)) b ∧ h[b]? = h[b]? := fun b hb => ⟨Im.later (Nat.le_refl _) hnew hb, rfl⟩
    have ext : Ext X h μ s h μ (setR s r (.frz e xs)) := by
      refine Ext.mk' (Nat.le_refl _) (fun b hb hf => rfl) hnew ?_ (by rw [setR_length]; exact Nat.le_refl _)
      intro a v ha hv
      cases a with
      | own j =>
        simp only [RV] at hv ⊢
        obtain ⟨x, h1, h2⟩ := hv
        refine ⟨x, h1, ?_⟩
        rw [hget]
        by_cases e' : j = r
        · subst e'
          rw [if_pos rfl]
          rw [he] at h2
          have hreg := inv.reg j x h1
          rw [he] at hreg
          refine rep_of_arr hreg (fun b hb => (him b hb).1) ?_ h2
          intro k hk
          have hl : (getR s j).live = true := by rw [he]; rfl
          refine ⟨inv.blk_lt h1 hl hk, inv.notX j x k h1 hl hk, ?_⟩
          intro j' x' hj' hl' hb'
          have := hlv j' hl'
          exact inv.dis j' j x' x k this.1 hj' h1 this.2 hl hb' hk
        · rw [if_neg e']
          revert h2
          cases getR s j with
          | box _ => exact id
          | arr _ _ => exact id
          | frz e xs => exact Rep.mono him _ _ _
          | gone => exact id
      | bp j off =>
        simp only [RV] at hv ⊢
        obtain ⟨x, h1, h2⟩ := hv
        refine ⟨x, h1, ?_⟩
        rw [hget]
        by_cases e' : j = r
        · subst e'; rw [he] at h2; exact h2.elim
        · rw [if_neg e']; exact h2
      | ep j i off =>
        simp only [RV] at hv ⊢
        obtain ⟨x, h1, h2⟩ := hv
        refine ⟨x, h1, ?_⟩
        rw [hget]
        by_cases e' : j = r
        · rw [if_pos e']
          subst e'
          rw [he] at h2
          obtain ⟨_, k0, _, rfl⟩ := h2
          rfl
        · rw [if_neg e']; exact h2
      | win j lo =>
        simp only [RV] at hv ⊢
        obtain ⟨x, h1, h2⟩ := hv
        refine ⟨x, h1, ?_⟩
        rw [hget]
        by_cases e' : j = r
        · rw [if_pos e']
          subst e'
          rw [he] at h2
          obtain ⟨_, a0, rfl, _⟩ := h2
          rfl
        · rw [if_neg e']; exact h2
      | _ => cases ha
    refine ⟨⟨by rw [setR_length]; exact inv.len, ?_, ?_, ?_, fun b hb => Nat.lt_of_lt_of_le (inv.xlt b hb) ext.size⟩, ext⟩
    · intro j x hj
      rw [hget]
      by_cases e' : j = r
      · rw [if_pos e']; trivial
      · rw [if_neg e']
        exact RegOk.mono ext.im ext.rv _ (fun b hl hb => rfl) (inv.reg j x hj)
    · intro j j' x x' b hjj hj hj' hl hl' hb
      exact inv.dis j j' x x' b hjj hj hj' (hlv j hl).2 (hlv j' hl').2 hb
    · intro j x b hj hl hb
      exact inv.notX j x b hj (hlv j hl).2 hb
  · exact ⟨inv, Ext.refl _ _ _ _⟩

theorem freeze_step : ∀ (l : List Nat) {s : St} (inv : Inv X h μ s), Inv X h μ (freeze s l) ∧ Ext X h μ s h μ (freeze s l)
  | [], s, inv => ⟨inv, Ext.refl _ _ _ _⟩
  | r :: l, s, inv => by
    obtain ⟨i1, e1⟩ := freeze1_step inv r
    obtain ⟨i2, e2⟩ := freeze_step l i1
    exact ⟨i2, e1.trans e2⟩

end
end Go.VE
