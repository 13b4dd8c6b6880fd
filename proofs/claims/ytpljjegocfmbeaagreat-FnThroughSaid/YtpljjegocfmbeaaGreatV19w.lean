/- Nil slices told as empty ones that are owned. -/
import Derived.Test.YtpljjegocfmbeaaGreatV19q
namespace Go.VE
set_option linter.unusedVariables false
set_option linter.unusedSimpArgs false

section
variable {P : Program} {X : Nat → Prop} {h : Heap} {I : Nat → Prop} {μ : List Slot} {s : St}

def noSlots : List Ty → List Slot
  | [] => []
  | _ :: l => ⟨none, 0⟩ :: noSlots l

theorem noSlots_length : ∀ l : List Ty, (noSlots l).length = l.length
  | [] => rfl
  | _ :: l => by simp [noSlots, noSlots_length l]

theorem newOwn_length : ∀ l : List Ty, (newOwn l).length = l.length
  | [] => rfl
  | _ :: l => by simp [newOwn, newOwn_length l]

theorem nones_step : ∀ (l : List Ty) {μ : List Slot} {s : St} (inv : Inv X h μ s), Inv X h (μ ++ noSlots l) (s ++ newOwn l) ∧ Ext X h μ s h (μ ++ noSlots l) (s ++ newOwn l)
  | [], μ, s, inv => by simp only [noSlots, newOwn, List.append_nil]; exact ⟨inv, Ext.refl _ _ _ _⟩
  | e :: l, μ, s, inv => by
    obtain ⟨i1, e1⟩ := none_step inv e
    obtain ⟨i2, e2⟩ := nones_step l i1
    simp only [List.append_assoc, List.singleton_append] at i2 e2
    exact ⟨i2, e1.trans e2⟩

/-- From n on lie empty slices of these kinds. -/
def News (μ : List Slot) (s : St) (n : Nat) (ts : List Ty) : Prop := ∀ j e, ts[j]? = some e → μ[n + j]? = some ⟨none, 0⟩ ∧ getR s (n + j) = .arr e []

theorem News.left {n : Nat} {a b : List Ty} (hn : News μ s n (a ++ b)) : News μ s n a := fun j e h => hn j e (by
  have hlt : j < a.length := by
    rcases Nat.lt_or_ge j a.length with h1 | h1
    · exact h1
    · rw [List.getElem?_eq_none h1] at h; cases h
  rw [List.getElem?_append_left hlt]; exact h)

theorem News.right {n : Nat} {a b : List Ty} (hn : News μ s n (a ++ b)) : News μ s (n + a.length) b := fun j e h => by
  have := hn (a.length + j) e (by rw [List.getElem?_append_right (by omega)]; simpa using h)
  rw [show n + a.length + j = n + (a.length + j) by omega]
  exact this

mutual
theorem wide_rv : ∀ (v : AV) (n : Nat) (ws : List (Option Ty)) (cv : Value), News μ s n (v.wide n ws).2.2 → RV h I μ s v cv → RV h I μ s (v.wide n ws).1 cv
  | .nilS, n, [], cv, _, hv => by simpa only [AV.wide] using hv
  | .nilS, n, none :: ws, cv, _, hv => by simpa only [AV.wide] using hv
  | .nilS, n, some e :: ws, cv, hn, hv => by
    simp only [AV.wide] at hn ⊢
    simp only [RV] at hv ⊢
    obtain ⟨a, rfl⟩ := hv
    obtain ⟨h1, h2⟩ := hn 0 e rfl
    simp only [Nat.add_zero] at h1 h2
    refine ⟨_, h1, ?_⟩
    rw [h2]
    exact ⟨a, rfl, .inl rfl⟩
  | .agg cs, n, ws, cv, hn, hv => by
    simp only [AV.wide] at hn ⊢
    simp only [RV] at hv ⊢
    obtain ⟨vs, e, hs⟩ := hv
    exact ⟨vs, e, wideL_rv cs n ws _ hn hs⟩
  | .tup cs, n, ws, cv, hn, hv => by
    simp only [AV.wide] at hn ⊢
    simp only [RV] at hv ⊢
    obtain ⟨vs, e, hs⟩ := hv
    exact ⟨vs, e, wideL_rv cs n ws _ hn hs⟩
  | .int _ _, n, ws, cv, _, hv => by simpa only [AV.wide] using hv
  | .bool _, n, ws, cv, _, hv => by simpa only [AV.wide] using hv
  | .str _, n, ws, cv, _, hv => by simpa only [AV.wide] using hv
  | .lst _ _, n, [], cv, _, hv => by simpa only [AV.wide] using hv
  | .lst _ _, n, none :: ws, cv, _, hv => by simpa only [AV.wide] using hv
  | .lst e xs, n, some t :: ws, cv, _, hv => by
    simp only [AV.wide]
    cases isBlk t with
    | true => simp only [cond_true, RV]
    | false => simpa only [cond_false] using hv
  | .own _, n, ws, cv, _, hv => by simpa only [AV.wide] using hv
  | .bp _ _, n, ws, cv, _, hv => by simpa only [AV.wide] using hv
  | .ep _ _ _, n, ws, cv, _, hv => by simpa only [AV.wide] using hv
  | .win _ _, n, ws, cv, _, hv => by simpa only [AV.wide] using hv
  | .ip _ _ _, n, ws, cv, _, hv => by simpa only [AV.wide] using hv
  | .fn _ _, n, ws, cv, _, hv => by simpa only [AV.wide] using hv
  | .dead, n, ws, cv, _, hv => by simpa only [AV.wide] using hv
theorem wideL_rv : ∀ (l : List AV) (n : Nat) (ws : List (Option Ty)) (cvs : List Value), News μ s n (wideL n l ws).2.2 → RVs h I μ s l cvs → RVs h I μ s (wideL n l ws).1 cvs
  | [], n, ws, cvs, _, hv => by simpa only [wideL] using hv
  | v :: l, n, ws, cvs, hn, hv => by
    simp only [wideL] at hn ⊢
    simp only [RVs] at hv ⊢
    obtain ⟨cv, r, e, h1, h2⟩ := hv
    exact ⟨cv, r, e, wide_rv v n ws cv hn.left h1, wideL_rv l _ _ r hn.right h2⟩
end

/-- Boxes told otherwise: what they hold is held still. -/
def Swapped (s s' : St) : Prop := s'.length = s.length ∧ ∀ r, getR s' r = getR s r ∨ ∃ cs cs', getR s r = .box cs ∧ getR s' r = .box cs'

theorem Swapped.rv {s' : St} (hs : Swapped s s') (a : AV) (v : Value) (hv : RV h I μ s a v) : RV h I μ s' a v := by
  refine RV.mono (fun b hb => ⟨hb, rfl⟩) (fun a v ha hv => ?_) a v hv
  cases a with
  | own r =>
    simp only [RV] at hv ⊢
    obtain ⟨sl, h1, h2⟩ := hv
    refine ⟨sl, h1, ?_⟩
    rcases hs.2 r with h3 | ⟨cs, cs', h3, h4⟩
    · rw [h3]; exact h2
    · rw [h3] at h2; exact h2.elim
  | bp r off =>
    simp only [RV] at hv ⊢
    obtain ⟨sl, h1, h2⟩ := hv
    refine ⟨sl, h1, ?_⟩
    rcases hs.2 r with h3 | ⟨cs, cs', h3, h4⟩
    · rw [h3]; exact h2
    · rw [h3] at h2; rw [h4]; exact h2
  | ep r i off =>
    simp only [RV] at hv ⊢
    obtain ⟨sl, h1, h2⟩ := hv
    refine ⟨sl, h1, ?_⟩
    rcases hs.2 r with h3 | ⟨cs, cs', h3, h4⟩
    · rw [h3]; exact h2
    · rw [h3] at h2; exact h2.elim
  | win r lo =>
    simp only [RV] at hv ⊢
    obtain ⟨sl, h1, h2⟩ := hv
    refine ⟨sl, h1, ?_⟩
    rcases hs.2 r with h3 | ⟨cs, cs', h3, h4⟩
    · rw [h3]; exact h2
    · rw [h3] at h2; exact h2.elim
  | _ => cases ha

theorem Swapped.live {s' : St} (hs : Swapped s s') (r : Nat) : (getR s' r).live = (getR s r).live := by
  rcases hs.2 r with h3 | ⟨cs, cs', h3, h4⟩
  · rw [h3]
  · rw [h3, h4]; rfl

theorem Swapped.im {s' : St} (hs : Swapped s s') (b : Nat) : Im X h μ s' b ↔ Im X h μ s b := by
  unfold Im Free
  simp only [hs.live]

theorem swap_step {s' : St} (inv : Inv X h μ s) (hs : Swapped s s') (hr : ∀ r cs cs', getR s r = .box cs → getR s' r = .box cs' → ∀ cvs, RVs h (Im X h μ s) μ s cs cvs → RVs h (Im X h μ s) μ s cs' cvs) :
    Inv X h μ s' ∧ Ext X h μ s h μ s' := by
  have hIm : Im X h μ s' = Im X h μ s := funext fun b => propext (hs.im b)
  have hrv : ∀ a v, RV h (Im X h μ s) μ s a v → RV h (Im X h μ s') μ s' a v := fun a v hv => by rw [hIm]; exact hs.rv a v hv
  have hfree : ∀ b, Free μ s' b ↔ Free μ s b := fun b => by unfold Free; simp only [hs.live]
  refine ⟨⟨by rw [inv.len, hs.1], ?_, ?_, ?_, inv.xlt⟩, ⟨Nat.le_refl _, fun _ _ _ => rfl, ?_, hrv, by rw [hs.1]; exact Nat.le_refl _⟩⟩
  · intro r sl hsl
    have h1 := inv.reg r sl hsl
    rcases hs.2 r with h3 | ⟨cs, cs', h3, h4⟩
    · rw [h3]
      exact RegOk.mono (fun b hb => ⟨by rw [hIm]; exact hb, rfl⟩) hrv _ (fun _ _ _ => rfl) h1
    · rw [h3] at h1
      rw [h4]
      obtain ⟨k, c, el, fr, g1, g2, g3, g4⟩ := h1
      exact ⟨k, c, el, fr, g1, g2, g3, RVs.mono (fun b hb => ⟨by rw [hIm]; exact hb, rfl⟩) (fun a v _ hv => hrv a v hv) _ _ (hr r cs cs' h3 h4 _ g4)⟩
  · intro r r' sl sl' b hne h1 h2 h3 h4 h5
    rw [hs.live] at h3 h4
    exact inv.dis r r' sl sl' b hne h1 h2 h3 h4 h5
  · intro r sl b h1 h2 h3
    rw [hs.live] at h2
    exact inv.notX r sl b h1 h2 h3
  · intro r sl b h1 h2 h3
    rw [hs.live] at h2
    exact .inr fun hf => hf r sl h1 h2 h3

theorem wideS_length : ∀ (s : St) (n : Nat) (ws : List (Option Ty)), (wideS n s ws).1.length = s.length
  | [], _, _ => rfl
  | .box cs :: l, n, ws => by simp only [wideS, List.length_cons, wideS_length l]
  | .arr _ _ :: l, n, ws => by simp only [wideS, List.length_cons, wideS_length l]
  | .frz _ _ :: l, n, ws => by simp only [wideS, List.length_cons, wideS_length l]
  | .gone :: l, n, ws => by simp only [wideS, List.length_cons, wideS_length l]

/-- Place by place. -/
theorem wideS_get : ∀ (s : St) (n : Nat) (ws : List (Option Ty)) (r : Nat), getR (wideS n s ws).1 r = getR s r ∨
    ∃ cs m ws' a b, getR s r = .box cs ∧ getR (wideS n s ws).1 r = .box (wideL m cs ws').1 ∧ (wideS n s ws).2 = a ++ ((wideL m cs ws').2.2 ++ b) ∧ m = n + a.length
  | [], _, _, r => .inl rfl
  | .box cs :: l, n, ws, 0 => .inr ⟨cs, n, ws, [], _, rfl, rfl, rfl, rfl⟩
  | .box cs :: l, n, ws, r + 1 => by
    simp only [wideS, getR]
    rcases wideS_get l (n + (wideL n cs ws).2.2.length) (wideL n cs ws).2.1 r with h1 | ⟨c, m, w, a, b, h1, h2, h3, h4⟩
    · exact .inl h1
    · refine .inr ⟨c, m, w, (wideL n cs ws).2.2 ++ a, b, h1, h2, ?_, ?_⟩
      · rw [h3, List.append_assoc]
      · rw [h4, List.length_append]; omega
  | .arr _ _ :: l, n, ws, 0 => .inl rfl
  | .arr _ _ :: l, n, ws, r + 1 => by simp only [wideS, getR]; exact wideS_get l n ws r
  | .frz _ _ :: l, n, ws, 0 => .inl rfl
  | .frz _ _ :: l, n, ws, r + 1 => by simp only [wideS, getR]; exact wideS_get l n ws r
  | .gone :: l, n, ws, 0 => .inl rfl
  | .gone :: l, n, ws, r + 1 => by simp only [wideS, getR]; exact wideS_get l n ws r

theorem newOwn_get : ∀ (l : List Ty) (j : Nat) (e : Ty), l[j]? = some e → getR (newOwn l) j = .arr e []
  | [], j, e, h => by simp at h
  | a :: l, 0, e, h => by simp at h; subst h; rfl
  | a :: l, j + 1, e, h => newOwn_get l j e (by simpa using h)

theorem noSlots_get : ∀ (l : List Ty) (j : Nat) (e : Ty), l[j]? = some e → (noSlots l)[j]? = some ⟨none, 0⟩
  | [], j, e, h => by simp at h
  | a :: l, 0, e, h => rfl
  | a :: l, j + 1, e, h => noSlots_get l j e (by simpa using h)

theorem widen_step {h0 : Heap} {μ0 : List Slot} {s0 : St} (inv : Inv X h μ s) (ext : Ext X h0 μ0 s0 h μ s) (ws : List (Option Ty)) (vs : List AV) :
    ∃ μ', Inv X h μ' (widen ws vs s).2 ∧ Ext X h0 μ0 s0 h μ' (widen ws vs s).2 ∧ ∀ cvs, RVs h (Im X h μ s) μ s vs cvs → RVs h (Im X h μ' (widen ws vs s).2) μ' (widen ws vs s).2 (widen ws vs s).1 cvs := by
  cases ws with
  | nil => exact ⟨μ, inv, ext, fun cvs hv => hv⟩
  | cons w ws =>
    generalize hW : (w :: ws) = W
    have hwd : widen W vs s = ((wideL s.length vs W).1, (wideS (s.length + (wideL s.length vs W).2.2.length) s (wideL s.length vs W).2.1).1 ++
        newOwn ((wideL s.length vs W).2.2 ++ (wideS (s.length + (wideL s.length vs W).2.2.length) s (wideL s.length vs W).2.1).2)) := by
      subst hW; rfl
    rw [hwd]
    generalize hts : (wideL s.length vs W).2.2 = ts
    generalize hWs : wideS (s.length + ts.length) s (wideL s.length vs W).2.1 = S2
    obtain ⟨s2, ts2⟩ := S2
    simp only
    obtain ⟨i1, e1⟩ := nones_step (ts ++ ts2) inv
    have hnews : News (μ ++ noSlots (ts ++ ts2)) (s ++ newOwn (ts ++ ts2)) s.length (ts ++ ts2) := fun j e hj => by
      refine ⟨?_, ?_⟩
      · rw [← inv.len, List.getElem?_append_right (by omega)]
        simpa using noSlots_get _ _ _ hj
      · rw [getR_app_right]; exact newOwn_get _ _ _ hj
    have hl2 : s2.length = s.length := by have := wideS_length s (s.length + ts.length) (wideL s.length vs W).2.1; rw [hWs] at this; exact this
    have hsw : Swapped (s ++ newOwn (ts ++ ts2)) (s2 ++ newOwn (ts ++ ts2)) := by
      refine ⟨by simp [hl2], fun r => ?_⟩
      rcases Nat.lt_or_ge r s.length with hr | hr
      · rw [getR_app_left _ _ _ hr, getR_app_left _ _ _ (by omega)]
        rcases wideS_get s (s.length + ts.length) (wideL s.length vs W).2.1 r with h1 | ⟨cs, m, w', a, b, h1, h2, h3, h4⟩
        · rw [hWs] at h1; exact .inl h1
        · rw [hWs] at h2; exact .inr ⟨_, _, h1, h2⟩
      · obtain ⟨j, rfl⟩ := Nat.exists_eq_add_of_le hr
        left
        rw [getR_app_right, ← hl2, getR_app_right]
    obtain ⟨i2, e2⟩ := swap_step i1 hsw (by
      intro r cs cs' h1 h2 cvs hv
      rcases Nat.lt_or_ge r s.length with hr | hr
      · rw [getR_app_left _ _ _ hr] at h1
        rw [getR_app_left _ _ _ (by omega)] at h2
        rcases wideS_get s (s.length + ts.length) (wideL s.length vs W).2.1 r with g1 | ⟨c, m, w', a, b, g1, g2, g3, g4⟩
        · rw [hWs] at g1
          simp only at g1
          rw [h2, h1] at g1
          cases g1; exact hv
        · rw [hWs] at g2 g3
          simp only at g2 g3
          rw [h1] at g1; cases g1
          rw [h2] at g2; cases g2
          refine wideL_rv _ _ _ _ ?_ hv
          have hr2 := hnews.right
          subst g3
          subst g4
          exact hr2.right.left
      · obtain ⟨j, rfl⟩ := Nat.exists_eq_add_of_le hr
        rw [getR_app_right] at h1
        rw [← hl2, getR_app_right] at h2
        rw [h1] at h2; cases h2; exact hv)
    refine ⟨_, i2, (ext.trans e1).trans e2, fun cvs hv => ?_⟩
    have h1 : RVs h (Im X h (μ ++ noSlots (ts ++ ts2)) (s ++ newOwn (ts ++ ts2))) (μ ++ noSlots (ts ++ ts2)) (s ++ newOwn (ts ++ ts2)) vs cvs :=
      RVs.mono (fun b hb => e1.im b hb) (fun a v _ hv => e1.rv a v hv) _ _ hv
    have h2 := wideL_rv vs s.length W cvs (by rw [hts]; exact hnews.left) h1
    exact RVs.mono (fun b hb => e2.im b hb) (fun a v _ hv => e2.rv a v hv) _ _ h2

theorem packW_step {h0 : Heap} {μ0 : List Slot} {s0 : St} (inv : Inv X h μ s) (ext : Ext X h0 μ0 s0 h μ s) (inv0 : μ0.length = s0.length) (ws : List (Option Ty)) (vs : List AV) :
    ∃ μ', Inv X h μ' (packW ws s0.length vs s).2 ∧ Ext X h0 μ0 s0 h μ' (packW ws s0.length vs s).2 ∧
      ∀ cvs, RVs h (Im X h μ s) μ s vs cvs → RVs h (Im X h μ' (packW ws s0.length vs s).2) μ' (packW ws s0.length vs s).2 (packW ws s0.length vs s).1 cvs := by
  cases ws with
  | nil => exact pack_step inv ext inv0 vs
  | cons w ws =>
    obtain ⟨μ1, i1, x1, hv1⟩ := pack_step inv ext inv0 vs
    cases hf : isMark w with
    | false =>
      obtain ⟨μ2, i2, x2, hv2⟩ := widen_step i1 x1 (w :: ws) (pack s0.length vs s).1
      obtain ⟨μ3, i3, x3, hv3⟩ := pack_step i2 x2 inv0 (widen (w :: ws) (pack s0.length vs s).1 (pack s0.length vs s).2).1
      refine ⟨μ3, ?_, ?_, ?_⟩
      · unfold packW; simp only [hf, cond_false]; exact i3
      · unfold packW; simp only [hf, cond_false]; exact x3
      · intro cvs hv; unfold packW; simp only [hf, cond_false]; exact hv3 _ (hv2 _ (hv1 _ hv))
    | true =>
      obtain ⟨μ2, i2, x2, hv2⟩ := widen_step i1 x1 ws (pack s0.length vs s).1
      obtain ⟨iF, xF⟩ := freeze_step (iota 0 (widen ws (pack s0.length vs s).1 (pack s0.length vs s).2).2.length) i2
      obtain ⟨μ3, i3, x3, hv3⟩ := pack_step iF (x2.trans xF) inv0 (widen ws (pack s0.length vs s).1 (pack s0.length vs s).2).1
      refine ⟨μ3, ?_, ?_, ?_⟩
      · unfold packW; simp only [hf, cond_true]; exact i3
      · unfold packW; simp only [hf, cond_true]; exact x3
      · intro cvs hv
        unfold packW
        simp only [hf, cond_true]
        refine hv3 _ ?_
        exact RVs.mono (fun b hb => xF.im b hb) (fun a v _ hv => xF.rv a v hv) _ _ (hv2 _ (hv1 _ hv))

end
end Go.VE
