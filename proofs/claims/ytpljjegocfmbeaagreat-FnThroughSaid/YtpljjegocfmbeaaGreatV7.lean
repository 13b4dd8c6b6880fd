/- Data out of cells; arguments in their plain form; the call as a step. -/
import Derived.Test.YtpljjegocfmbeaaGreatV6
namespace Go.VE
set_option linter.unusedVariables false

section
variable {X : Nat → Prop} {h : Heap} {μ : List Slot} {s : St} {I : Nat → Prop}

theorem RVs_append : ∀ (as bs : List AV) (vs ws : List Value), RVs h I μ s as vs → RVs h I μ s bs ws → RVs h I μ s (as ++ bs) (vs ++ ws)
  | [], bs, vs, ws, h1, h2 => by simp only [RVs] at h1; subst h1; exact h2
  | a :: as, bs, vs, ws, h1, h2 => by
    simp only [RVs] at h1
    obtain ⟨v, r, rfl, h3, h4⟩ := h1
    simp only [List.cons_append, RVs]
    exact ⟨v, r ++ ws, rfl, h3, RVs_append as bs r ws h4 h2⟩

theorem RVs_split : ∀ (as bs : List AV) (vs : List Value), RVs h I μ s (as ++ bs) vs → ∃ v1 v2, vs = v1 ++ v2 ∧ RVs h I μ s as v1 ∧ RVs h I μ s bs v2
  | [], bs, vs, h1 => ⟨[], vs, rfl, by simp only [RVs], h1⟩
  | a :: as, bs, vs, h1 => by
    simp only [List.cons_append, RVs] at h1
    obtain ⟨v, r, rfl, h3, h4⟩ := h1
    obtain ⟨v1, v2, rfl, h5, h6⟩ := RVs_split as bs r h4
    exact ⟨v :: v1, v2, rfl, by simp only [RVs]; exact ⟨v, v1, rfl, h3, h5⟩, h6⟩

theorem RVs_length : ∀ (as : List AV) (vs : List Value), RVs h I μ s as vs → vs.length = as.length
  | [], vs, h1 => by simp only [RVs] at h1; subst h1; rfl
  | a :: as, vs, h1 => by
    simp only [RVs] at h1
    obtain ⟨v, r, rfl, _, h4⟩ := h1
    simp [RVs_length as r h4]

theorem RVs_get : ∀ (as : List AV) (vs : List Value), RVs h I μ s as vs → ∀ i v, vs[i]? = some v → RV h I μ s (getE as i) v
  | [], vs, h1, i, v, hv => by simp only [RVs] at h1; subst h1; simp at hv
  | a :: as, vs, h1, i, v, hv => by
    simp only [RVs] at h1
    obtain ⟨u, r, rfl, h3, h4⟩ := h1
    cases i with
    | zero => simp at hv; subst hv; exact h3
    | succ i => simp at hv; exact RVs_get as r h4 i v hv

theorem RVs_set : ∀ (as : List AV) (vs : List Value), RVs h I μ s as vs → ∀ i a v, RV h I μ s a v → RVs h I μ s (setE as i a) (vs.set i v)
  | [], vs, h1, i, a, v, hv => by simp only [RVs] at h1; subst h1; simp [setE, RVs]
  | b :: as, vs, h1, i, a, v, hv => by
    simp only [RVs] at h1
    obtain ⟨u, r, rfl, h3, h4⟩ := h1
    cases i with
    | zero => simp only [setE, List.set_cons_zero, RVs]; exact ⟨v, r, rfl, hv, h4⟩
    | succ i => simp only [setE, List.set_cons_succ, RVs]; exact ⟨u, _, rfl, h3, RVs_set as r h4 i a v hv⟩

theorem RVs_drop : ∀ (as : List AV) (vs : List Value) (n : Nat), RVs h I μ s as vs → RVs h I μ s (as.drop n) (vs.drop n)
  | [], vs, n, h1 => by simp only [RVs] at h1; subst h1; simp [RVs]
  | a :: as, vs, 0, h1 => h1
  | a :: as, vs, n + 1, h1 => by
    simp only [RVs] at h1
    obtain ⟨u, r, rfl, h3, h4⟩ := h1
    exact RVs_drop as r n h4

theorem RVs_take : ∀ (as : List AV) (vs : List Value) (n : Nat), RVs h I μ s as vs → RVs h I μ s (as.take n) (vs.take n)
  | [], vs, n, h1 => by simp only [RVs] at h1; subst h1; simp [RVs]
  | a :: as, vs, 0, h1 => by simp [RVs]
  | a :: as, vs, n + 1, h1 => by
    simp only [RVs] at h1
    obtain ⟨u, r, rfl, h3, h4⟩ := h1
    simp only [List.take_succ_cons, RVs]
    exact ⟨u, _, rfl, h3, RVs_take as r n h4⟩

/-- Data, told as cells. -/
theorem cells_rv : ∀ (T : Ty) (x : T.D) (vs : List Value), Rep h I T vs x → RVs h I μ s (T.cells x) vs
  | .int k, n, vs, hr => by rw [show vs = _ from hr]; simp only [Ty.cells, RVs, RV]; exact ⟨_, [], rfl, rfl, rfl⟩
  | .bool, n, vs, hr => by rw [show vs = _ from hr]; simp only [Ty.cells, RVs, RV]; exact ⟨_, [], rfl, rfl, rfl⟩
  | .str, n, vs, hr => by rw [show vs = _ from hr]; simp only [Ty.cells, RVs, RV]; exact ⟨_, [], rfl, rfl, rfl⟩
  | .pair a b, x, vs, ⟨c, d, e, h1, h2⟩ => by rw [e]; exact RVs_append _ _ _ _ (cells_rv a _ _ h1) (cells_rv b _ _ h2)
  | .slice e, xs, vs, hr => by
    have := hr
    obtain ⟨a, cap, rfl, _⟩ := hr
    simp only [Ty.cells, RVs, RV]
    exact ⟨_, [], rfl, this, rfl⟩

theorem cells_length : ∀ (T : Ty) (x : T.D), (T.cells x).length = T.size
  | .int _, _ => rfl
  | .bool, _ => rfl
  | .str, _ => rfl
  | .pair a b, x => by simp [Ty.cells, Ty.size, cells_length a, cells_length b]
  | .slice _, _ => rfl

/-- What a tail of an array's region holds, as a slice that is read. -/
theorem rep_of_win {I I' : Nat → Prop} {e : Ty} {xs : List e.D} {sl : Slot} {v : Value} {lo : Nat} (hreg : RegOk h I μ s sl (.arr e xs)) (hI : ∀ b, I b → I' b)
    (hb : ∀ k, sl.blk = some k → I' k) (hv : lo ≤ xs.length ∧ ∃ a, v = .slice a (xs.length - lo) (sl.cap - lo) ∧ (xs.length = lo ∨ ∃ k, sl.blk = some k ∧ a = some ⟨k, lo * e.size, none⟩)) : Rep h I' (.slice e) [v] (xs.drop lo) := by
  obtain ⟨hlo, a, rfl, ha⟩ := hv
  have hcap : xs.length ≤ sl.cap := by
    rcases hreg with ⟨_, h0, h1⟩ | ⟨k, c, el, fr, _, _, _, _, h2, _⟩
    · rw [h1]; exact Nat.zero_le _
    · exact h2
  refine ⟨a, sl.cap - lo, by rw [List.length_drop], by rw [List.length_drop]; omega, ?_⟩
  rcases ha with ha | ⟨k', hk', ha⟩
  · left
    exact List.drop_eq_nil_of_le (by omega)
  · rcases hreg with ⟨h0, _, _⟩ | ⟨k, c, el, fr, hk, hc, hf, h1, h2, h3⟩
    · rw [h0] at hk'; cases hk'
    · rw [hk] at hk'; cases hk'
      refine .inr ⟨k', lo * e.size, ha, hb k' hk, fun i hi => ⟨(c.toList.drop ((lo + i) * e.size)).take e.size, ⟨c, el, fr, hc, ?_⟩, ?_⟩⟩
      · intro j v hj
        rw [List.getElem?_take] at hj
        split at hj
        · rw [List.getElem?_drop] at hj
          rw [← Nat.add_mul, ← Array.getElem?_toList]; exact hj
        · cases hj
      · have hi' : lo + i < xs.length := by rw [List.length_drop] at hi; omega
        have := Rep.mono (fun b hb => ⟨hI b hb, rfl⟩) _ _ _ (h3 (lo + i) hi')
        simpa using this

theorem sliceOf_rep {I0 : Nat → Prop} (inv : Inv X h μ s) (hI : ∀ b, Im X h μ s b → I0 b) {e : Ty} {a : AV} {xs : List e.D} {v : Value} (hs : sliceOf s e a = some xs)
    (hv : RV h (Im X h μ s) μ s a v) (hb : ∀ r sl b, (a = .own r ∨ ∃ lo, a = .win r lo) → μ[r]? = some sl → (∃ e xs, getR s r = .arr e xs) → sl.blk = some b → I0 b) : Rep h I0 (.slice e) [v] xs := by
  unfold sliceOf at hs
  split at hs
  · rename_i e' ys
    split at hs
    · rename_i he
      subst he
      simp only [castL, Option.some.injEq] at hs
      subst hs
      simp only [RV] at hv
      exact Rep.mono (fun b hb => ⟨hI b hb, rfl⟩) _ _ _ hv
    · cases hs
  · cases hs
    simp only [RV] at hv
    obtain ⟨a, rfl⟩ := hv
    exact ⟨a, 0, rfl, Nat.le_refl _, .inl rfl⟩
  · rename_i r
    simp only [RV] at hv
    obtain ⟨sl, h1, h2⟩ := hv
    have hreg := inv.reg r sl h1
    have hbb := fun b hl => hb r sl b (.inl rfl) h1 hl
    cases hg : getR s r with
    | box cs => rw [hg] at hs; cases hs
    | gone => rw [hg] at hs; cases hs
    | arr e' ys =>
      rw [hg] at hs h2 hreg
      simp only at hs
      split at hs
      · rename_i he
        subst he
        simp only [castL, Option.some.injEq] at hs
        subst hs
        exact rep_of_arr hreg hI (fun b hk => hbb b ⟨_, _, hg⟩ hk) h2
      · cases hs
    | frz e' ys =>
      rw [hg] at hs h2
      simp only at hs
      split at hs
      · rename_i he
        subst he
        simp only [castL, Option.some.injEq] at hs
        subst hs
        exact Rep.mono (fun b hb => ⟨hI b hb, rfl⟩) _ _ _ h2
      · cases hs
  · rename_i r lo
    simp only [RV] at hv
    obtain ⟨sl, h1, h2⟩ := hv
    have hreg := inv.reg r sl h1
    have hbb := fun b hl => hb r sl b (.inr ⟨lo, rfl⟩) h1 hl
    cases hg : getR s r with
    | arr e' ys =>
      rw [hg] at hs h2 hreg
      simp only at hs
      split at hs
      · rename_i he
        subst he
        simp only [castL, Option.some.injEq] at hs
        subst hs
        exact rep_of_win hreg hI (fun b hk => hbb b ⟨_, _, hg⟩ hk) h2
      · cases hs
    | box cs => rw [hg] at hs; cases hs
    | gone => rw [hg] at hs; cases hs
    | frz _ _ => rw [hg] at hs; cases hs
  · cases hs

theorem ownIds_append : ∀ (l m : List AV), ownIds (l ++ m) = ownIds l ++ ownIds m
  | [], m => rfl
  | a :: l, m => by cases a <;> simp [ownIds, ownIds_append l m]

theorem take_rep {I0 : Nat → Prop} (inv : Inv X h μ s) (hI : ∀ b, Im X h μ s b → I0 b) :
    ∀ (T : Ty) (cs : List AV) (x : T.D) (rest : List AV) (vs : List Value), T.take s cs = some (x, rest) → RVs h (Im X h μ s) μ s cs vs →
      (∀ r sl b, r ∈ ownIds cs → μ[r]? = some sl → (∃ e xs, getR s r = .arr e xs) → sl.blk = some b → I0 b) →
      (∃ pre, cs = pre ++ rest) ∧ ∃ v1 v2, vs = v1 ++ v2 ∧ Rep h I0 T v1 x ∧ RVs h (Im X h μ s) μ s rest v2
  | .int k, [], x, rest, vs, ht, hv, hb => by simp [Ty.take] at ht
  | .int k, c :: cs, x, rest, vs, ht, hv, hb => by
    cases c <;> simp only [Ty.take] at ht <;> first | (cases ht; done) | skip
    split at ht
    · rename_i hkk
      cases ht
      subst hkk
      simp only [RVs, RV] at hv
      obtain ⟨v, r, rfl, rfl, h4⟩ := hv
      exact ⟨⟨[_], rfl⟩, [_], r, rfl, rfl, h4⟩
    · cases ht
  | .bool, [], x, rest, vs, ht, hv, hb => by simp [Ty.take] at ht
  | .bool, c :: cs, x, rest, vs, ht, hv, hb => by
    cases c <;> simp only [Ty.take] at ht <;> first | (cases ht; done) | skip
    cases ht
    simp only [RVs, RV] at hv
    obtain ⟨v, r, rfl, rfl, h4⟩ := hv
    exact ⟨⟨[_], rfl⟩, [_], r, rfl, rfl, h4⟩
  | .str, [], x, rest, vs, ht, hv, hb => by simp [Ty.take] at ht
  | .str, c :: cs, x, rest, vs, ht, hv, hb => by
    cases c <;> simp only [Ty.take] at ht <;> first | (cases ht; done) | skip
    cases ht
    simp only [RVs, RV] at hv
    obtain ⟨v, r, rfl, rfl, h4⟩ := hv
    exact ⟨⟨[_], rfl⟩, [_], r, rfl, rfl, h4⟩
  | .pair a b, cs, x, rest, vs, ht, hv, hb => by
    simp only [Ty.take] at ht
    split at ht
    · rename_i x1 r1 ha
      split at ht
      · rename_i y r' hbt
        simp only [Option.some.injEq, Prod.mk.injEq] at ht
        obtain ⟨rfl, rfl⟩ := ht
        obtain ⟨⟨p1, hp1⟩, v1, v2, rfl, g1, g2⟩ := take_rep inv hI a cs x1 r1 vs ha hv hb
        obtain ⟨⟨p2, hp2⟩, w1, w2, rfl, g3, g4⟩ := take_rep inv hI b r1 y r' v2 hbt g2 (fun r sl k hr => hb r sl k (by rw [hp1, ownIds_append]; exact List.mem_append_right _ hr))
        exact ⟨⟨p1 ++ p2, by rw [hp1, hp2, List.append_assoc]⟩, v1 ++ w1, w2, by simp, ⟨v1, w1, rfl, g1, g3⟩, g4⟩
      · cases ht
    · cases ht
  | .slice e, [], x, rest, vs, ht, hv, hb => by simp [Ty.take] at ht
  | .slice e, a :: cs, x, rest, vs, ht, hv, hb => by
    simp only [Ty.take] at ht
    cases hs : sliceOf s e a with
    | none => rw [hs] at ht; cases ht
    | some xs =>
      rw [hs] at ht
      simp only [Option.some.injEq, Prod.mk.injEq] at ht
      obtain ⟨rfl, rfl⟩ := ht
      simp only [RVs] at hv
      obtain ⟨v, r, rfl, h3, h4⟩ := hv
      refine ⟨⟨[a], rfl⟩, [v], r, rfl, ?_, h4⟩
      refine sliceOf_rep inv hI hs h3 ?_
      rintro q sl b (rfl | ⟨lo, rfl⟩)
      · exact hb q sl b (by simp [ownIds])
      · exact hb q sl b (by simp [ownIds])

theorem data_rep {I0 : Nat → Prop} (inv : Inv X h μ s) (hI : ∀ b, Im X h μ s b → I0 b) {T : Ty} {cs : List AV} {x : T.D} {vs : List Value} (ht : T.data s cs = some x)
    (hv : RVs h (Im X h μ s) μ s cs vs) (hb : ∀ r sl b, r ∈ ownIds cs → μ[r]? = some sl → (∃ e xs, getR s r = .arr e xs) → sl.blk = some b → I0 b) : Rep h I0 T vs x := by
  unfold Ty.data at ht
  split at ht
  · rename_i y he
    cases ht
    obtain ⟨_, v1, v2, rfl, h1, h2⟩ := take_rep inv hI T cs x [] vs he hv hb
    simp only [RVs] at h2
    subst h2
    simpa using h1
  · cases ht

theorem canonArgs_rv {I0 : Nat → Prop} (inv : Inv X h μ s) (hI : ∀ b, Im X h μ s b → I0 b) (ty : Nat → Option (Bool × Ty)) :
    ∀ (ts : List Nat) (vs : List AV) (as : List AV) (l : List Nat) (cvs : List Value), canonArgs ty s ts vs = some (as, l) → RVs h (Im X h μ s) μ s vs cvs →
      (∀ r sl b, r ∈ l → μ[r]? = some sl → (∃ e xs, getR s r = .arr e xs) → sl.blk = some b → I0 b) → RVs h I0 μ s as cvs
  | [], [], as, l, cvs, hc, hv, hb => by
    simp only [canonArgs, Option.some.injEq, Prod.mk.injEq] at hc
    obtain ⟨rfl, rfl⟩ := hc
    simpa only [RVs] using hv
  | [], _ :: _, as, l, cvs, hc, hv, hb => by simp [canonArgs] at hc
  | _ :: _, [], as, l, cvs, hc, hv, hb => by simp [canonArgs] at hc
  | t :: ts, v :: vs, as, l, cvs, hc, hv, hb => by
    simp only [canonArgs] at hc
    cases h1 : canonArg ty s t v with
    | none => rw [h1] at hc; cases hc
    | some p =>
      obtain ⟨a, l1⟩ := p
      rw [h1] at hc
      simp only at hc
      cases h2 : canonArgs ty s ts vs with
      | none => rw [h2] at hc; cases hc
      | some q =>
        obtain ⟨as', l2⟩ := q
        rw [h2] at hc
        simp only [Option.some.injEq, Prod.mk.injEq] at hc
        obtain ⟨rfl, rfl⟩ := hc
        simp only [RVs] at hv ⊢
        obtain ⟨cv, cr, rfl, g1, g2⟩ := hv
        refine ⟨cv, cr, rfl, ?_, canonArgs_rv inv hI ty ts vs as' l2 cr h2 g2 (fun r sl b hr => hb r sl b (by simp [hr]))⟩
        have hmono : RV h I0 μ s v cv := RV.mono (fun b hb => ⟨hI b hb, rfl⟩) (by
          intro a v ha hv
          cases a with
          | own r =>
            simp only [RV] at hv ⊢
            obtain ⟨sl, e1, e2⟩ := hv
            refine ⟨sl, e1, ?_⟩
            revert e2
            cases getR s r with
            | box _ => exact id
            | arr _ _ => exact id
            | frz e xs => exact Rep.mono (fun b hb => ⟨hI b hb, rfl⟩) _ _ _
            | gone => exact id
          | bp r off => simpa only [RV] using hv
          | ep r i off => simpa only [RV] using hv
          | win r lo => simpa only [RV] using hv
          | _ => cases ha) v cv g1
        unfold canonArg at h1
        split at h1
        · simp only [Option.some.injEq, Prod.mk.injEq] at h1
          obtain ⟨rfl, rfl⟩ := h1
          exact hmono
        · rename_i T _
          split at h1
          · rename_i cs
            split at h1
            · rename_i x hx
              simp only [Option.some.injEq, Prod.mk.injEq] at h1
              obtain ⟨rfl, rfl⟩ := h1
              simp only [RV] at g1 ⊢
              obtain ⟨ws, rfl, hws⟩ := g1
              exact ⟨ws, rfl, cells_rv T x _ (data_rep inv hI hx hws (fun r sl b hr => hb r sl b (by simp [hr])))⟩
            · cases h1
          · cases h1
        · rename_i T _
          split at h1
          · cases h1
          · split at h1
            · rename_i x hx
              split at h1
              · rename_i c hcl
                simp only [Option.some.injEq, Prod.mk.injEq] at h1
                obtain ⟨rfl, rfl⟩ := h1
                have h5 := cells_rv (μ := μ) (s := s) T x [cv] (data_rep inv hI hx (by simp only [RVs]; exact ⟨cv, [], rfl, g1, rfl⟩) (fun r sl b hr => hb r sl b (by simp [hr])))
                rw [hcl] at h5
                simp only [RVs] at h5
                obtain ⟨u, r, e, h6, _⟩ := h5
                cases e
                exact h6
              · cases h1
            · cases h1

theorem RVs.monoI {I I0 : Nat → Prop} (hI : ∀ b, I b → I0 b) (as : List AV) (vs : List Value) (hv : RVs h I μ s as vs) : RVs h I0 μ s as vs :=
  RVs.mono (fun b hb => ⟨hI b hb, rfl⟩) (by
    intro a v ha hv
    cases a with
    | own r =>
      simp only [RV] at hv ⊢
      obtain ⟨sl, e1, e2⟩ := hv
      refine ⟨sl, e1, ?_⟩
      revert e2
      cases getR s r with
      | box _ => exact id
      | arr _ _ => exact id
      | frz e xs => exact Rep.mono (fun b hb => ⟨hI b hb, rfl⟩) _ _ _
      | gone => exact id
    | bp r off => simpa only [RV] using hv
    | ep r i off => simpa only [RV] using hv
    | win r lo => simpa only [RV] using hv
    | _ => cases ha) as vs hv

end

/-- The regions that a call is handed. -/
def handedOf (G : Glob) (f : Nat) (ts : List Nat) (args caps : List AV) (s : St) : List Nat :=
  bif G.inPlace f then handed (args ++ caps) s else
  match canonArgs G.ty s ts args with
  | none => []
  | some (as, _) => handed (as ++ caps) s

theorem callStep_sound {P : Program} {G : Glob} {f : Nat} {ts : List Nat} {args caps : List AV} {s : St} {k : K1} {r : Res}
    (hc : Contract P f (G.call f)) (hk : callStep G f ts args caps s k = some r) :
    ∃ v s', k v s' = some r ∧ ∀ X μ (w : World) (cargs ccaps : List Value), Inv X w.heap μ s → RVs w.heap (Im X w.heap μ s) μ s args cargs →
      RVs w.heap (Im X w.heap μ s) μ s caps ccaps → Calls P f (cargs ++ ccaps).toArray w (PostT X w μ s (handedOf G f ts args caps s) v s') := by
  have hI0 : ∀ {X : Nat → Prop} {h : Heap} {μ : List Slot} (inv : Inv X h μ s) (ids seen : List Nat) (b : Nat), Im X h μ s b → Im (Beyond X μ s ids seen) h (slots μ ids) (restrict s ids ids) b := by
    intro X h μ inv ids seen b hb
    refine ⟨hb.1, ?_, Free.slots inv ids hb.2.2⟩
    rintro (hx | ⟨q, sl, h1, h2, h3, _, _⟩)
    · exact hb.2.1 hx
    · exact hb.2.2 q sl h1 h2 h3
  unfold callStep at hk
  cases hm : G.inPlace f with
  | true =>
    rw [hm] at hk
    simp only [cond_true] at hk
    obtain ⟨_, v, s', h1, h2⟩ := callWith_sound hc (by simp) hk
    refine ⟨v, s', h1, fun X μ w cargs ccaps inv hargs hcaps => ?_⟩
    have hh : handedOf G f ts args caps s = handed (args ++ caps) s := by unfold handedOf; rw [hm]; rfl
    rw [hh]
    exact h2 X μ w (cargs ++ ccaps) inv (RVs.monoI (hI0 inv _ _) _ _ (RVs_append _ _ _ _ hargs hcaps))
  | false =>
    rw [hm] at hk
    simp only [cond_false] at hk
    cases hca : canonArgs G.ty s ts args with
    | none => rw [hca] at hk; cases hk
    | some p =>
      obtain ⟨as, seen⟩ := p
      rw [hca] at hk
      simp only at hk
      obtain ⟨hns, v, s', h1, h2⟩ := callWith_sound hc (liveIds_arr s seen) hk
      refine ⟨v, s', h1, fun X μ w cargs ccaps inv hargs hcaps => ?_⟩
      have hh : handedOf G f ts args caps s = handed (as ++ caps) s := by unfold handedOf; rw [hm]; simp only [cond_false, hca]
      rw [hh]
      refine h2 X μ w (cargs ++ ccaps) inv (RVs_append _ _ _ _ ?_ (RVs.monoI (hI0 inv _ _) _ _ hcaps))
      refine canonArgs_rv inv (hI0 inv _ _) G.ty ts args as seen cargs hca hargs ?_
      intro q sl b hq hsl harr hb
      have hne : q ∉ handed (as ++ caps) s := hns q (liveIds_mem s seen q hq harr)
      have hl : (getR s q).live = true := by obtain ⟨e, xs, he⟩ := harr; rw [he]; rfl
      refine ⟨inv.blk_lt hsl hl hb, ?_, ?_⟩
      · rintro (hx | ⟨q', sl', g1, g2, g3, g4, g5⟩)
        · exact inv.notX q sl b hsl hl hb hx
        · by_cases e : q' = q
          · subst e; exact g5 (liveIds_mem s seen q' hq harr)
          · exact inv.dis q' q sl' sl b e g1 hsl g2 hl g3 hb
      · intro j sl' hj hl' hb'
        obtain ⟨q', g1, g2, g3⟩ := slots_live inv hj hl'
        by_cases e : q' = q
        · subst e; exact hne (List.mem_of_getElem? g1)
        · exact inv.dis q' q sl' sl b e g2 hsl g3 hl hb' hb

end Go.VE
