/- Code with loops, and functions. -/
import Derived.Test.YtpljjegocfmbeaaGreatV19w
import Derived.Test.YtpljjegocfmbeaaGreatV19r
namespace Go.VE
set_option linter.unusedVariables false
set_option linter.unusedSimpArgs false

def exO : Out → Exit
  | .norm => .normal
  | .exit id => .exit id
  | .ret => .ret

/-- The rounds of a loop's body, from these values on. -/
inductive LoopRuns (G : Glob) (F : Fx) (keep : List Nat) (wide : List (Option Ty)) (b : Code) : Nat → List AV → St → Out → List AV → St → Prop
  | stop {vals st o vs st'} : exec G F b (bodyK F keep wide) (setEs (deads F.nt) keep vals) st = some ⟨o, vs, st'⟩ → o ≠ .norm → LoopRuns G F keep wide b 1 vals st o vs st'
  | more {n vals st vs1 st1 o vs st'} : exec G F b (bodyK F keep wide) (setEs (deads F.nt) keep vals) st = some ⟨.norm, vs1, st1⟩ → LoopRuns G F keep wide b n vs1 st1 o vs st' → LoopRuns G F keep wide b (n + 1) vals st o vs st'

def LoopOk (G : Glob) (F : Fx) (sp : LoopSpec) (b : Code) : Prop :=
  ∀ vals st (k : Out → List AV → St → Option Res) r, sp.L vals st k = some r → ∃ n o vs st', LoopRuns G F sp.keep sp.wide b n vals st o vs st' ∧ k o vs st' = some r

/-- The rest of a function behind a cut. -/
def CutOk (G : Glob) (F : Fx) (sp : LoopSpec) (b : Code) : Prop :=
  ∀ vals st (k : Out → List AV → St → Option Res) r, sp.L vals st k = some r →
    ∃ o vs st', exec G F b (bodyK F sp.keep sp.wide) (setEs (deads F.nt) sp.keep vals) st = some ⟨o, vs, st'⟩ ∧ k o vs st' = some r

/-- A drawn region that is told: whatever comes up first, so it ends. -/
def RgnOk (G : Glob) (F : Fx) (sp : LoopSpec) (b : Code) : Prop :=
  ∀ vals st (k : Out → List AV → St → Option Res) r, sp.L vals st k = some r → match b with
    | .region id ops _ => ∃ vs st' rr, k .norm vs st' = some r ∧ Region.noSelect ops = true ∧
      execAnyP G (hintOf F id) ops ops.toList ops.size (Array.replicate ops.size false) (bodyK F sp.keep sp.wide .norm) (setEs (deads F.nt) sp.keep vals) st = some rr ∧ AllLeaf ⟨.norm, vs, st'⟩ rr
    | _ => False

def LoopsOk (G : Glob) (F : Fx) : Code → Prop
  | .region id ops draw => draw = true → ∀ sp, F.loops (3500000 + id) = some sp → RgnOk G F sp (.region id ops draw)
  | .seq a b => LoopsOk G F a ∧ LoopsOk G F b ∧ ∀ sp, F.loops (headId b) = some sp → CutOk G F sp b
  | .cond _ a b => LoopsOk G F a ∧ LoopsOk G F b
  | .block id (.loop b) => (∀ sp, F.loops id = some sp → LoopOk G F sp b) ∧ LoopsOk G F b
  | .block _ c => LoopsOk G F c
  | _ => True

section
variable {P : Program} {G : Glob} {X : Nat → Prop} {h : Heap} {I : Nat → Prop} {μ : List Slot} {s : St}

theorem getEs_rvs {e : Env} {vs : List Value} (he : RVs h I μ s e vs) : ∀ keep : List Nat, RVs h I μ s (getEs e keep) (keep.map fun t => vs.getD t undef)
  | [] => by simp only [getEs, RVs, List.map_nil]
  | t :: l => by
    simp only [getEs, RVs, List.map_cons]
    refine ⟨_, _, rfl, ?_, getEs_rvs he l⟩
    rcases Nat.lt_or_ge t vs.length with h1 | h1
    · have h2 : vs[t]? = some vs[t] := List.getElem?_eq_getElem h1
      have := RVs_get _ _ he t _ h2
      simpa [List.getD, h2] using this
    · have hl := RVs_length _ _ he
      rw [getE_ge e t (by omega)]
      simp only [RV]

theorem set_getD_self : ∀ (l : List Value) (t : Nat), l.set t (l.getD t undef) = l
  | [], _ => by simp
  | a :: l, 0 => by simp
  | a :: l, t + 1 => by simpa using set_getD_self l t

theorem setEs_rvs {vs : List Value} : ∀ (keep : List Nat) (vals : List AV) (e : Env), RVs h I μ s e vs → RVs h I μ s vals (keep.map fun t => vs.getD t undef) →
    RVs h I μ s (setEs e keep vals) vs
  | [], vals, e, he, hv => by cases vals <;> exact he
  | t :: l, [], e, he, hv => by simp [RVs] at hv
  | t :: l, v :: vals, e, he, hv => by
    simp only [RVs, List.map_cons] at hv
    obtain ⟨u, r, e1, h1, h2⟩ := hv
    simp only [List.cons.injEq] at e1
    obtain ⟨rfl, rfl⟩ := e1
    simp only [setEs]
    refine setEs_rvs l vals _ ?_ h2
    have := RVs_set _ _ he t v _ h1
    rwa [set_getD_self] at this

theorem deads_rvs : ∀ (n : Nat) (vs : List Value), vs.length = n → RVs h I μ s (deads n) vs
  | 0, [], _ => by simp only [deads, RVs]
  | n + 1, v :: vs, hl => by
    simp only [deads, RVs]
    exact ⟨v, vs, rfl, by simp only [RV], deads_rvs n vs (by simpa using hl)⟩

theorem Went.world {w0 : World} {μ0 : List Slot} {s0 : St} {nt : Nat} {e : Env} {a : Act} {w w' : World} (hw : Went X w0 μ0 s0 nt e s a w) (hh : w'.heap = w.heap) (hc : Calm w w') : Went X w0 μ0 s0 nt e s a w' := by
  obtain ⟨μ, i0, x0, v0, z0, d0, c0⟩ := hw
  exact ⟨μ, by rw [hh]; exact i0, by rw [hh]; exact x0, by rw [hh]; exact v0, z0, d0, c0.trans hc⟩

/-- At a loop's head. -/
theorem Went.pack {w0 : World} {μ0 : List Slot} {s0 : St} {nt : Nat} {e : Env} {a : Act} {w : World} (hw : Went X w0 μ0 s0 nt e s a w) (h1 : μ0.length = s0.length) (keep : List Nat) (wide : List (Option Ty)) :
    Went X w0 μ0 s0 nt (setEs (deads nt) keep (packW wide s0.length (getEs e keep) s).1) (packW wide s0.length (getEs e keep) s).2 a w := by
  obtain ⟨μ, i0, x0, v0, z0, d0, c0⟩ := hw
  obtain ⟨μ', i1, x1, hv⟩ := packW_step i0 x0 h1 wide (getEs e keep)
  refine ⟨μ', i1, x1, setEs_rvs _ _ _ (deads_rvs _ _ (by simpa using z0)) (hv _ (getEs_rvs v0 keep)), z0, d0, c0⟩

/-- What 'exec' says of code. -/
def Sound (P : Program) (G : Glob) (F : Fx) (c : Code) : Prop :=
  ∀ (k : Out → Env → St → Option Res) e s r, exec G F c k e s = some r → ∃ o e' s', k o e' s' = some r ∧
    ∀ X w0 μ0 s0 a (w : World), s0.length = F.n → μ0.length = s0.length → Went X w0 μ0 s0 F.nt e s a w →
      c.wp P (fun ex a' w' => ex = exO o ∧ Went X w0 μ0 s0 F.nt e' s' a' w') a w

theorem rounds_mono {b : Code} {Q Q' : Exit → Act → World → Prop} (hq : ∀ e a w, Q e a w → Q' e a w) : ∀ (n : Nat) (a : Act) (w : World), Code.rounds P b Q n a w → Code.rounds P b Q' n a w
  | 0, _, _, h => h
  | n + 1, a, w, h => wp_mono h fun e a' w' he => by
    cases e <;> first
      | exact rounds_mono hq n _ _ he
      | exact hq _ _ _ he

theorem loop_rounds {F : Fx} {keep : List Nat} {wide : List (Option Ty)} {b : Code} (hb : Sound P G F b) {vals vs : List AV} {st st' : St} {o : Out} {n : Nat} (hr : LoopRuns G F keep wide b n vals st o vs st') :
    o ≠ .norm ∧ ∀ X w0 μ0 s0 a (w : World), s0.length = F.n → μ0.length = s0.length → Went X w0 μ0 s0 F.nt (setEs (deads F.nt) keep vals) st a w →
      Code.rounds P b (fun ex a' w' => ex = exO o ∧ Went X w0 μ0 s0 F.nt (setEs (deads F.nt) keep vs) st' a' w') n a w := by
  induction hr with
  | stop hx ho =>
    refine ⟨ho, fun X w0 μ0 s0 a w hn hμ hw => ?_⟩
    obtain ⟨o1, e1, s1, h1, h2⟩ := hb _ _ _ _ hx
    rw [rounds_succ]
    refine wp_mono (h2 X w0 μ0 s0 a w hn hμ hw) ?_
    rintro ex a' w' ⟨rfl, hw'⟩
    have hp := hw'.pack hμ keep wide
    simp only [bodyK, Option.some.injEq, Res.mk.injEq] at h1
    obtain ⟨rfl, h3, h4⟩ := h1
    rw [hn, h3, h4] at hp
    cases o1 with
    | norm => exact absurd rfl ho
    | exit j => exact ⟨rfl, hp⟩
    | ret => exact ⟨rfl, hp⟩
  | more hx _ ih =>
    obtain ⟨ho, ih⟩ := ih
    refine ⟨ho, fun X w0 μ0 s0 a w hn hμ hw => ?_⟩
    obtain ⟨o1, e1, s1, h1, h2⟩ := hb _ _ _ _ hx
    simp only [bodyK, Option.some.injEq, Res.mk.injEq] at h1
    obtain ⟨rfl, h3, h4⟩ := h1
    rw [rounds_succ]
    refine wp_mono (h2 X w0 μ0 s0 a w hn hμ hw) ?_
    rintro ex a' w' ⟨rfl, hw'⟩
    have hp := hw'.pack hμ keep wide
    rw [hn, h3, h4] at hp
    exact ih X w0 μ0 s0 a' w' hn hμ hp

/-- A block that isn't a loop's. -/
theorem block_case {F : Fx} {id : Nat} {c : Code} (hx : ∀ k e s, exec G F (.block id c) k e s = exec G F c (fun o e s => match o with
    | .exit j => bif j == id then k .norm e s else k (.exit j) e s
    | o => k o e s) e s) (hc : Sound P G F c) : Sound P G F (.block id c) := by
  intro k e s r hk
  rw [hx] at hk
  obtain ⟨o, e1, s1, h1, h2⟩ := hc _ _ _ _ hk
  have hwp : ∀ (o' : Out), (o = .exit id → o' = .norm) → (o ≠ .exit id → o' = o) → ∀ X w0 μ0 s0 a (w : World), s0.length = F.n → μ0.length = s0.length → Went X w0 μ0 s0 F.nt e s a w →
      (Code.block id c).wp P (fun ex a' w' => ex = exO o' ∧ Went X w0 μ0 s0 F.nt e1 s1 a' w') a w := by
    intro o' ho1 ho2 X w0 μ0 s0 a w hn hμ hw
    refine wp_block (wp_mono (h2 X w0 μ0 s0 a w hn hμ hw) ?_)
    rintro ex a' w' ⟨rfl, hw'⟩
    cases o with
    | norm => rw [ho2 (by simp)]; exact ⟨rfl, hw'⟩
    | exit j =>
      simp only [exO, Exit.inBlock]
      split
      · rename_i hj
        subst hj
        rw [ho1 rfl]
        exact ⟨rfl, hw'⟩
      · rename_i hj
        rw [ho2 (by simpa using hj)]
        exact ⟨rfl, hw'⟩
    | ret => rw [ho2 (by simp)]; exact ⟨rfl, hw'⟩
  cases o with
  | norm => exact ⟨.norm, _, _, h1, hwp _ (fun hh => by cases hh) (fun _ => rfl)⟩
  | exit j =>
    simp only at h1
    cases hj : j == id with
    | true =>
      rw [hj] at h1
      have hj' : j = id := by simpa using hj
      exact ⟨.norm, _, _, h1, hwp .norm (fun _ => rfl) (fun hh => absurd (by rw [hj']) hh)⟩
    | false =>
      rw [hj] at h1
      have hj' : j ≠ id := by simpa using hj
      exact ⟨.exit j, _, _, h1, hwp _ (fun hh => absurd (by simpa using hh) hj') (fun _ => rfl)⟩
  | ret => exact ⟨.ret, _, _, h1, hwp _ (fun hh => by cases hh) (fun _ => rfl)⟩

theorem exec_sound (hG : GlobOk P G) (hm : P.follows .mixedOrders = true) {F : Fx} : ∀ (c : Code), LoopsOk G F c → Sound P G F c
  | .skip, _ => fun k e s r hk => ⟨.norm, e, s, by simpa only [exec] using hk, fun X w0 μ0 s0 a w hn hμ hw => wp_skip ⟨rfl, hw⟩⟩
  | .region id ops draw, hl => fun k e s r hk => by
    simp only [exec] at hk
    cases draw with
    | true =>
      simp only [cond_true] at hk
      have hold : ∀ wr, Region.noSelect ops = true → execAny G wr ops ops.toList ops.size (Array.replicate ops.size false) (fun e s => k .norm e s) e s = some r → ∃ o e' s', k o e' s' = some r ∧
          ∀ X w0 μ0 s0 a (w : World), s0.length = F.n → μ0.length = s0.length → Went X w0 μ0 s0 F.nt e s a w →
            (Code.region id ops true).wp P (fun ex a' w' => ex = exO o ∧ Went X w0 μ0 s0 F.nt e' s' a' w') a w := by
        intro wr hsel hk
        obtain ⟨e', s', h1, h2⟩ := execAny_sound hG hsel _ _ _ _ hk
        refine ⟨.norm, e', s', h1, fun X w0 μ0 s0 a w hn hμ hw => ?_⟩
        have hp : ∀ c a w, ¬ (fun ex a' w' => ex = exO .norm ∧ Went X w0 μ0 s0 F.nt e' s' a' w') (Exit.panic c) a w := by
          rintro c a w ⟨h, _⟩
          cases h
        obtain ⟨μ, i0, x0, v0, z0, d0, c0⟩ := hw.world (w' := { w with drawn := w.drawn + 1 }) rfl ⟨rfl, rfl, rfl⟩
        exact wp_region_any hm (wpAny_of_L _ _ _ _ (h2 X w.heap.size w0 μ0 s0 F.nt _ i0.xlt x0.size hp (fun a' w' hw' => ⟨rfl, hw'⟩) _ [] _ a { w with drawn := w.drawn + 1 } μ (unl_le _ _) (AtD.start (w := { w with drawn := w.drawn + 1 }) i0 x0 v0 z0 d0 c0)))
      split at hk
      · rename_i sp hsp
        cases hc : (Region.noSelect ops && chkFast G ops sp.keep) with
        | false => rw [hc] at hk; cases hk
        | true =>
          rw [hc] at hk
          simp only [cond_true] at hk
          simp only [Bool.and_eq_true] at hc
          have := execPlan_any (k := fun e s => k .norm e s) _ _ _ (chkFast_ok hc.2)
          refine hold [] hc.1 ?_
          rw [← hk, execPlan2_eq _ none _ _ trivial, ← this]
          simp
      · split at hk
        · rename_i sp hsp
          obtain ⟨vs, st', rr, g1, hsel, g2, g3⟩ := hl rfl sp hsp _ _ _ _ hk
          refine ⟨.norm, _, _, g1, fun X w0 μ0 s0 a w hn hμ hw => ?_⟩
          have hp : ∀ c a w, ¬ (fun ex a' w' => ex = exO .norm ∧ Went X w0 μ0 s0 F.nt (setEs (deads F.nt) sp.keep vs) st' a' w') (Exit.panic c) a w := by
            rintro c a w ⟨h, _⟩
            cases h
          have hpk := hw.pack hμ sp.keep sp.wide
          rw [hn] at hpk
          obtain ⟨μ, i0, x0, v0, z0, d0, c0⟩ := hpk.world (w' := { w with drawn := w.drawn + 1 }) rfl ⟨rfl, rfl, rfl⟩
          refine wp_region_any hm (wpAny_of_L _ _ _ _ (execAnyP_sound hG hsel (R := ⟨.norm, vs, st'⟩) rfl (fun e s r h => by simp only [bodyK, Option.some.injEq] at h; rw [← h]) _ _ _ _ _ g2 g3 X w.heap.size w0 μ0 s0 F.nt _ i0.xlt x0.size hp (fun e' s' he a' w' hw' => ⟨rfl, ?_⟩) _ [] _ a { w with drawn := w.drawn + 1 } μ (unl_le _ _) (AtD.start (w := { w with drawn := w.drawn + 1 }) i0 x0 v0 z0 d0 c0)))
          simp only [bodyK, Option.some.injEq, Res.mk.injEq] at he
          have hp2 := hw'.pack hμ sp.keep sp.wide
          rw [hn, he.2.1, he.2.2] at hp2
          exact hp2
        · cases hsel : Region.noSelect ops with
          | false => rw [hsel] at hk; cases hk
          | true =>
            rw [hsel] at hk
            exact hold _ hsel hk
    | false =>
      simp only [cond_false] at hk
      obtain ⟨e', s', h1, h2⟩ := execOps_sound hG ops.toList 0 e s (by simp) hk
      refine ⟨.norm, e', s', h1, fun X w0 μ0 s0 a w hn hμ hw => wp_region ?_⟩
      have := h2 X w0 μ0 s0 F.nt a w hw (fun ex a' w' => ex = exO .norm ∧ Went X w0 μ0 s0 F.nt e' s' a' w') fun a' w' hw' => ⟨rfl, hw'⟩
      simpa [List.range_eq_range'] using this
  | .seq x y, hl => fun k e s r hk => by
    simp only [LoopsOk] at hl
    simp only [exec] at hk
    split at hk
    · obtain ⟨o, e1, s1, h1, h2⟩ := exec_sound hG hm x hl.1 _ _ _ _ hk
      cases o with
      | norm =>
        simp only [forceL_eq, forceS_eq] at h1
        obtain ⟨o', e2, s2, h3, h4⟩ := exec_sound hG hm y hl.2.1 _ _ _ _ h1
        refine ⟨o', e2, s2, h3, fun X w0 μ0 s0 a w hn hμ hw => wp_seq (wp_mono (h2 X w0 μ0 s0 a w hn hμ hw) ?_)⟩
        rintro ex a' w' ⟨rfl, hw'⟩
        exact h4 X w0 μ0 s0 a' w' hn hμ hw'
      | exit j =>
        refine ⟨_, e1, s1, h1, fun X w0 μ0 s0 a w hn hμ hw => wp_seq (wp_mono (h2 X w0 μ0 s0 a w hn hμ hw) ?_)⟩
        rintro ex a' w' ⟨rfl, hw'⟩
        exact ⟨rfl, hw'⟩
      | ret =>
        refine ⟨_, e1, s1, h1, fun X w0 μ0 s0 a w hn hμ hw => wp_seq (wp_mono (h2 X w0 μ0 s0 a w hn hμ hw) ?_)⟩
        rintro ex a' w' ⟨rfl, hw'⟩
        exact ⟨rfl, hw'⟩
    · rename_i sp hsp
      obtain ⟨o, e1, s1, h1, h2⟩ := exec_sound hG hm x hl.1 _ _ _ _ hk
      cases o with
      | norm =>
        simp only at h1
        obtain ⟨o2, vs2, st2, g1, g2⟩ := hl.2.2 sp hsp _ _ _ _ h1
        obtain ⟨o3, e3, s3, h3, h4⟩ := exec_sound hG hm y hl.2.1 _ _ _ _ g1
        simp only [bodyK, Option.some.injEq, Res.mk.injEq] at h3
        obtain ⟨rfl, h5, h6⟩ := h3
        refine ⟨o3, _, _, g2, fun X w0 μ0 s0 a w hn hμ hw => wp_seq (wp_mono (h2 X w0 μ0 s0 a w hn hμ hw) ?_)⟩
        rintro ex a' w' ⟨rfl, hw'⟩
        have hp := hw'.pack hμ sp.keep sp.wide
        rw [hn] at hp
        refine wp_mono (h4 X w0 μ0 s0 a' w' hn hμ hp) ?_
        rintro ex a2 w2 ⟨rfl, hw2⟩
        have hp2 := hw2.pack hμ sp.keep sp.wide
        rw [hn, h5, h6] at hp2
        exact ⟨rfl, hp2⟩
      | exit j =>
        refine ⟨_, e1, s1, h1, fun X w0 μ0 s0 a w hn hμ hw => wp_seq (wp_mono (h2 X w0 μ0 s0 a w hn hμ hw) ?_)⟩
        rintro ex a' w' ⟨rfl, hw'⟩
        exact ⟨rfl, hw'⟩
      | ret =>
        refine ⟨_, e1, s1, h1, fun X w0 μ0 s0 a w hn hμ hw => wp_seq (wp_mono (h2 X w0 μ0 s0 a w hn hμ hw) ?_)⟩
        rintro ex a' w' ⟨rfl, hw'⟩
        exact ⟨rfl, hw'⟩
  | .cond c x y, hl => fun k e s r hk => by
    simp only [LoopsOk] at hl
    simp only [exec] at hk
    split at hk
    · rename_i b hb
      have hc : ∀ X w0 μ0 s0 a (w : World), Went X w0 μ0 s0 F.nt e s a w → a.eval c = .bool b := by
        rintro X w0 μ0 s0 a w ⟨μ, i0, x0, v0, z0, d0, c0⟩
        have := ev_rv v0 c
        rw [hb] at this
        simpa only [RV] using this
      cases b with
      | true =>
        simp only [cond_true] at hk
        obtain ⟨o, e1, s1, h1, h2⟩ := exec_sound hG hm x hl.1 _ _ _ _ hk
        exact ⟨o, e1, s1, h1, fun X w0 μ0 s0 a w hn hμ hw => wp_cond_true (hc _ _ _ _ _ _ hw) (h2 X w0 μ0 s0 a w hn hμ hw)⟩
      | false =>
        simp only [cond_false] at hk
        obtain ⟨o, e1, s1, h1, h2⟩ := exec_sound hG hm y hl.2 _ _ _ _ hk
        exact ⟨o, e1, s1, h1, fun X w0 μ0 s0 a w hn hμ hw => wp_cond_false (hc _ _ _ _ _ _ hw) (h2 X w0 μ0 s0 a w hn hμ hw)⟩
    · cases hk
  | .block id (.loop b), hl => fun k e s r hk => by
    simp only [LoopsOk] at hl
    have hb := exec_sound hG hm b hl.2
    simp only [exec] at hk
    split at hk
    · cases hk
    · rename_i sp hsp
      obtain ⟨n, o, vs, st', h1, h2⟩ := hl.1 sp hsp _ _ _ _ hk
      obtain ⟨hno, hrun⟩ := loop_rounds hb h1
      have hwp : ∀ (o' : Out), (o = .exit id → o' = .norm) → (o ≠ .exit id → o' = o) → ∀ X w0 μ0 s0 a (w : World), s0.length = F.n → μ0.length = s0.length → Went X w0 μ0 s0 F.nt e s a w →
          (Code.block id (.loop b)).wp P (fun ex a' w' => ex = exO o' ∧ Went X w0 μ0 s0 F.nt (setEs (deads F.nt) sp.keep vs) st' a' w') a w := by
        intro o' ho1 ho2 X w0 μ0 s0 a w hn hμ hw
        have hp := hw.pack hμ sp.keep sp.wide
        rw [hn] at hp
        refine wp_block (wp_loop_rounds n (rounds_mono ?_ _ _ _ (hrun X w0 μ0 s0 a w hn hμ hp)))
        rintro ex a' w' ⟨rfl, hw'⟩
        cases o with
        | norm => exact absurd rfl hno
        | exit j =>
          simp only [exO, Exit.inBlock]
          split
          · rename_i hj
            subst hj
            rw [ho1 rfl]
            exact ⟨rfl, hw'⟩
          · rename_i hj
            rw [ho2 (by simpa using hj)]
            exact ⟨rfl, hw'⟩
        | ret =>
          rw [ho2 (by simp)]
          exact ⟨rfl, hw'⟩
      cases o with
      | norm => exact absurd rfl hno
      | exit j =>
        simp only at h2
        cases hj : j == id with
        | true =>
          rw [hj] at h2
          have hj' : j = id := by simpa using hj
          exact ⟨.norm, _, _, h2, hwp .norm (fun _ => rfl) (fun hh => absurd (by rw [hj']) hh)⟩
        | false =>
          rw [hj] at h2
          have hj' : j ≠ id := by simpa using hj
          exact ⟨.exit j, _, _, h2, hwp _ (fun hh => absurd (by simpa using hh) hj') (fun _ => rfl)⟩
      | ret => exact ⟨.ret, _, _, h2, hwp _ (fun hh => by cases hh) (fun _ => rfl)⟩
  | .scope c, _ => fun k e s r hk => by simp [exec] at hk
  | .exit id, _ => fun k e s r hk => ⟨.exit id, e, s, by simpa only [exec] using hk, fun X w0 μ0 s0 a w hn hμ hw => wp_exit ⟨rfl, hw⟩⟩
  | .ret, _ => fun k e s r hk => ⟨.ret, e, s, by simpa only [exec] using hk, fun X w0 μ0 s0 a w hn hμ hw => wp_ret ⟨rfl, hw⟩⟩
  | .loop c, _ => fun k e s r hk => by simp [exec] at hk
  | .goto _, _ => fun k e s r hk => by simp [exec] at hk
  | .label _, _ => fun k e s r hk => by simp [exec] at hk
  | .rangeFunc _ _ _ _, _ => fun k e s r hk => by simp [exec] at hk
  | .refuse _, _ => fun k e s r hk => by simp [exec] at hk
  | .block id (.skip), hl => block_case (fun k e s => rfl) (exec_sound hG hm (.skip) (by first | exact hl | exact trivial))
  | .block id (.region i o d), hl => block_case (fun k e s => rfl) (exec_sound hG hm (.region i o d) (by first | exact hl | exact trivial))
  | .block id (.seq x y), hl => block_case (fun k e s => rfl) (exec_sound hG hm (.seq x y) (by first | exact hl | exact trivial))
  | .block id (.cond c x y), hl => block_case (fun k e s => rfl) (exec_sound hG hm (.cond c x y) (by first | exact hl | exact trivial))
  | .block id (.block i x), hl => block_case (fun k e s => rfl) (exec_sound hG hm (.block i x) (by first | exact hl | exact trivial))
  | .block id (.rangeFunc f p x y), hl => block_case (fun k e s => rfl) (exec_sound hG hm (.rangeFunc f p x y) (by first | exact hl | exact trivial))
  | .block id (.exit i), hl => block_case (fun k e s => rfl) (exec_sound hG hm (.exit i) (by first | exact hl | exact trivial))
  | .block id (.scope x), hl => block_case (fun k e s => rfl) (exec_sound hG hm (.scope x) (by first | exact hl | exact trivial))
  | .block id (.label l), hl => block_case (fun k e s => rfl) (exec_sound hG hm (.label l) (by first | exact hl | exact trivial))
  | .block id (.goto l), hl => block_case (fun k e s => rfl) (exec_sound hG hm (.goto l) (by first | exact hl | exact trivial))
  | .block id (.ret), hl => block_case (fun k e s => rfl) (exec_sound hG hm (.ret) (by first | exact hl | exact trivial))
  | .block id (.refuse y), hl => block_case (fun k e s => rfl) (exec_sound hG hm (.refuse y) (by first | exact hl | exact trivial))

end
end Go.VE
