/- A function's contract. -/
import Derived.Test.YtpljjegocfmbeaaGreatV20
namespace Go.VE
set_option linter.unusedVariables false
set_option linter.unusedSimpArgs false

def resF (tmps : Array Value) : ResultVar → Sem Value
  | .tmp t => pure (tmps.getD t undef)
  | .cell a t => do loadVar t (← asAddr (tmps.getD a undef))

section
variable {P : Program} {G : Glob} {X : Nat → Prop} {μ : List Slot} {s : St}

theorem resA_sound (hT : TysOk P G) {w : World} (inv : Inv X w.heap μ s) {e : Env} {tmps : Array Value} (he : RVs w.heap (Im X w.heap μ s) μ s e tmps.toList) {rv : ResultVar} {v : AV}
    (hr : resA G e s rv = some v) : ∃ cv, (resF tmps rv).run P w = .ok cv w ∧ RV w.heap (Im X w.heap μ s) μ s v cv := by
  have hget : ∀ t, RV w.heap (Im X w.heap μ s) μ s (getE e t) (tmps.getD t undef) := fun t => ev_rv (a := ⟨tmps, []⟩) he (.tmp t)
  cases rv with
  | tmp t =>
    simp only [resA, Option.some.injEq] at hr
    subst hr
    exact ⟨_, rfl, hget t⟩
  | cell a t =>
    simp only [resA] at hr
    split at hr
    · rename_i ag T ht
      split at hr
      · rename_i cs hl
        obtain ⟨b, o', c, el, fr, vs, h1, h2, h3, h4, h5⟩ := loadCs_sound inv hl (hget a)
        obtain ⟨cv, h6, h7⟩ := run_loadVar_at (w := w) (hT.ty _ _ _ ht) h2 h3 h5 h4 hr
        refine ⟨cv, ?_, h7⟩
        simp only [resF, h1]
        simpa [asAddr] using h6
      · cases hr
    · cases hr

theorem resL_sound (hT : TysOk P G) {w : World} (inv : Inv X w.heap μ s) {e : Env} {tmps : Array Value} (he : RVs w.heap (Im X w.heap μ s) μ s e tmps.toList) : ∀ (l : List ResultVar) (vs : List AV),
    resL G e s l = some vs → ∃ cvs : List Value, (l.mapM (resF tmps)).run P w = .ok cvs w ∧ RVs w.heap (Im X w.heap μ s) μ s vs cvs
  | [], vs, hr => by
    simp only [resL, Option.some.injEq] at hr
    subst hr
    exact ⟨[], rfl, by simp only [RVs]⟩
  | r :: l, vs, hr => by
    simp only [resL] at hr
    split at hr
    · rename_i v hv
      split at hr
      · rename_i vs' hvs
        simp only [Option.some.injEq] at hr
        subst hr
        obtain ⟨cv, h1, h2⟩ := resA_sound hT inv he hv
        obtain ⟨cvs, h3, h4⟩ := resL_sound hT inv he l _ hvs
        refine ⟨cv :: cvs, ?_, by simp only [RVs]; exact ⟨cv, cvs, rfl, h2, h4⟩⟩
        rw [List.mapM_cons]
        simp [h1, h3]
      · cases hr
    · cases hr

theorem results_sound (hT : TysOk P G) {w : World} (inv : Inv X w.heap μ s) {e : Env} {tmps : Array Value} (he : RVs w.heap (Im X w.heap μ s) μ s e tmps.toList) {fn : Func} {vs : List AV}
    (hr : resL G e s fn.results.toList = some vs) : ∃ cv, (results fn tmps).run P w = .ok cv w ∧ RV w.heap (Im X w.heap μ s) μ s (one vs) cv := by
  obtain ⟨cvs, h1, h2⟩ := resL_sound hT inv he _ _ hr
  refine ⟨if h : cvs.toArray.size = 1 then cvs.toArray[0] else .tuple cvs.toArray, ?_, ?_⟩
  · have hres : results fn tmps = (do let vs ← fn.results.mapM (resF tmps); pure (if h : vs.size = 1 then vs[0] else .tuple vs)) := by
      unfold results
      congr
    rw [hres, Array.mapM_eq_mapM_toList]
    simp [h1]
  · cases cvs with
    | nil =>
      have := RVs_length _ _ h2
      cases vs with
      | nil => simp only [one, RV]; exact ⟨#[], rfl, by simp only [RVs]⟩
      | cons _ _ => simp at this
    | cons c l =>
      have := RVs_length _ _ h2
      cases l with
      | nil =>
        cases vs with
        | nil => simp at this
        | cons v vs =>
          cases vs with
          | nil =>
            simp only [RVs] at h2
            obtain ⟨u, r, e1, h3, rfl⟩ := h2
            cases e1
            simpa [one] using h3
          | cons _ _ => simp at this
      | cons c' l =>
        cases vs with
        | nil => simp at this
        | cons v vs =>
          cases vs with
          | nil => simp at this
          | cons v' vs =>
            simp only [one, RV]
            exact ⟨_, by simp, h2⟩

/-- What a function's body does, the function does. -/
theorem fn_sound (hG : GlobOk P G) (hm : P.follows .mixedOrders = true) {f : FuncId} {fn : Func} {c : Code} (hf : P.funcs[f]? = some fn) (hb : fn.body = some c) {g : List AV → St → K1 → Option Res}
    (hg : ∀ args s k r, g args s k = some r → ∃ loops v s', k v s' = some r ∧ execFn G loops fn args s = some ⟨.ret, [v], s'⟩ ∧
      LoopsOk G ⟨s.length, args.length + (fn.ntmps - args.length), loops⟩ c) : Contract P f g := by
  intro args s k r hk
  obtain ⟨loops, v, s', h1, h2, h3⟩ := hg args s k r hk
  refine ⟨v, s', h1, fun X μ w cargs inv hargs => ?_⟩
  unfold execFn at h2
  rw [hb] at h2
  simp only at h2
  obtain ⟨o, e1, s1, h4, h5⟩ := exec_sound hG hm c h3 _ _ _ _ h2
  refine calls_of_wp hf hb ?_
  have hl := RVs_length _ _ hargs
  have hw0 : Went X w μ s (args.length + (fn.ntmps - args.length)) (args ++ deads (fn.ntmps - args.length)) s
      ⟨cargs.toArray ++ Array.replicate (fn.ntmps - cargs.toArray.size) undef, []⟩ w := by
    refine ⟨μ, inv, Ext.refl _ _ _ _, ?_, by simp [hl], rfl, Calm.refl w⟩
    simp only [Array.toList_append, Array.toList_replicate, List.size_toArray]
    refine RVs_append _ _ _ _ hargs (deads_rvs _ _ (by simp [hl]))
  refine wp_mono (h5 X w μ s _ w rfl inv.len hw0) ?_
  rintro ex a' w' ⟨rfl, hw'⟩
  obtain ⟨μ1, i1, x1, v1, z1, d1, c1⟩ := hw'
  have key : ∀ vs, resL G e1 s1 fn.results.toList = some vs → (packW (wideOf ⟨s.length, args.length + (fn.ntmps - args.length), loops⟩) s.length [one vs] s1).1 = [v] → (packW (wideOf ⟨s.length, args.length + (fn.ntmps - args.length), loops⟩) s.length [one vs] s1).2 = s' →
      a'.defers = [] ∧ ∃ cv, (results fn a'.tmps).run P w' = .ok cv w' ∧ Post X w μ s v s' (.returned cv) w' := by
    intro vs hvs hp1 hp2
    obtain ⟨cv, q1, q2⟩ := results_sound hG.tys i1 v1 hvs
    obtain ⟨μ2, i2, x2, hv2⟩ := packW_step i1 x1 inv.len (wideOf ⟨s.length, args.length + (fn.ntmps - args.length), loops⟩) [one vs]
    have q3 := hv2 [cv] (by simp only [RVs]; exact ⟨cv, [], rfl, q2, rfl⟩)
    rw [hp1, hp2] at q3
    rw [hp2] at i2 x2
    simp only [RVs] at q3
    obtain ⟨u, r', e2, q4, rfl⟩ := q3
    cases e2
    exact ⟨d1, cv, q1, cv, μ2, rfl, i2, q4, x2, c1⟩
  cases o with
  | exit j => simp [endK] at h4
  | norm =>
    simp only [endK] at h4
    split at h4
    · rename_i vs hvs
      simp only [Option.some.injEq, Res.mk.injEq, true_and] at h4
      exact key vs hvs h4.1 h4.2
    · cases h4
  | ret =>
    simp only [endK] at h4
    split at h4
    · rename_i vs hvs
      simp only [Option.some.injEq, Res.mk.injEq, true_and] at h4
      exact key vs hvs h4.1 h4.2
    · cases h4

end
end Go.VE
