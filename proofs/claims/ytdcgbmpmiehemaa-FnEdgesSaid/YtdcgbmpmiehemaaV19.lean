/- Regions and code: what 'exec' says is what the code does. -/
import Derived.Test.YtdcgbmpmiehemaaV18
namespace Go.VE
set_option linter.unusedVariables false
set_option linter.unusedSimpArgs false

section
variable {P : Program} {G : Glob} {X : Nat → Prop} {h : Heap} {I : Nat → Prop} {μ : List Slot} {s : St}

theorem getE_setE_eq : ∀ (e : Env) (t : Nat) (v : AV), t < e.length → getE (setE e t v) t = v
  | [], _, _, h => absurd h (Nat.not_lt_zero _)
  | _ :: _, 0, _, _ => rfl
  | _ :: l, t + 1, v, h => getE_setE_eq l t v (Nat.lt_of_succ_lt_succ h)

theorem getE_setE_ne : ∀ (e : Env) (t d : Nat) (v : AV), t ≠ d → getE (setE e d v) t = getE e t
  | [], _, _, _, _ => rfl
  | _ :: _, 0, 0, _, h => absurd rfl h
  | _ :: _, 0, _ + 1, _, _ => rfl
  | _ :: _, _ + 1, 0, _, _ => rfl
  | _ :: l, t + 1, d + 1, v, h => getE_setE_ne l t d v (fun e => h (by rw [e]))

theorem put_rvs {e : Env} {a : Act} {v : AV} {cv : Value} (he : RVs h I μ s e a.tmps.toList) (hv : RV h I μ s v cv) (d : Option Tmp) :
    RVs h I μ s (put e d v) (a.put d cv).tmps.toList := by
  cases d with
  | none => exact he
  | some t =>
    simp only [put, Act.put, Array.toList_setIfInBounds]
    exact RVs_set _ _ he t v cv hv

theorem put_size {a : Act} {d : Option Tmp} {v : Value} : (a.put d v).tmps.size = a.tmps.size := by
  cases d <;> simp [Act.put]

theorem put_defers {a : Act} {d : Option Tmp} {v : Value} : (a.put d v).defers = a.defers := by
  cases d <;> simp [Act.put]

theorem dstOf_eq : ∀ (l : List Oper) (j : Nat), dstOf l j = (l[j]?).bind (·.dst)
  | [], j => by simp [dstOf]
  | o :: l, 0 => by simp [dstOf]
  | o :: l, j + 1 => by simp [dstOf, dstOf_eq l j]

theorem getE_some {e : Env} {d : Nat} {b : Bool} {vs : List Value} (he : RVs h I μ s e vs) (hb : getE e d = .bool b) : vs[d]? = some (.bool b) := by
  have hl := RVs_length _ _ he
  have hlt : d < vs.length := by
    rcases Nat.lt_or_ge d vs.length with h1 | h1
    · exact h1
    · rw [getE_ge e d (by omega)] at hb; cases hb
  have h1 : vs[d]? = some vs[d] := List.getElem?_eq_getElem hlt
  have h2 := RVs_get _ _ he d _ h1
  rw [hb] at h2
  simp only [RV] at h2
  rw [h1, h2]

theorem yielded_of {ops : Array Oper} {e : Env} {a : Act} {j d : Nat} {b : Bool} (he : RVs h I μ s e a.tmps.toList) (hd : dstOf ops.toList j = some d) (hb : getE e d = .bool b) :
    yielded ops a.tmps j = some b := by
  rw [dstOf_eq] at hd
  have h1 := getE_some he hb
  unfold yielded
  simp only [Array.getElem?_toList] at hd h1
  rw [hd]
  simp [h1]

/-- What is known of one operation of a region that was carried out. -/
def StepDone (P : Program) (G : Glob) (ops : Array Oper) (chk : Option (List Nat)) (o : Oper) (e : Env) (s : St) (e' : Env) (s' : St) : Prop :=
  (∀ X μ (w : World) (a : Act), Inv X w.heap μ s → RVs w.heap (Im X w.heap μ s) μ s e a.tmps.toList → ∀ (Q : Exit → Act → World → Prop) (K : Act → World → Prop) (i : Nat), ops[i]? = some o →
    (∀ cv w' μ', Inv X w'.heap μ' s' → RVs w'.heap (Im X w'.heap μ' s') μ' s' e' (a.put o.dst cv).tmps.toList → Ext X w.heap μ s w'.heap μ' s' →
      (∀ wr, chk = some wr → (∀ b, b < w.heap.size → NotOf μ wr b → w'.heap[b]? = w.heap[b]?) ∧ ∀ r ∈ wr, ∀ sl', μ'[r]? = some sl' → ∃ sl, μ[r]? = some sl ∧ sl'.blk = sl.blk) → Calm w w' → K (a.put o.dst cv) w') → wpOp P ops Q i K a w) ∧
  (isQuiet G o.op = true → s' = s ∧ ∀ wr, qFar o.op e s wr = true → ∀ X h μ (a : Act), Inv X h μ s → RVs h (Im X h μ s) μ s e a.tmps.toList →
    ∃ cv, YieldsIf P ops (fun w => HX μ wr h w.heap) o cv a ∧ RVs h (Im X h μ s) μ s e' (a.put o.dst cv).tmps.toList)

theorem notOf_nil {b : Nat} : NotOf μ [] b := by intro r hr; simp at hr

theorem subIds_spec {m : List Nat} : ∀ {l : List Nat}, subIds l m = true → ∀ r ∈ l, r ∈ m
  | [], _, r, hr => by simp at hr
  | a :: l, h, r, hr => by
    simp only [subIds, Bool.and_eq_true, Option.isSome_iff_exists] at h
    obtain ⟨⟨j, hj⟩, h2⟩ := h
    simp only [List.mem_cons] at hr
    rcases hr with rfl | hr
    · exact List.mem_of_getElem? (idx_some hj)
    · exact subIds_spec h2 r hr

theorem boxAt_spec {r : Nat} (h : boxAt s r = true) : ∃ cs, getR s r = .box cs := by
  unfold boxAt at h
  split at h
  · rename_i cs hcs; exact ⟨cs, hcs⟩
  · cases h

/-- A box stays where it is. -/
theorem box_slot {h h' : Heap} {μ μ' : List Slot} {s s' : St} {r : Nat} {cs : List AV} (inv : Inv X h μ s) (hx : Ext X h μ s h' μ' s') (hg : getR s r = .box cs) {sl' : Slot} (hr : μ'[r]? = some sl') :
    ∃ sl, μ[r]? = some sl ∧ sl'.blk = sl.blk := by
  have hlt : r < s.length := lt_of_getR hg (by simp)
  obtain ⟨sl, hsl⟩ := inv.slot hlt
  have h1 := inv.reg r sl hsl
  rw [hg] at h1
  obtain ⟨k, c, el, fr, hk, _⟩ := h1
  have h2 : RV h (Im X h μ s) μ s (.bp r 0) (.pointer (some ⟨k, 0, none⟩)) := by
    simp only [RV]
    exact ⟨sl, hsl, by rw [hg]; exact ⟨k, hk, rfl⟩⟩
  have h3 := hx.rv _ _ h2
  simp only [RV] at h3
  obtain ⟨sl2, h4, h5⟩ := h3
  rw [hr] at h4
  cases h4
  refine ⟨sl, hsl, ?_⟩
  split at h5
  · obtain ⟨k', h6, h7⟩ := h5
    cases h7
    rw [h6, hk]
  · exact h5.elim

theorem qFar_put {o : Op} {e : Env} {wr : List Nat} {d : Nat} {b : Bool} (h : qFar o e s wr = true) (hb : getE e d = .bool b) : qFar o (setE e d (.bool b)) s wr = true := by
  unfold qFar at h ⊢
  cases wr with
  | nil => rfl
  | cons r l =>
    simp only at h ⊢
    split
    · rename_i t x
      simp only at h
      have hx : farFrom (r :: l) (ev (setE e d (.bool b)) x) = farFrom (r :: l) (ev e x) := by
        cases x with
        | tmp t' =>
          simp only [ev]
          by_cases ht : t' = d
          · subst ht
            rw [hb]
            rcases Nat.lt_or_ge t' e.length with hl | hl
            · rw [getE_setE_eq _ _ _ hl]
            · rw [getE_ge e t' hl] at hb; cases hb
          · rw [getE_setE_ne _ _ _ _ ht]
        | _ => rfl
      rw [hx]; exact h
    · rfl

theorem op1_sound (hG : GlobOk P G) {chk : Option (List Nat)} {o : Oper} {e : Env} {k : K1} {r : Res} (hk : op1 G chk o.op e s k = some r) :
    ∃ v s' tch, k v s' = some r ∧ OpOk P o e s tch v s' ∧ (∀ wr, chk = some wr → (∀ r ∈ tch, r ∈ wr) ∧ keeps o.op s wr tch = true) ∧ (isQuiet G o.op = true → s' = s ∧ ∀ wr, qFar o.op e s wr = true → OpQ P o e s wr v) := by
  cases chk with
  | none =>
    simp only [op1] at hk
    obtain ⟨v, s', h1, h2, h3⟩ := op_sound hG hk
    exact ⟨v, s', _, h1, h2, (by simp), h3⟩
  | some wr =>
    simp only [op1] at hk
    cases hc : (subIds (tchOf G o.op e s) wr && keeps o.op s wr (tchOf G o.op e s)) with
    | true =>
      rw [hc] at hk
      simp only [Bool.and_eq_true] at hc
      simp only [cond_true] at hk
      obtain ⟨v, s', h1, h2, h3⟩ := op_sound hG hk
      refine ⟨v, s', _, h1, h2, ?_, h3⟩
      rintro wr' e'
      cases e'
      exact ⟨fun r hr => subIds_spec hc.1 r hr, hc.2⟩
    | false => rw [hc] at hk; cases hk

theorem wpOp_wanted {ops : Array Oper} {Q : Exit → Act → World → Prop} {K : Act → World → Prop} {i : Nat} {o : Oper} {a : Act} {w : World} (hi : ops[i]? = some o)
    (hw : Region.wanted o (yielded ops a.tmps) = true) (h : o.wp P a w K Q) : wpOp P ops Q i K a w := by
  unfold wpOp; simp only [hi, hw, if_true]; exact .inl h

theorem wpOp_unwanted {ops : Array Oper} {Q : Exit → Act → World → Prop} {K : Act → World → Prop} {i : Nat} {o : Oper} {a : Act} {w : World} (hi : ops[i]? = some o)
    (hw : Region.wanted o (yielded ops a.tmps) = false) (h : K (a.put o.dst undef) w) : wpOp P ops Q i K a w := by
  unfold wpOp; simp only [hi, hw]; exact h

/-- One that is wanted. -/
theorem step_wanted (hG : GlobOk P G) {ops : Array Oper} {chk : Option (List Nat)} {o : Oper} {e0 e : Env} {k : Env → St → Option Res} {r : Res}
    (he0 : ∀ h I μ (a : Act), RVs h I μ s e0 a.tmps.toList → RVs h I μ s e a.tmps.toList ∧ Region.wanted o (yielded ops a.tmps) = true) (hfar : ∀ wr, qFar o.op e0 s wr = true → qFar o.op e s wr = true)
    (hk : op1 G chk o.op e s (fun v s' => k (put e o.dst v) s') = some r) : ∃ e' s', k e' s' = some r ∧ StepDone P G ops chk o e0 s e' s' := by
  obtain ⟨v, s', tch, h1, h2, h3, h4⟩ := op1_sound hG hk
  refine ⟨_, s', h1, ?_, ?_⟩
  · intro X μ w a inv he Q K i hi hK
    obtain ⟨g1, g2⟩ := he0 _ _ _ _ he
    refine wpOp_wanted hi g2 (h2 X μ w a inv g1 K Q fun cv w' μ' i1 v1 e1 t1 c1 k1 => ?_)
    refine hK cv w' μ' i1 (put_rvs (RVs.mono (fun b hb => e1.im b hb) (fun x u _ hx => e1.rv x u hx) _ _ g1) v1 _) e1 (fun wr hc => ⟨fun b hb hnot => t1 b hb fun r hr => hnot r ((h3 wr hc).1 r hr), fun r hr sl' hsl' => ?_⟩) c1
    have hk := (h3 wr hc).2
    simp only [keeps, Bool.and_eq_true, List.all_eq_true] at hk
    have hlt : r < s.length := Nat.le_of_ble_eq_true (hk.2 r hr)
    by_cases hcall : isCallV o.op = true ∧ r ∈ tch
    · have hb : boxAt s r = true := by
        have := hk.1
        rw [hcall.1] at this
        simp only [Bool.not_true, Bool.false_or, List.all_eq_true] at this
        exact this r hcall.2
      obtain ⟨cs, hcs⟩ := boxAt_spec hb
      exact box_slot inv e1 hcs hsl'
    · exact ⟨sl', by rw [← k1 r hlt (fun h1 h2 => hcall ⟨h1, h2⟩)]; exact hsl', rfl⟩
  · intro hq
    obtain ⟨e1, q1⟩ := h4 hq
    subst e1
    refine ⟨rfl, fun wr hf X h μ a inv he => ?_⟩
    obtain ⟨g1, g2⟩ := he0 _ _ _ _ he
    obtain ⟨cv, q2, q3⟩ := q1 wr (hfar wr hf) X h μ a inv g1
    exact ⟨cv, .inl ⟨g2, q2⟩, put_rvs g1 q3 _⟩

theorem step_unwanted {ops : Array Oper} {chk : Option (List Nat)} {o : Oper} {e0 e : Env} {k : Env → St → Option Res} {r : Res}
    (he0 : ∀ h I μ (a : Act), RVs h I μ s e0 a.tmps.toList → RVs h I μ s e a.tmps.toList ∧ Region.wanted o (yielded ops a.tmps) = false)
    (hk : k (put e o.dst (.tup [])) s = some r) : ∃ e' s', k e' s' = some r ∧ StepDone P G ops chk o e0 s e' s' := by
  have hun : ∀ h I μ, RV h I μ s (.tup []) undef := fun h I μ => by simp only [RV]; exact ⟨#[], rfl, by simp only [RVs]⟩
  refine ⟨_, s, hk, ?_, ?_⟩
  · intro X μ w a inv he Q K i hi hK
    obtain ⟨g1, g2⟩ := he0 _ _ _ _ he
    exact wpOp_unwanted hi g2 (hK undef w μ inv (put_rvs g1 (hun _ _ _) _) (Ext.refl _ _ _ _) (fun _ _ => ⟨fun _ _ _ => rfl, fun r _ sl' h => ⟨sl', h, rfl⟩⟩) (Calm.refl w))
  · intro hq
    refine ⟨rfl, fun wr hf X h μ a inv he => ?_⟩
    obtain ⟨g1, g2⟩ := he0 _ _ _ _ he
    exact ⟨undef, .inr ⟨g2, rfl⟩, put_rvs g1 (hun _ _ _) _⟩

theorem setE_same {e : Env} {d : Nat} {b : Bool} {vs : List Value} (he : RVs h I μ s e vs) (hb : vs[d]? = some (.bool b)) : RVs h I μ s (setE e d (.bool b)) vs := by
  have h1 := RVs_set _ _ he d (.bool b) (.bool b) (by simp only [RV])
  have h2 : vs.set d (.bool b) = vs := by
    apply List.ext_getElem?
    intro j
    rw [List.getElem?_set]
    split
    · rename_i hj; subst hj
      split
      · exact hb.symm
      · rename_i hl; rw [List.getElem?_eq_none (by omega)] at hb; cases hb
    · rfl
  rwa [h2] at h1

theorem stepOp_sound (hG : GlobOk P G) {ops : Array Oper} {chk : Option (List Nat)} {o : Oper} {e : Env} {k : Env → St → Option Res} {r : Res} (hk : stepOp G chk ops.toList o k e s = some r) :
    ∃ e' s', k e' s' = some r ∧ StepDone P G ops chk o e s e' s' := by
  unfold stepOp at hk
  split at hk
  · rename_i hg
    exact step_wanted hG (fun h I μ a he => ⟨he, by simp [Region.wanted, hg]⟩) (fun _ h => h) hk
  · rename_i j want hg
    split at hk
    · cases hk
    · rename_i d hd
      split at hk
      · rename_i b hb
        have key : ∀ h I μ (a : Act), RVs h I μ s e a.tmps.toList → RVs h I μ s (setE e d (.bool b)) a.tmps.toList ∧ yielded ops a.tmps j = some b := fun h I μ a he =>
          ⟨setE_same he (getE_some he hb), yielded_of he hd hb⟩
        have kw : want = b → ∀ h I μ (a : Act), RVs h I μ s e a.tmps.toList → RVs h I μ s (setE e d (.bool b)) a.tmps.toList ∧ Region.wanted o (yielded ops a.tmps) = true := fun hw h I μ a he =>
          ⟨(key h I μ a he).1, by simp [Region.wanted, hg, (key h I μ a he).2, hw]⟩
        have ku : want ≠ b → ∀ h I μ (a : Act), RVs h I μ s e a.tmps.toList → RVs h I μ s (setE e d (.bool b)) a.tmps.toList ∧ Region.wanted o (yielded ops a.tmps) = false := fun hw h I μ a he =>
          ⟨(key h I μ a he).1, by simp [Region.wanted, hg, (key h I μ a he).2, Ne.symm hw]⟩
        cases b with
        | true =>
          simp only [cond_true, forceL_eq] at hk
          cases want with
          | true => exact step_wanted hG (kw rfl) (fun _ h => qFar_put h hb) hk
          | false => exact step_unwanted (ku (by simp)) hk
        | false =>
          simp only [cond_false, forceL_eq] at hk
          cases want with
          | true => exact step_unwanted (ku (by simp)) hk
          | false => exact step_wanted hG (kw rfl) (fun _ h => qFar_put h hb) hk
      · rename_i hb
        refine step_unwanted (e0 := e) (fun h I μ a he => ⟨he, ?_⟩) hk
        have hy : yielded ops a.tmps j = none := by
          have hl := RVs_length _ _ he
          rw [dstOf_eq] at hd
          unfold yielded
          simp only [Array.getElem?_toList] at hd
          rw [hd]
          rcases Nat.lt_or_ge d a.tmps.size with h1 | h1
          · have h2 : a.tmps.toList[d]? = some a.tmps[d] := by simp [h1]
            have h3 := RVs_get _ _ he d _ h2
            rw [hb] at h3
            simp only [RV] at h3
            obtain ⟨vs, h4, _⟩ := h3
            simp [h1, h4]
          · simp [h1]
        simp [Region.wanted, hg, hy]
      · cases hk

/-- What is known of a stretch of operations. -/
def Went (X : Nat → Prop) (w0 : World) (μ0 : List Slot) (s0 : St) (nt : Nat) (e : Env) (s : St) (a : Act) (w : World) : Prop :=
  ∃ μ, Inv X w.heap μ s ∧ Ext X w0.heap μ0 s0 w.heap μ s ∧ RVs w.heap (Im X w.heap μ s) μ s e a.tmps.toList ∧ a.tmps.size = nt ∧ a.defers = [] ∧ Calm w0 w

theorem execOps_sound (hG : GlobOk P G) {ops : Array Oper} {k : Env → St → Option Res} {r : Res} : ∀ (l : List Oper) (n : Nat) (e : Env) (s : St), ops.toList.drop n = l →
    execOps G ops.toList l k e s = some r → ∃ e' s', k e' s' = some r ∧ ∀ X w0 μ0 s0 nt a (w : World), Went X w0 μ0 s0 nt e s a w → ∀ Q : Exit → Act → World → Prop,
      (∀ a' w', Went X w0 μ0 s0 nt e' s' a' w' → Q .normal a' w') → wpOps P ops Q (List.range' n l.length) a w
  | [], n, e, s, hd, hk => ⟨e, s, hk, fun X w0 μ0 s0 nt a w hw Q hQ => hQ a w hw⟩
  | o :: rest, n, e, s, hd, hk => by
    simp only [execOps] at hk
    obtain ⟨e1, s1, h1, h2, _⟩ := stepOp_sound hG hk
    have hn : ops[n]? = some o := by
      have := congrArg (·[0]?) hd
      simpa using this
    have hd' : ops.toList.drop (n + 1) = rest := by
      have := congrArg (List.drop 1) hd
      simpa [Nat.add_comm] using this
    obtain ⟨e2, s2, h3, h4⟩ := execOps_sound hG rest (n + 1) e1 s1 hd' h1
    refine ⟨e2, s2, h3, fun X w0 μ0 s0 nt a w hw Q hQ => ?_⟩
    obtain ⟨μ, i0, x0, v0, z0, d0, c0⟩ := hw
    simp only [List.length_cons, List.range'_succ]
    rw [wpOps_cons]
    refine h2 X μ w a i0 v0 Q _ n hn fun cv w' μ' i1 v1 x1 _ c1 => ?_
    exact h4 X w0 μ0 s0 nt _ w' ⟨μ', i1, x0.trans x1, v1, by rw [put_size]; exact z0, by rw [put_defers]; exact d0, c0.trans c1⟩ Q hQ

theorem pickQ_spec {wr : List Nat} {ops : Array Oper} {listed : Array Bool} {e : Env} : ∀ {l : List Nat} {j : Nat} {o : Oper}, pickQ G wr ops ops.toList listed e s l = some (j, o) →
    j ∈ l ∧ ops[j]? = some o ∧ isQuiet G o.op = true ∧ Region.free .any ops listed j = true ∧ qFar o.op e s wr = true
  | [], j, o, h => by simp [pickQ] at h
  | i :: l, j, o, h => by
    simp only [pickQ, Array.getElem?_toList] at h
    split at h
    · rename_i o' ho
      cases hc : (isQuiet G o'.op && Region.free .any ops listed i && qFar o'.op e s wr) with
      | true =>
        rw [hc] at h
        simp only [cond_true, Option.some.injEq, Prod.mk.injEq] at h
        obtain ⟨rfl, rfl⟩ := h
        simp only [Bool.and_eq_true] at hc
        exact ⟨by simp, ho, hc.1.1, hc.1.2, hc.2⟩
      | false =>
        rw [hc] at h
        simp only [cond_false] at h
        obtain ⟨h1, h2⟩ := pickQ_spec h
        exact ⟨List.mem_cons_of_mem _ h1, h2⟩
    · obtain ⟨h1, h2⟩ := pickQ_spec h
      exact ⟨List.mem_cons_of_mem _ h1, h2⟩

/-- Whatever order is picked; S holds behind every operation but the last. -/
def wpAnyL (P : Program) (md : Region.Mode) (ops : Array Oper) (Q : Exit → Act → World → Prop) (L : Nat) (S : World → Prop) : Nat → Array Bool → Act → World → Prop
  | 0, listed, a, w => Region.ready md ops listed = [] ∧ Q .normal a w
  | fuel + 1, listed, a, w =>
    (Region.ready md ops listed = [] → Q .normal a w) ∧
    ∀ i ∈ Region.ready md ops listed, wpOp P ops Q i (fun a' w' => (i ≠ L → S w') ∧ wpAnyL P md ops Q L S fuel (listed.setIfInBounds i true) a' w') a w

theorem wpAny_of_L {ops : Array Oper} {Q : Exit → Act → World → Prop} {md : Region.Mode} {L : Nat} {S : World → Prop} : ∀ (fuel : Nat) (listed : Array Bool) (a : Act) (w : World),
    wpAnyL P md ops Q L S fuel listed a w → wpAny P md ops Q fuel listed a w
  | 0, _, _, _, h => h
  | fuel + 1, _, _, _, h => ⟨h.1, fun i hi => wpOp_mono (fun a' w' h' => wpAny_of_L fuel _ a' w' h'.2) (h.2 i hi)⟩

theorem wpAnyL_monoS {ops : Array Oper} {Q : Exit → Act → World → Prop} {md : Region.Mode} {L : Nat} {S S' : World → Prop} (hS : ∀ w, S' w → S w) : ∀ (fuel : Nat) (listed : Array Bool) (a : Act) (w : World),
    wpAnyL P md ops Q L S' fuel listed a w → wpAnyL P md ops Q L S fuel listed a w
  | 0, _, _, _, h => h
  | fuel + 1, _, _, _, h => ⟨h.1, fun i hi => wpOp_mono (fun a' w' h' => ⟨fun hne => hS _ (h'.1 hne), wpAnyL_monoS hS fuel _ a' w' h'.2⟩) (h.2 i hi)⟩

/-- The last one waits for all the others. -/
def LastOk (md : Region.Mode) (ops : Array Oper) (L : Nat) : Prop := ∀ oL, ops[L]? = some oL → ∀ i, i < ops.size → i ≠ L → ∃ e ∈ oL.after, Region.binds md e = true ∧ e.on = i

theorem waitsAll_spec {o : Oper} : ∀ {n : Nat}, waitsAll o n = true → ∀ i, i < n → ∃ e ∈ o.after, Region.binds .any e = true ∧ e.on = i
  | 0, _, i, hi => by omega
  | n + 1, h, i, hi => by
    simp only [waitsAll, Bool.and_eq_true, List.any_eq_true] at h
    obtain ⟨⟨e, he, h1, h2⟩, h3⟩ := h
    by_cases hin : i = n
    · subst hin
      exact ⟨e, by simpa using he, h1, Nat.eq_of_beq_eq_true h2⟩
    · exact waitsAll_spec h3 i (by omega)

theorem lastOf_ok (ops : Array Oper) : LastOk .any ops (lastOf ops ops.toList) := by
  intro oL ho i hi hne
  unfold lastOf at ho hne
  split at ho
  · rename_i o h1
    cases hw : waitsAll o (ops.size - 1) with
    | true =>
      simp only [hw, cond_true] at ho
      simp only [h1, hw, cond_true] at hne
      simp only [Array.getElem?_toList] at h1
      rw [h1] at ho
      cases ho
      exact waitsAll_spec hw i (by omega)
    | false =>
      simp only [hw, cond_false] at ho
      simp at ho
  · simp at ho

theorem wpAnyL_first {ops : Array Oper} {Q : Exit → Act → World → Prop} {md : Region.Mode} {S : World → Prop} {L : Nat} (hL : LastOk md ops L) {i : Nat} {oi : Oper} {v : Value} (hi : ops[i]? = some oi)
    (hsel : ∀ (j : Nat) (o : Oper) cs b, ops[j]? = some o → o.op ≠ .select cs b)
    (hQ : ∀ c a w, Q (.panic c) (a.put oi.dst v) w → Q (.panic c) a w) :
    ∀ (fuel : Nat) (listed : Array Bool) (a : Act) (w : World),
      (∀ j oj, ops[j]? = some oj → j ≠ i → listed.getD j true = false → (∀ e ∈ oj.after, Region.binds md e = true → e.on ≠ i) → oi.apart ops oj = true) →
      i ∈ Region.ready md ops listed → YieldsIf P ops S oi v a → S w →
      wpAnyL P md ops Q L S fuel (listed.setIfInBounds i true) (a.put oi.dst v) w → wpAnyL P md ops Q L S (fuel + 1) listed a w := by
  intro fuel
  induction fuel with
  | zero =>
    intro listed a w _ hr hy hS H
    refine ⟨fun h => (by rw [h] at hr; cases hr), fun j hj => ?_⟩
    by_cases hji : j = i
    · subst hji; exact hy.wpOp hi hS ⟨fun _ => hS, H⟩
    · have := ready_mono hj hji
      rw [H.1] at this
      cases this
  | succ fuel ih =>
    intro listed a w hfree hr hy hS H
    refine ⟨fun h => (by rw [h] at hr; cases hr), fun j hj => ?_⟩
    by_cases hji : j = i
    · subst hji; exact hy.wpOp hi hS ⟨fun _ => hS, H⟩
    · have h1 := H.2 j (ready_mono hj hji)
      obtain ⟨hjun, oj, hoj, hall⟩ := mem_ready.1 hj
      have hnot : ∀ e ∈ oj.after, Region.binds md e = true → e.on ≠ i := fun e he hb heq => by
        have h1 := hall e he hb
        have h0 := (mem_ready.1 hr).1
        rw [heq] at h1
        rcases Nat.lt_or_ge i listed.size with h' | h'
        · simp [h'] at h0 h1; rw [h0] at h1; cases h1
        · simp [Array.getElem?_eq_none h'] at h1
      have hjL : j ≠ L := fun e => by
        subst e
        obtain ⟨e, he, hb, hon⟩ := hL oj hoj i (Array.getElem?_eq_some_iff.1 hi).1 (Ne.symm hji)
        exact hnot e he hb hon
      have h2 := wpOp_putIf hoj (hfree j oj hoj hji hjun hnot) (fun cs b => hsel i oi cs b hi) (fun cs b => hsel j oj cs b hoj) hQ hy h1
      have hfree' : ∀ k ok, ops[k]? = some ok → k ≠ i → (listed.setIfInBounds j true).getD k true = false →
          (∀ e ∈ ok.after, Region.binds md e = true → e.on ≠ i) → oi.apart ops ok = true := fun k ok hk hki hun hno => by
        refine hfree k ok hk hki ?_ hno
        by_cases hjk : j = k
        · subst hjk; exact hjun
        · rw [getD_set_ne true hjk] at hun; exact hun
      refine wpOp_mono (fun a' w' h3 => ⟨fun _ => h3.2.1 hjL, ih (listed.setIfInBounds j true) a' w' hfree' (ready_mono hr (Ne.symm hji)) h3.1 (h3.2.1 hjL) ?_⟩) h2
      rw [Array.setIfInBounds_comm _ _ hji]
      exact h3.2.2

theorem wpAnyL_done {ops : Array Oper} {Q : Exit → Act → World → Prop} {md : Region.Mode} {S : World → Prop} {L : Nat} {listed : Array Bool} {a : Act} {w : World} (hr : Region.ready md ops listed = []) (h : Q .normal a w) :
    ∀ fuel, wpAnyL P md ops Q L S fuel listed a w
  | 0 => ⟨hr, h⟩
  | _ + 1 => ⟨fun _ => h, by rw [hr]; simp⟩

theorem execAny_sound (hG : GlobOk P G) {wr : List Nat} {L : Nat} {ops : Array Oper} (hsel : Region.noSelect ops = true) (hL : LastOk .any ops L) {k : Env → St → Option Res} {r : Res} : ∀ (n : Nat) (listed : Array Bool) (e : Env) (s : St),
    execAny G wr L ops ops.toList n listed k e s = some r → ∃ e' s', k e' s' = some r ∧ ∀ X w0 μ0 s0 nt a (w : World) μ, Inv X w.heap μ s → Ext X w0.heap μ0 s0 w.heap μ s → RVs w.heap (Im X w.heap μ s) μ s e a.tmps.toList →
      a.tmps.size = nt → a.defers = [] → Calm w0 w → ∀ Q : Exit → Act → World → Prop,
      (∀ c a w, ¬ Q (.panic c) a w) → (∀ a' w', Went X w0 μ0 s0 nt e' s' a' w' → Q .normal a' w') →
      wpAnyL P .any ops Q L (fun w' => HX μ wr w.heap w'.heap) n listed a w := by
  intro n
  induction n with
  | zero =>
    intro listed e s hk
    unfold execAny at hk
    split at hk
    · rename_i hr
      exact ⟨e, s, hk, fun X w0 μ0 s0 nt a w μ i0 x0 v0 z0 d0 c0 Q _ hQ => wpAnyL_done hr (hQ a w ⟨μ, i0, x0, v0, z0, d0, c0⟩) _⟩
    · cases hk
  | succ n ih =>
    intro listed e s hk
    unfold execAny at hk
    split at hk
    · rename_i hr
      exact ⟨e, s, hk, fun X w0 μ0 s0 nt a w μ i0 x0 v0 z0 d0 c0 Q _ hQ => wpAnyL_done hr (hQ a w ⟨μ, i0, x0, v0, z0, d0, c0⟩) _⟩
    · rename_i i l hr
      split at hk
      · rename_i j o hp
        obtain ⟨p1, p2, p3, p4, p5⟩ := pickQ_spec hp
        obtain ⟨e1, s1, h1, _, h2⟩ := stepOp_sound hG hk
        obtain ⟨rfl, h2⟩ := h2 p3
        obtain ⟨e2, s2, h3, h4⟩ := ih _ e1 _ h1
        refine ⟨e2, s2, h3, fun X w0 μ0 s0 nt a w μ i0 x0 v0 z0 d0 c0 Q hp' hQ => ?_⟩
        obtain ⟨cv, y1, y2⟩ := h2 wr p5 X w.heap μ a i0 v0
        refine wpAnyL_first hL p2 (Region.noSelect_spec hsel) (fun c a w hc => absurd hc (hp' _ _ _)) _ _ _ _ (Region.free_spec p2 p4) ?_ y1 (fun _ _ _ => rfl) ?_
        · rw [hr]; exact p1
        · exact h4 X w0 μ0 s0 nt _ w μ i0 x0 y2 (by rw [put_size]; exact z0) (by rw [put_defers]; exact d0) c0 Q hp' hQ
      · split at hk
        · rename_i o ho _
          rw [Array.getElem?_toList] at ho
          obtain ⟨e1, s1, h1, h2, _⟩ := stepOp_sound hG hk
          obtain ⟨e2, s2, h3, h4⟩ := ih _ e1 _ h1
          refine ⟨e2, s2, h3, fun X w0 μ0 s0 nt a w μ i0 x0 v0 z0 d0 c0 Q hp' hQ => ?_⟩
          refine ⟨fun h0 => by rw [hr] at h0; simp at h0, fun i' hi' => ?_⟩
          rw [hr] at hi'
          simp only [List.mem_singleton] at hi'
          subst hi'
          refine h2 X μ w a i0 v0 Q _ _ ho fun cv w' μ' i1 v1 x1 t1 c1 => ?_
          have hrest := h4 X w0 μ0 s0 nt _ w' μ' i1 (x0.trans x1) v1 (by rw [put_size]; exact z0) (by rw [put_defers]; exact d0) (c0.trans c1) Q hp' hQ
          cases hb : Nat.beq i' L with
          | true =>
            have heq := Nat.eq_of_beq_eq_true hb
            refine ⟨fun hne => absurd heq hne, ?_⟩
            -- nothing is left behind the last one
            cases n with
            | zero => exact hrest
            | succ n =>
              have hre : Region.ready .any ops (listed.setIfInBounds i' true) = [] := by
                rw [List.eq_nil_iff_forall_not_mem]
                intro q hq
                obtain ⟨hq1, oq, hq2, _⟩ := mem_ready.1 hq
                have hqne : q ≠ i' := fun e => by
                  subst e
                  have hsz := (mem_ready.1 (hr ▸ List.mem_singleton.2 rfl : q ∈ Region.ready .any ops listed)).1
                  rcases Nat.lt_or_ge q listed.size with h' | h'
                  · simp [h'] at hq1
                  · simp [Array.getElem?_eq_none h'] at hsz
                obtain ⟨hi1, oi, hi2, hi3⟩ := mem_ready.1 (hr ▸ List.mem_singleton.2 rfl : i' ∈ Region.ready .any ops listed)
                obtain ⟨e, he, hbn, hon⟩ := hL oi (heq ▸ hi2) q (Array.getElem?_eq_some_iff.1 hq2).1 (heq ▸ hqne)
                have := hi3 e he hbn
                rw [hon] at this
                rw [getD_set_ne true (Ne.symm hqne)] at hq1
                rcases Nat.lt_or_ge q listed.size with h' | h'
                · simp [h'] at hq1 this; rw [hq1] at this; cases this
                · simp [Array.getElem?_eq_none h'] at hq1
              exact wpAnyL_done hre (hrest.1 hre) _
          | false =>
            rw [hb] at t1
            have hstay : HX μ wr w.heap w'.heap := (t1 wr rfl).1
            refine ⟨fun _ => hstay, wpAnyL_monoS (fun w'' hw'' b hb hnot => ?_) _ _ _ _ hrest⟩
            have hb' : b < w'.heap.size := Nat.lt_of_lt_of_le hb x1.size
            refine (hw'' b hb' ?_).trans (hstay b hb hnot)
            intro r hr' sl' hsl' hbl
            obtain ⟨sl, q1, q2⟩ := (t1 wr rfl).2 r hr' sl' hsl'
            exact hnot r hr' sl q1 (q2 ▸ hbl)
        · cases hk

end
end Go.VE
