/- Regions and code: what 'exec' says is what the code does. -/
import Derived.Test.YtpljjegocfmbeaaGreatV18
namespace Go.VE
set_option linter.unusedVariables false
set_option linter.unusedSimpArgs false

section
variable {P : Program} {G : Glob} {X : Nat → Prop} {h : Heap} {I : Nat → Prop} {μ : List Slot} {s : St}

theorem getE_setE_eq : ∀ (e : Env) (t : Nat) (v : AV), t < e.length → getE (setE e t v) t = v
  | [], _, _, h => absurd h (Nat.not_lt_zero _)
  | _ :: _, 0, _, _ => rfl
  | _ :: l, t + 1, v, h => getE_setE_eq l t v (Nat.lt_of_succ_lt_succ h)

theorem getE_setE_ne : ∀ (e : Env) (t d : Nat) (v : AV), t ≠ d → getE (setE e d v) t = getE e t
  | [], _, _, _, _ => rfl
  | _ :: _, 0, 0, _, h => absurd rfl h
  | _ :: _, 0, _ + 1, _, _ => rfl
  | _ :: _, _ + 1, 0, _, _ => rfl
  | _ :: l, t + 1, d + 1, v, h => getE_setE_ne l t d v (fun e => h (by rw [e]))

theorem put_rvs {e : Env} {a : Act} {v : AV} {cv : Value} (he : RVs h I μ s e a.tmps.toList) (hv : RV h I μ s v cv) (d : Option Tmp) :
    RVs h I μ s (put e d v) (a.put d cv).tmps.toList := by
  cases d with
  | none => exact he
  | some t =>
    simp only [put, Act.put, Array.toList_setIfInBounds]
    exact RVs_set _ _ he t v cv hv

theorem put_size {a : Act} {d : Option Tmp} {v : Value} : (a.put d v).tmps.size = a.tmps.size := by
  cases d <;> simp [Act.put]

theorem put_defers {a : Act} {d : Option Tmp} {v : Value} : (a.put d v).defers = a.defers := by
  cases d <;> simp [Act.put]

theorem dstOf_eq : ∀ (l : List Oper) (j : Nat), dstOf l j = (l[j]?).bind (·.dst)
  | [], j => by simp [dstOf]
  | o :: l, 0 => by simp [dstOf]
  | o :: l, j + 1 => by simp [dstOf, dstOf_eq l j]

theorem getE_some {e : Env} {d : Nat} {b : Bool} {vs : List Value} (he : RVs h I μ s e vs) (hb : getE e d = .bool b) : vs[d]? = some (.bool b) := by
  have hl := RVs_length _ _ he
  have hlt : d < vs.length := by
    rcases Nat.lt_or_ge d vs.length with h1 | h1
    · exact h1
    · rw [getE_ge e d (by omega)] at hb; cases hb
  have h1 : vs[d]? = some vs[d] := List.getElem?_eq_getElem hlt
  have h2 := RVs_get _ _ he d _ h1
  rw [hb] at h2
  simp only [RV] at h2
  rw [h1, h2]

theorem yielded_of {ops : Array Oper} {e : Env} {a : Act} {j d : Nat} {b : Bool} (he : RVs h I μ s e a.tmps.toList) (hd : dstOf ops.toList j = some d) (hb : getE e d = .bool b) :
    yielded ops a.tmps j = some b := by
  rw [dstOf_eq] at hd
  have h1 := getE_some he hb
  unfold yielded
  simp only [Array.getElem?_toList] at hd h1
  rw [hd]
  simp [h1]

/-- What is known of one operation of a region that was carried out. -/
def StepDone (P : Program) (G : Glob) (ops : Array Oper) (chk : Option (List Nat)) (o : Oper) (e : Env) (s : St) (e' : Env) (s' : St) : Prop :=
  (∀ X μ (w : World) (a : Act), Inv X w.heap μ s → RVs w.heap (Im X w.heap μ s) μ s e a.tmps.toList → ∀ (Q : Exit → Act → World → Prop) (K : Act → World → Prop) (i : Nat), ops[i]? = some o →
    (∀ cv w' μ', Inv X w'.heap μ' s' → RVs w'.heap (Im X w'.heap μ' s') μ' s' e' (a.put o.dst cv).tmps.toList → Ext X w.heap μ s w'.heap μ' s' →
      (∀ wr, chk = some wr → ∀ b, b < w.heap.size → NotOf μ wr b → w'.heap[b]? = w.heap[b]? ∧ NotOf μ' wr b) → Calm w w' → K (a.put o.dst cv) w') → wpOp P ops Q i K a w) ∧
  (isQuiet G o.op = true → s' = s ∧ ∀ wr, qFar o.op e s wr = true → ∀ X h μ (a : Act), Inv X h μ s → RVs h (Im X h μ s) μ s e a.tmps.toList →
    ∃ cv, YieldsIf P ops (fun w => isLd o.op = true → HX X μ wr h w.heap) o cv a ∧ RVs h (Im X h μ s) μ s e' (a.put o.dst cv).tmps.toList)

theorem notOf_nil {b : Nat} : NotOf μ [] b := by intro r hr; simp at hr

theorem subIds_spec {m : List Nat} : ∀ {l : List Nat}, subIds l m = true → ∀ r ∈ l, r ∈ m
  | [], _, r, hr => by simp at hr
  | a :: l, h, r, hr => by
    simp only [subIds, Bool.and_eq_true, Option.isSome_iff_exists] at h
    obtain ⟨⟨j, hj⟩, h2⟩ := h
    simp only [List.mem_cons] at hr
    rcases hr with rfl | hr
    · exact List.mem_of_getElem? (idx_some hj)
    · exact subIds_spec h2 r hr

theorem boxAt_spec {r : Nat} (h : boxAt s r = true) : ∃ cs, getR s r = .box cs := by
  unfold boxAt at h
  split at h
  · rename_i cs hcs; exact ⟨cs, hcs⟩
  · cases h

/-- A box stays where it is. -/
theorem box_slot {h h' : Heap} {μ μ' : List Slot} {s s' : St} {r : Nat} {cs : List AV} (inv : Inv X h μ s) (hx : Ext X h μ s h' μ' s') (hg : getR s r = .box cs) {sl' : Slot} (hr : μ'[r]? = some sl') :
    ∃ sl, μ[r]? = some sl ∧ sl'.blk = sl.blk := by
  have hlt : r < s.length := lt_of_getR hg (by simp)
  obtain ⟨sl, hsl⟩ := inv.slot hlt
  have h1 := inv.reg r sl hsl
  rw [hg] at h1
  obtain ⟨k, c, el, fr, hk, _⟩ := h1
  have h2 : RV h (Im X h μ s) μ s (.bp r 0) (.pointer (some ⟨k, 0, none⟩)) := by
    simp only [RV]
    exact ⟨sl, hsl, by rw [hg]; exact ⟨k, hk, rfl⟩⟩
  have h3 := hx.rv _ _ h2
  simp only [RV] at h3
  obtain ⟨sl2, h4, h5⟩ := h3
  rw [hr] at h4
  cases h4
  refine ⟨sl, hsl, ?_⟩
  split at h5
  · obtain ⟨k', h6, h7⟩ := h5
    cases h7
    rw [h6, hk]
  · exact h5.elim

theorem qFar_put {o : Op} {e : Env} {wr : List Nat} {d : Nat} {b : Bool} (h : qFar o e s wr = true) (hb : getE e d = .bool b) : qFar o (setE e d (.bool b)) s wr = true := by
  unfold qFar at h ⊢
  cases wr with
  | nil => rfl
  | cons r l =>
    simp only at h ⊢
    split
    · rename_i t x
      simp only at h
      have hx : farFrom (r :: l) (ev (setE e d (.bool b)) x) = farFrom (r :: l) (ev e x) := by
        cases x with
        | tmp t' =>
          simp only [ev]
          by_cases ht : t' = d
          · subst ht
            rw [hb]
            rcases Nat.lt_or_ge t' e.length with hl | hl
            · rw [getE_setE_eq _ _ _ hl]
            · rw [getE_ge e t' hl] at hb; cases hb
          · rw [getE_setE_ne _ _ _ _ ht]
        | _ => rfl
      rw [hx]; exact h
    · rfl

theorem op1_sound (hG : GlobOk P G) {chk : Option (List Nat)} {o : Oper} {e : Env} {k : K1} {r : Res} (hk : op1 G chk o.op e s k = some r) :
    ∃ v s' tch, k v s' = some r ∧ OpOk P o e s tch v s' ∧ (∀ wr, chk = some wr → (∀ r ∈ tch, r ∈ wr) ∧ keeps o.op s tch = true ∧ goesOn wr s s' = true) ∧ (isQuiet G o.op = true → s' = s ∧ ∀ wr, qFar o.op e s wr = true → OpQ P o e s wr v) := by
  cases chk with
  | none =>
    simp only [op1] at hk
    obtain ⟨v, s', h1, h2, h3⟩ := op_sound hG hk
    exact ⟨v, s', _, h1, h2, (by simp), h3⟩
  | some wr =>
    simp only [op1] at hk
    cases hc : (subIds (tchOf G o.op e s) wr && keeps o.op s (tchOf G o.op e s)) with
    | true =>
      rw [hc] at hk
      simp only [Bool.and_eq_true] at hc
      simp only [cond_true] at hk
      obtain ⟨v, s', h1, h2, h3⟩ := op_sound hG hk
      cases hg : goesOn wr s s' with
      | true =>
        simp only [hg, cond_true] at h1
        refine ⟨v, s', _, h1, h2, ?_, h3⟩
        rintro wr' e'
        cases e'
        exact ⟨fun r hr => subIds_spec hc.1 r hr, hc.2, hg⟩
      | false => simp only [hg, cond_false] at h1; cases h1
    | false => rw [hc] at hk; cases hk

theorem wpOp_wanted {ops : Array Oper} {Q : Exit → Act → World → Prop} {K : Act → World → Prop} {i : Nat} {o : Oper} {a : Act} {w : World} (hi : ops[i]? = some o)
    (hw : Region.wanted o (yielded ops a.tmps) = true) (h : o.wp P a w K Q) : wpOp P ops Q i K a w := by
  unfold wpOp; simp only [hi, hw, if_true]; exact .inl h

theorem wpOp_unwanted {ops : Array Oper} {Q : Exit → Act → World → Prop} {K : Act → World → Prop} {i : Nat} {o : Oper} {a : Act} {w : World} (hi : ops[i]? = some o)
    (hw : Region.wanted o (yielded ops a.tmps) = false) (h : K (a.put o.dst undef) w) : wpOp P ops Q i K a w := by
  unfold wpOp; simp only [hi, hw]; exact h

/-- One that is wanted. -/
theorem step_wanted (hG : GlobOk P G) {ops : Array Oper} {chk : Option (List Nat)} {o : Oper} {e0 e : Env} {k : Env → St → Option Res} {r : Res}
    (he0 : ∀ h I μ (a : Act), RVs h I μ s e0 a.tmps.toList → RVs h I μ s e a.tmps.toList ∧ Region.wanted o (yielded ops a.tmps) = true) (hfar : ∀ wr, qFar o.op e0 s wr = true → qFar o.op e s wr = true)
    (hk : op1 G chk o.op e s (fun v s' => k (put e o.dst v) s') = some r) : ∃ e' s', k e' s' = some r ∧ StepDone P G ops chk o e0 s e' s' := by
  obtain ⟨v, s', tch, h1, h2, h3, h4⟩ := op1_sound hG hk
  refine ⟨_, s', h1, ?_, ?_⟩
  · intro X μ w a inv he Q K i hi hK
    obtain ⟨g1, g2⟩ := he0 _ _ _ _ he
    refine wpOp_wanted hi g2 (h2 X μ w a inv g1 K Q fun cv w' μ' i1 v1 e1 t1 c1 k1 => ?_)
    refine hK cv w' μ' i1 (put_rvs (RVs.mono (fun b hb => e1.im b hb) (fun x u _ hx => e1.rv x u hx) _ _ g1) v1 _) e1 (fun wr hc b hb hnot => ⟨t1 b hb fun r hr => hnot r ((h3 wr hc).1 r hr), fun r hr sl' hsl' hbl => ?_⟩) c1
    obtain ⟨hsub, hk, hgo⟩ := h3 wr hc
    have hgo : (∀ x, x < s.length → (idx x wr).isSome = true ∨ ((!(getR s x).live) = true ∨ (getR s' x).live = true)) ∧ ∀ x, x ∈ wr → Nat.ble (x + 1) s.length = true ∨ (Nat.ble s'.length x = true ∨ (getR s' x).live = true) := by
      cases wr with
      | nil => simp at hr
      | cons w0 wr => simpa only [goesOn, Bool.and_eq_true, List.all_eq_true, Bool.or_eq_true, List.mem_range] using hgo
    simp only [keeps] at hk
    have slot : ∀ r, r < s.length → ¬ (isCallV o.op = true ∧ r ∈ tch) → μ'[r]? = μ[r]? := fun r hlt hcall => k1 r hlt (fun h1 h2 => hcall ⟨h1, h2⟩)
    rcases Nat.lt_or_ge r s.length with hlt | hge
    · by_cases hcall : isCallV o.op = true ∧ r ∈ tch
      · have hb : boxAt s r = true := by
          rw [hcall.1] at hk
          simp only [Bool.not_true, Bool.false_or, List.all_eq_true] at hk
          exact hk r hcall.2
        obtain ⟨cs, hcs⟩ := boxAt_spec hb
        obtain ⟨sl, g1, g2⟩ := box_slot inv e1 hcs hsl'
        exact hnot r hr sl g1 (g2 ▸ hbl)
      · rw [slot r hlt hcall] at hsl'
        exact hnot r hr sl' hsl' hbl
    · have hlt' : r < s'.length := by have := (List.getElem?_eq_some_iff.1 hsl').1; rw [i1.len] at this; exact this
      have hlive : (getR s' r).live = true := by
        rcases hgo.2 r hr with h | h | h
        · have := Nat.le_of_ble_eq_true h; omega
        · have := Nat.le_of_ble_eq_true h; omega
        · exact h
      rcases e1.new r sl' b hsl' hlive hbl with h | h
      · omega
      · apply h
        intro r0 sl0 hr0 hl0 hb0
        have hlt0 : r0 < s.length := lt_of_getR (by rfl) (by intro hgone; rw [hgone] at hl0; cases hl0)
        have hno : r0 ∉ wr := fun hm => hnot r0 hm sl0 hr0 hb0
        have hidx : idx r0 wr = none := by
          cases hi : idx r0 wr with
          | none => rfl
          | some q => exact absurd (List.mem_of_getElem? (idx_some hi)) hno
        have hl0' : (getR s' r0).live = true := by
          rcases hgo.1 r0 hlt0 with h | h
          · rw [hidx] at h; cases h
          · rcases h with h | h
            · rw [hl0] at h; cases h
            · exact h
        have hs0 : μ'[r0]? = some sl0 := by rw [slot r0 hlt0 (fun hc' => hno (hsub r0 hc'.2))]; exact hr0
        exact i1.dis r0 r sl0 sl' b (by omega) hs0 hsl' hl0' hlive hb0 hbl
  · intro hq
    obtain ⟨e1, q1⟩ := h4 hq
    subst e1
    refine ⟨rfl, fun wr hf X h μ a inv he => ?_⟩
    obtain ⟨g1, g2⟩ := he0 _ _ _ _ he
    obtain ⟨cv, q2, q3⟩ := q1 wr (hfar wr hf) X h μ a inv g1
    exact ⟨cv, .inl ⟨g2, q2⟩, put_rvs g1 q3 _⟩

theorem step_unwanted {ops : Array Oper} {chk : Option (List Nat)} {o : Oper} {e0 e : Env} {k : Env → St → Option Res} {r : Res}
    (he0 : ∀ h I μ (a : Act), RVs h I μ s e0 a.tmps.toList → RVs h I μ s e a.tmps.toList ∧ Region.wanted o (yielded ops a.tmps) = false)
    (hk : k (put e o.dst (.tup [])) s = some r) : ∃ e' s', k e' s' = some r ∧ StepDone P G ops chk o e0 s e' s' := by
  have hun : ∀ h I μ, RV h I μ s (.tup []) undef := fun h I μ => by simp only [RV]; exact ⟨#[], rfl, by simp only [RVs]⟩
  refine ⟨_, s, hk, ?_, ?_⟩
  · intro X μ w a inv he Q K i hi hK
    obtain ⟨g1, g2⟩ := he0 _ _ _ _ he
    exact wpOp_unwanted hi g2 (hK undef w μ inv (put_rvs g1 (hun _ _ _) _) (Ext.refl _ _ _ _) (fun _ _ _ _ hnot => ⟨rfl, hnot⟩) (Calm.refl w))
  · intro hq
    refine ⟨rfl, fun wr hf X h μ a inv he => ?_⟩
    obtain ⟨g1, g2⟩ := he0 _ _ _ _ he
    exact ⟨undef, .inr ⟨g2, rfl⟩, put_rvs g1 (hun _ _ _) _⟩

theorem setE_same {e : Env} {d : Nat} {b : Bool} {vs : List Value} (he : RVs h I μ s e vs) (hb : vs[d]? = some (.bool b)) : RVs h I μ s (setE e d (.bool b)) vs := by
  have h1 := RVs_set _ _ he d (.bool b) (.bool b) (by simp only [RV])
  have h2 : vs.set d (.bool b) = vs := by
    apply List.ext_getElem?
    intro j
    rw [List.getElem?_set]
    split
    · rename_i hj; subst hj
      split
      · exact hb.symm
      · rename_i hl; rw [List.getElem?_eq_none (by omega)] at hb; cases hb
    · rfl
  rwa [h2] at h1

theorem stepOp_sound (hG : GlobOk P G) {ops : Array Oper} {chk : Option (List Nat)} {o : Oper} {e : Env} {k : Env → St → Option Res} {r : Res} (hk : stepOp G chk ops.toList o k e s = some r) :
    ∃ e' s', k e' s' = some r ∧ StepDone P G ops chk o e s e' s' := by
  unfold stepOp at hk
  split at hk
  · rename_i hg
    exact step_wanted hG (fun h I μ a he => ⟨he, by simp [Region.wanted, hg]⟩) (fun _ h => h) hk
  · rename_i j want hg
    split at hk
    · cases hk
    · rename_i d hd
      split at hk
      · rename_i b hb
        have key : ∀ h I μ (a : Act), RVs h I μ s e a.tmps.toList → RVs h I μ s (setE e d (.bool b)) a.tmps.toList ∧ yielded ops a.tmps j = some b := fun h I μ a he =>
          ⟨setE_same he (getE_some he hb), yielded_of he hd hb⟩
        have kw : want = b → ∀ h I μ (a : Act), RVs h I μ s e a.tmps.toList → RVs h I μ s (setE e d (.bool b)) a.tmps.toList ∧ Region.wanted o (yielded ops a.tmps) = true := fun hw h I μ a he =>
          ⟨(key h I μ a he).1, by simp [Region.wanted, hg, (key h I μ a he).2, hw]⟩
        have ku : want ≠ b → ∀ h I μ (a : Act), RVs h I μ s e a.tmps.toList → RVs h I μ s (setE e d (.bool b)) a.tmps.toList ∧ Region.wanted o (yielded ops a.tmps) = false := fun hw h I μ a he =>
          ⟨(key h I μ a he).1, by simp [Region.wanted, hg, (key h I μ a he).2, Ne.symm hw]⟩
        cases b with
        | true =>
          simp only [cond_true, forceL_eq] at hk
          cases want with
          | true => exact step_wanted hG (kw rfl) (fun _ h => qFar_put h hb) hk
          | false => exact step_unwanted (ku (by simp)) hk
        | false =>
          simp only [cond_false, forceL_eq] at hk
          cases want with
          | true => exact step_unwanted (ku (by simp)) hk
          | false => exact step_wanted hG (kw rfl) (fun _ h => qFar_put h hb) hk
      · rename_i hb
        refine step_unwanted (e0 := e) (fun h I μ a he => ⟨he, ?_⟩) hk
        have hy : yielded ops a.tmps j = none := by
          have hl := RVs_length _ _ he
          rw [dstOf_eq] at hd
          unfold yielded
          simp only [Array.getElem?_toList] at hd
          rw [hd]
          rcases Nat.lt_or_ge d a.tmps.size with h1 | h1
          · have h2 : a.tmps.toList[d]? = some a.tmps[d] := by simp [h1]
            have h3 := RVs_get _ _ he d _ h2
            rw [hb] at h3
            simp only [RV] at h3
            obtain ⟨vs, h4, _⟩ := h3
            simp [h1, h4]
          · simp [h1]
        simp [Region.wanted, hg, hy]
      · cases hk

/-- What is known of a stretch of operations. -/
def Went (X : Nat → Prop) (w0 : World) (μ0 : List Slot) (s0 : St) (nt : Nat) (e : Env) (s : St) (a : Act) (w : World) : Prop :=
  ∃ μ, Inv X w.heap μ s ∧ Ext X w0.heap μ0 s0 w.heap μ s ∧ RVs w.heap (Im X w.heap μ s) μ s e a.tmps.toList ∧ a.tmps.size = nt ∧ a.defers = [] ∧ Calm w0 w

theorem execOps_sound (hG : GlobOk P G) {ops : Array Oper} {k : Env → St → Option Res} {r : Res} : ∀ (l : List Oper) (n : Nat) (e : Env) (s : St), ops.toList.drop n = l →
    execOps G ops.toList l k e s = some r → ∃ e' s', k e' s' = some r ∧ ∀ X w0 μ0 s0 nt a (w : World), Went X w0 μ0 s0 nt e s a w → ∀ Q : Exit → Act → World → Prop,
      (∀ a' w', Went X w0 μ0 s0 nt e' s' a' w' → Q .normal a' w') → wpOps P ops Q (List.range' n l.length) a w
  | [], n, e, s, hd, hk => ⟨e, s, hk, fun X w0 μ0 s0 nt a w hw Q hQ => hQ a w hw⟩
  | o :: rest, n, e, s, hd, hk => by
    simp only [execOps] at hk
    obtain ⟨e1, s1, h1, h2, _⟩ := stepOp_sound hG hk
    have hn : ops[n]? = some o := by
      have := congrArg (·[0]?) hd
      simpa using this
    have hd' : ops.toList.drop (n + 1) = rest := by
      have := congrArg (List.drop 1) hd
      simpa [Nat.add_comm] using this
    obtain ⟨e2, s2, h3, h4⟩ := execOps_sound hG rest (n + 1) e1 s1 hd' h1
    refine ⟨e2, s2, h3, fun X w0 μ0 s0 nt a w hw Q hQ => ?_⟩
    obtain ⟨μ, i0, x0, v0, z0, d0, c0⟩ := hw
    simp only [List.length_cons, List.range'_succ]
    rw [wpOps_cons]
    refine h2 X μ w a i0 v0 Q _ n hn fun cv w' μ' i1 v1 x1 _ c1 => ?_
    exact h4 X w0 μ0 s0 nt _ w' ⟨μ', i1, x0.trans x1, v1, by rw [put_size]; exact z0, by rw [put_defers]; exact d0, c0.trans c1⟩ Q hQ

theorem pickQ_spec {wr : List Nat} {ops : Array Oper} {listed : Array Bool} {e : Env} : ∀ {l : List Nat} {j : Nat} {o : Oper}, pickQ G wr ops ops.toList listed e s l = some (j, o) →
    j ∈ l ∧ ops[j]? = some o ∧ isQuiet G o.op = true ∧ Region.free .any ops listed j = true ∧ qFar o.op e s wr = true
  | [], j, o, h => by simp [pickQ] at h
  | i :: l, j, o, h => by
    simp only [pickQ, Array.getElem?_toList] at h
    split at h
    · rename_i o' ho
      cases hc : (isQuiet G o'.op && Region.free .any ops listed i && qFar o'.op e s wr) with
      | true =>
        rw [hc] at h
        simp only [cond_true, Option.some.injEq, Prod.mk.injEq] at h
        obtain ⟨rfl, rfl⟩ := h
        simp only [Bool.and_eq_true] at hc
        exact ⟨by simp, ho, hc.1.1, hc.1.2, hc.2⟩
      | false =>
        rw [hc] at h
        simp only [cond_false] at h
        obtain ⟨h1, h2⟩ := pickQ_spec h
        exact ⟨List.mem_cons_of_mem _ h1, h2⟩
    · obtain ⟨h1, h2⟩ := pickQ_spec h
      exact ⟨List.mem_cons_of_mem _ h1, h2⟩


/-! ### Allocs that came up early -/

def XD (X : Nat → Prop) (D : List (Nat × Nat)) (b : Nat) : Prop := X b ∨ ∃ p ∈ D, p.2 = b

theorem RV.monoI {I0 : Nat → Prop} (hI : ∀ b, I b → I0 b) (a : AV) (v : Value) (hv : RV h I μ s a v) : RV h I0 μ s a v := by
  have := RVs.monoI hI [a] [v] (by simp only [RVs]; exact ⟨v, [], rfl, hv, rfl⟩)
  simp only [RVs] at this
  obtain ⟨u, r, e, h1, _⟩ := this
  simp only [List.cons.injEq] at e
  rw [e.1]; exact h1

theorem rv_same {h' : Heap} {I' : Nat → Prop} (inv : Inv X h μ s) (hI : ∀ b, Im X h μ s b → I' b ∧ h'[b]? = h[b]?) : ∀ a v, RV h (Im X h μ s) μ s a v → RV h' I' μ s a v := by
  have h1 := ref_mono_app (h' := h') (I' := I') inv [] [] hI
  simp only [List.append_nil] at h1
  exact RV.mono hI h1

theorem im_push {X' : Nat → Prop} (ob : Obj) (hX : ∀ b, X' b ↔ X b ∨ b = h.size) : ∀ b, Im X h μ s b → Im X' (h.push ob) μ s b ∧ (h.push ob)[b]? = h[b]? := fun b hb =>
  ⟨⟨by rw [Array.size_push]; have := hb.1; omega, fun hx => by
    rcases (hX b).1 hx with h1 | h1
    · exact hb.2.1 h1
    · have := hb.1; omega, hb.2.2⟩, by rw [Array.getElem?_push]; simp [Nat.ne_of_lt hb.1]⟩

theorem pend_inv {X' : Nat → Prop} (inv : Inv X h μ s) (ob : Obj) (hX : ∀ b, X' b ↔ X b ∨ b = h.size) : Inv X' (h.push ob) μ s where
  len := inv.len
  reg := fun r sl hr => RegOk.mono (im_push ob hX) (rv_same inv (im_push ob hX)) _ (fun b hl hb => by
    have := inv.blk_lt hr hl hb
    rw [Array.getElem?_push]; simp [Nat.ne_of_lt this]) (inv.reg r sl hr)
  dis := inv.dis
  notX := fun r sl b hr hl hb hx => by
    rcases (hX b).1 hx with h1 | h1
    · exact inv.notX r sl b hr hl hb h1
    · have := inv.blk_lt hr hl hb; omega
  xlt := fun b hx => by
    rw [Array.size_push]
    rcases (hX b).1 hx with h1 | h1
    · have := inv.xlt b h1; omega
    · omega

theorem pend_ext {X' : Nat → Prop} {h0 : Heap} {μ0 : List Slot} {s0 : St} (inv : Inv X h μ s) (ext : Ext X h0 μ0 s0 h μ s) (ob : Obj) (hX : ∀ b, X' b ↔ X b ∨ b = h.size) : Ext X' h0 μ0 s0 (h.push ob) μ s where
  size := by rw [Array.size_push]; have := ext.size; omega
  same := fun b hb hf => by
    have := ext.size
    rw [Array.getElem?_push]
    simp only [show ¬ b = h.size by omega, if_false]
    exact ext.same b hb hf
  new := ext.new
  rv := fun a v hv => rv_same inv (im_push ob hX) a v (ext.rv a v (RV.monoI (fun b hb => ⟨hb.1, fun hx => hb.2.1 ((hX b).2 (.inl hx)), hb.2.2⟩) a v hv))
  len := ext.len

theorem im_adopt {X' : Nat → Prop} {b : Nat} {cs : List AV} (inv : Inv X' h μ s) (hX : ∀ b', X' b' ↔ X b' ∨ b' = b) :
    ∀ b2, Im X' h μ s b2 → Im X h (μ ++ [⟨some b, 0⟩]) (s ++ [.box cs]) b2 ∧ h[b2]? = h[b2]? := fun b2 hb =>
  ⟨⟨hb.1, fun hx => hb.2.1 ((hX b2).2 (.inl hx)), fun r sl hr hl he => by
    rcases Nat.lt_or_ge r s.length with h1 | h1
    · rw [getR_app_left s _ r h1] at hl
      exact hb.2.2 r sl (get_app_left hr (inv.len ▸ h1)) hl he
    · have hlt := (List.getElem?_eq_some_iff.1 hr).1
      simp [inv.len] at hlt
      have e : r = s.length := by omega
      subst e
      rw [← inv.len] at hr
      simp at hr
      subst hr
      cases he
      exact hb.2.1 ((hX _).2 (.inr rfl))⟩, rfl⟩

theorem adopt {X' : Nat → Prop} {b : Nat} {cs : List AV} {c : Array Value} {el : TypeId} (inv : Inv X' h μ s) (hX : ∀ b', X' b' ↔ X b' ∨ b' = b) (hXb : ¬ X b) (hb : h[b]? = some (.cells c el (0, 0)))
    (h1 : RVs h (Im X' h μ s) μ s cs c.toList) : Inv X h (μ ++ [⟨some b, 0⟩]) (s ++ [.box cs]) ∧ ∀ a v, RV h (Im X' h μ s) μ s a v → RV h (Im X h (μ ++ [⟨some b, 0⟩]) (s ++ [.box cs])) (μ ++ [⟨some b, 0⟩]) (s ++ [.box cs]) a v := by
  have hI := im_adopt (cs := cs) inv hX
  have hrv : ∀ a v, RV h (Im X' h μ s) μ s a v → RV h (Im X h (μ ++ [⟨some b, 0⟩]) (s ++ [.box cs])) (μ ++ [⟨some b, 0⟩]) (s ++ [.box cs]) a v := RV.mono hI (ref_mono_app inv _ _ hI)
  have hbX : X' b := (hX b).2 (.inr rfl)
  have hslot : ∀ r sl, (μ ++ [(⟨some b, 0⟩ : Slot)])[r]? = some sl → (r < s.length ∧ μ[r]? = some sl) ∨ (r = s.length ∧ sl = ⟨some b, 0⟩) := by
    intro r sl hr
    rcases Nat.lt_or_ge r s.length with h1 | h1
    · exact .inl ⟨h1, get_app_left hr (inv.len ▸ h1)⟩
    · have hlt := (List.getElem?_eq_some_iff.1 hr).1
      simp [inv.len] at hlt
      have e : r = s.length := by omega
      subst e
      rw [← inv.len] at hr
      simp at hr
      exact .inr ⟨rfl, hr.symm⟩
  have hgl : ∀ r, r < s.length → getR (s ++ [.box cs]) r = getR s r := fun r => getR_app_left s [.box cs] r
  have hgn : getR (s ++ [.box cs]) s.length = .box cs := by simpa [getR] using getR_app_right s [.box cs] 0
  refine ⟨⟨by simp [inv.len], ?_, ?_, ?_, fun b' hx => inv.xlt b' ((hX b').2 (.inl hx))⟩, hrv⟩
  · intro r sl hr
    rcases hslot r sl hr with ⟨g1, g2⟩ | ⟨g1, g2⟩
    · rw [hgl r g1]
      exact RegOk.mono hI hrv _ (fun _ _ _ => rfl) (inv.reg r sl g2)
    · subst g1 g2
      rw [hgn]
      exact RegOk.of_fills (sl := ⟨some b, 0⟩) hI hrv rfl (k := b) (c := c) (el := el) (fr := (0, 0)) hb (noFrz_new c) (.box cs) h1
  · intro r r' sl sl' b' hne hr hr' hl hl' hbb
    rcases hslot r sl hr with ⟨g1, g2⟩ | ⟨g1, g2⟩ <;> rcases hslot r' sl' hr' with ⟨g1', g2'⟩ | ⟨g1', g2'⟩
    · rw [hgl r g1] at hl; rw [hgl r' g1'] at hl'
      exact inv.dis r r' sl sl' b' hne g2 g2' hl hl' hbb
    · subst g2'
      rw [hgl r g1] at hl
      intro e; cases e
      exact inv.notX r sl b g2 hl hbb hbX
    · subst g2
      rw [hgl r' g1'] at hl'
      cases hbb
      intro e
      exact inv.notX r' sl' b g2' hl' e hbX
    · omega
  · intro r sl b' hr hl hbb hx
    rcases hslot r sl hr with ⟨g1, g2⟩ | ⟨g1, g2⟩
    · rw [hgl r g1] at hl
      exact inv.notX r sl b' g2 hl hbb ((hX b').2 (.inl hx))
    · subst g2; cases hbb
      exact hXb hx

theorem adopt_ext {X' : Nat → Prop} {b : Nat} {cs : List AV} {h0 : Heap} {μ0 : List Slot} {s0 : St} (inv : Inv X' h μ s) (hX : ∀ b', X' b' ↔ X b' ∨ b' = b) (hb0 : h0.size ≤ b) (ext : Ext X' h0 μ0 s0 h μ s)
    (hrv : ∀ a v, RV h (Im X' h μ s) μ s a v → RV h (Im X h (μ ++ [⟨some b, 0⟩]) (s ++ [.box cs])) (μ ++ [⟨some b, 0⟩]) (s ++ [.box cs]) a v) :
    Ext X h0 μ0 s0 h (μ ++ [⟨some b, 0⟩]) (s ++ [.box cs]) where
  size := ext.size
  same := ext.same
  new := fun r sl b' hr hl hbb => by
    rcases Nat.lt_or_ge r s.length with h1 | h1
    · rw [getR_app_left s _ r h1] at hl
      exact ext.new r sl b' (get_app_left hr (inv.len ▸ h1)) hl hbb
    · have hlt := (List.getElem?_eq_some_iff.1 hr).1
      simp [inv.len] at hlt
      have e : r = s.length := by omega
      subst e
      rw [← inv.len] at hr
      simp at hr
      subst hr
      cases hbb
      exact .inl hb0
  rv := fun a v hv => hrv a v (ext.rv a v (RV.monoI (fun b' hb => ⟨hb.1, fun hx => by
    rcases (hX b').1 hx with h1 | h1
    · exact hb.2.1 h1
    · have := hb.1; omega, hb.2.2⟩) a v hv))
  len := by simp; have := ext.len; omega

end
end Go.VE
