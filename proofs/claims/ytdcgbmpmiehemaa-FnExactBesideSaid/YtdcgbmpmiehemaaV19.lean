/- Regions and code: what 'exec' says is what the code does. -/
import Derived.Test.YtdcgbmpmiehemaaV18
namespace Go.VE
set_option linter.unusedVariables false
set_option linter.unusedSimpArgs false

section
variable {P : Program} {G : Glob} {X : Nat → Prop} {h : Heap} {I : Nat → Prop} {μ : List Slot} {s : St}

theorem put_rvs {e : Env} {a : Act} {v : AV} {cv : Value} (he : RVs h I μ s e a.tmps.toList) (hv : RV h I μ s v cv) (d : Option Tmp) :
    RVs h I μ s (put e d v) (a.put d cv).tmps.toList := by
  cases d with
  | none => exact he
  | some t =>
    simp only [put, Act.put, Array.toList_setIfInBounds]
    exact RVs_set _ _ he t v cv hv

theorem put_size {a : Act} {d : Option Tmp} {v : Value} : (a.put d v).tmps.size = a.tmps.size := by
  cases d <;> simp [Act.put]

theorem put_defers {a : Act} {d : Option Tmp} {v : Value} : (a.put d v).defers = a.defers := by
  cases d <;> simp [Act.put]

theorem dstOf_eq : ∀ (l : List Oper) (j : Nat), dstOf l j = (l[j]?).bind (·.dst)
  | [], j => by simp [dstOf]
  | o :: l, 0 => by simp [dstOf]
  | o :: l, j + 1 => by simp [dstOf, dstOf_eq l j]

theorem getE_some {e : Env} {d : Nat} {b : Bool} {vs : List Value} (he : RVs h I μ s e vs) (hb : getE e d = .bool b) : vs[d]? = some (.bool b) := by
  have hl := RVs_length _ _ he
  have hlt : d < vs.length := by
    rcases Nat.lt_or_ge d vs.length with h1 | h1
    · exact h1
    · rw [getE_ge e d (by omega)] at hb; cases hb
  have h1 : vs[d]? = some vs[d] := List.getElem?_eq_getElem hlt
  have h2 := RVs_get _ _ he d _ h1
  rw [hb] at h2
  simp only [RV] at h2
  rw [h1, h2]

theorem yielded_of {ops : Array Oper} {e : Env} {a : Act} {j d : Nat} {b : Bool} (he : RVs h I μ s e a.tmps.toList) (hd : dstOf ops.toList j = some d) (hb : getE e d = .bool b) :
    yielded ops a.tmps j = some b := by
  rw [dstOf_eq] at hd
  have h1 := getE_some he hb
  unfold yielded
  simp only [Array.getElem?_toList] at hd h1
  rw [hd]
  simp [h1]

/-- What is known of one operation of a region that was carried out. -/
def StepDone (P : Program) (G : Glob) (ops : Array Oper) (chk : Bool) (o : Oper) (e : Env) (s : St) (e' : Env) (s' : St) : Prop :=
  (∀ X μ (w : World) (a : Act), Inv X w.heap μ s → RVs w.heap (Im X w.heap μ s) μ s e a.tmps.toList → ∀ (Q : Exit → Act → World → Prop) (K : Act → World → Prop) (i : Nat), ops[i]? = some o →
    (∀ cv w' μ', Inv X w'.heap μ' s' → RVs w'.heap (Im X w'.heap μ' s') μ' s' e' (a.put o.dst cv).tmps.toList → Ext X w.heap μ s w'.heap μ' s' →
      (chk = true → ∀ b, b < w.heap.size → w'.heap[b]? = w.heap[b]?) → Calm w w' → K (a.put o.dst cv) w') → wpOp P ops Q i K a w) ∧
  (isQuiet G o.op = true → s' = s ∧ ∀ X h μ (a : Act), Inv X h μ s → RVs h (Im X h μ s) μ s e a.tmps.toList →
    ∃ cv, YieldsIf P ops (fun w => HX μ [] h w.heap) o cv a ∧ RVs h (Im X h μ s) μ s e' (a.put o.dst cv).tmps.toList)

theorem notOf_nil {b : Nat} : NotOf μ [] b := by intro r hr; simp at hr

theorem op1_sound (hG : GlobOk P G) {chk : Bool} {o : Oper} {e : Env} {k : K1} {r : Res} (hk : op1 G chk o.op e s k = some r) :
    ∃ v s' tch, k v s' = some r ∧ OpOk P o e s tch v s' ∧ (chk = true → tch = []) ∧ (isQuiet G o.op = true → s' = s ∧ OpQ P o e s [] v) := by
  cases chk with
  | false =>
    simp only [op1, cond_false] at hk
    obtain ⟨v, s', h1, h2, h3⟩ := op_sound hG hk
    exact ⟨v, s', _, h1, h2, (by simp), fun hq => ⟨(h3 hq).1, (h3 hq).2 [] rfl⟩⟩
  | true =>
    simp only [op1, cond_true] at hk
    split at hk
    · rename_i ht
      obtain ⟨v, s', h1, h2, h3⟩ := op_sound hG hk
      exact ⟨v, s', _, h1, h2, (fun _ => ht), fun hq => ⟨(h3 hq).1, (h3 hq).2 [] rfl⟩⟩
    · cases hk

theorem wpOp_wanted {ops : Array Oper} {Q : Exit → Act → World → Prop} {K : Act → World → Prop} {i : Nat} {o : Oper} {a : Act} {w : World} (hi : ops[i]? = some o)
    (hw : Region.wanted o (yielded ops a.tmps) = true) (h : o.wp P a w K Q) : wpOp P ops Q i K a w := by
  unfold wpOp; simp only [hi, hw, if_true]; exact .inl h

theorem wpOp_unwanted {ops : Array Oper} {Q : Exit → Act → World → Prop} {K : Act → World → Prop} {i : Nat} {o : Oper} {a : Act} {w : World} (hi : ops[i]? = some o)
    (hw : Region.wanted o (yielded ops a.tmps) = false) (h : K (a.put o.dst undef) w) : wpOp P ops Q i K a w := by
  unfold wpOp; simp only [hi, hw]; exact h

/-- One that is wanted. -/
theorem step_wanted (hG : GlobOk P G) {ops : Array Oper} {chk : Bool} {o : Oper} {e0 e : Env} {k : Env → St → Option Res} {r : Res}
    (he0 : ∀ h I μ (a : Act), RVs h I μ s e0 a.tmps.toList → RVs h I μ s e a.tmps.toList ∧ Region.wanted o (yielded ops a.tmps) = true)
    (hk : op1 G chk o.op e s (fun v s' => k (put e o.dst v) s') = some r) : ∃ e' s', k e' s' = some r ∧ StepDone P G ops chk o e0 s e' s' := by
  obtain ⟨v, s', tch, h1, h2, h3, h4⟩ := op1_sound hG hk
  refine ⟨_, s', h1, ?_, ?_⟩
  · intro X μ w a inv he Q K i hi hK
    obtain ⟨g1, g2⟩ := he0 _ _ _ _ he
    refine wpOp_wanted hi g2 (h2 X μ w a inv g1 K Q fun cv w' μ' i1 v1 e1 t1 c1 => ?_)
    refine hK cv w' μ' i1 (put_rvs (RVs.mono (fun b hb => e1.im b hb) (fun x u _ hx => e1.rv x u hx) _ _ g1) v1 _) e1 (fun hc b hb => t1 b hb ?_) c1
    rw [h3 hc]; exact notOf_nil
  · intro hq
    obtain ⟨e1, q1⟩ := h4 hq
    subst e1
    refine ⟨rfl, fun X h μ a inv he => ?_⟩
    obtain ⟨g1, g2⟩ := he0 _ _ _ _ he
    obtain ⟨cv, q2, q3⟩ := q1 X h μ a inv g1
    exact ⟨cv, .inl ⟨g2, q2⟩, put_rvs g1 q3 _⟩

theorem step_unwanted {ops : Array Oper} {chk : Bool} {o : Oper} {e0 e : Env} {k : Env → St → Option Res} {r : Res}
    (he0 : ∀ h I μ (a : Act), RVs h I μ s e0 a.tmps.toList → RVs h I μ s e a.tmps.toList ∧ Region.wanted o (yielded ops a.tmps) = false)
    (hk : k (put e o.dst (.tup [])) s = some r) : ∃ e' s', k e' s' = some r ∧ StepDone P G ops chk o e0 s e' s' := by
  have hun : ∀ h I μ, RV h I μ s (.tup []) undef := fun h I μ => by simp only [RV]; exact ⟨#[], rfl, by simp only [RVs]⟩
  refine ⟨_, s, hk, ?_, ?_⟩
  · intro X μ w a inv he Q K i hi hK
    obtain ⟨g1, g2⟩ := he0 _ _ _ _ he
    exact wpOp_unwanted hi g2 (hK undef w μ inv (put_rvs g1 (hun _ _ _) _) (Ext.refl _ _ _ _) (fun _ _ _ => rfl) (Calm.refl w))
  · intro hq
    refine ⟨rfl, fun X h μ a inv he => ?_⟩
    obtain ⟨g1, g2⟩ := he0 _ _ _ _ he
    exact ⟨undef, .inr ⟨g2, rfl⟩, put_rvs g1 (hun _ _ _) _⟩

theorem setE_same {e : Env} {d : Nat} {b : Bool} {vs : List Value} (he : RVs h I μ s e vs) (hb : vs[d]? = some (.bool b)) : RVs h I μ s (setE e d (.bool b)) vs := by
  have h1 := RVs_set _ _ he d (.bool b) (.bool b) (by simp only [RV])
  have h2 : vs.set d (.bool b) = vs := by
    apply List.ext_getElem?
    intro j
    rw [List.getElem?_set]
    split
    · rename_i hj; subst hj
      split
      · exact hb.symm
      · rename_i hl; rw [List.getElem?_eq_none (by omega)] at hb; cases hb
    · rfl
  rwa [h2] at h1

theorem stepOp_sound (hG : GlobOk P G) {ops : Array Oper} {chk : Bool} {o : Oper} {e : Env} {k : Env → St → Option Res} {r : Res} (hk : stepOp G chk ops.toList o k e s = some r) :
    ∃ e' s', k e' s' = some r ∧ StepDone P G ops chk o e s e' s' := by
  unfold stepOp at hk
  split at hk
  · rename_i hg
    exact step_wanted hG (fun h I μ a he => ⟨he, by simp [Region.wanted, hg]⟩) hk
  · rename_i j want hg
    split at hk
    · cases hk
    · rename_i d hd
      split at hk
      · rename_i b hb
        have key : ∀ h I μ (a : Act), RVs h I μ s e a.tmps.toList → RVs h I μ s (setE e d (.bool b)) a.tmps.toList ∧ yielded ops a.tmps j = some b := fun h I μ a he =>
          ⟨setE_same he (getE_some he hb), yielded_of he hd hb⟩
        have kw : want = b → ∀ h I μ (a : Act), RVs h I μ s e a.tmps.toList → RVs h I μ s (setE e d (.bool b)) a.tmps.toList ∧ Region.wanted o (yielded ops a.tmps) = true := fun hw h I μ a he =>
          ⟨(key h I μ a he).1, by simp [Region.wanted, hg, (key h I μ a he).2, hw]⟩
        have ku : want ≠ b → ∀ h I μ (a : Act), RVs h I μ s e a.tmps.toList → RVs h I μ s (setE e d (.bool b)) a.tmps.toList ∧ Region.wanted o (yielded ops a.tmps) = false := fun hw h I μ a he =>
          ⟨(key h I μ a he).1, by simp [Region.wanted, hg, (key h I μ a he).2, Ne.symm hw]⟩
        cases b with
        | true =>
          simp only [cond_true, forceL_eq] at hk
          cases want with
          | true => exact step_wanted hG (kw rfl) hk
          | false => exact step_unwanted (ku (by simp)) hk
        | false =>
          simp only [cond_false, forceL_eq] at hk
          cases want with
          | true => exact step_unwanted (ku (by simp)) hk
          | false => exact step_wanted hG (kw rfl) hk
      · rename_i hb
        refine step_unwanted (e0 := e) (fun h I μ a he => ⟨he, ?_⟩) hk
        have hy : yielded ops a.tmps j = none := by
          have hl := RVs_length _ _ he
          rw [dstOf_eq] at hd
          unfold yielded
          simp only [Array.getElem?_toList] at hd
          rw [hd]
          rcases Nat.lt_or_ge d a.tmps.size with h1 | h1
          · have h2 : a.tmps.toList[d]? = some a.tmps[d] := by simp [h1]
            have h3 := RVs_get _ _ he d _ h2
            rw [hb] at h3
            simp only [RV] at h3
            obtain ⟨vs, h4, _⟩ := h3
            simp [h1, h4]
          · simp [h1]
        simp [Region.wanted, hg, hy]
      · cases hk

/-- What is known of a stretch of operations. -/
def Went (X : Nat → Prop) (w0 : World) (μ0 : List Slot) (s0 : St) (nt : Nat) (e : Env) (s : St) (a : Act) (w : World) : Prop :=
  ∃ μ, Inv X w.heap μ s ∧ Ext X w0.heap μ0 s0 w.heap μ s ∧ RVs w.heap (Im X w.heap μ s) μ s e a.tmps.toList ∧ a.tmps.size = nt ∧ a.defers = [] ∧ Calm w0 w

theorem execOps_sound (hG : GlobOk P G) {ops : Array Oper} {k : Env → St → Option Res} {r : Res} : ∀ (l : List Oper) (n : Nat) (e : Env) (s : St), ops.toList.drop n = l →
    execOps G ops.toList l k e s = some r → ∃ e' s', k e' s' = some r ∧ ∀ X w0 μ0 s0 nt a (w : World), Went X w0 μ0 s0 nt e s a w → ∀ Q : Exit → Act → World → Prop,
      (∀ a' w', Went X w0 μ0 s0 nt e' s' a' w' → Q .normal a' w') → wpOps P ops Q (List.range' n l.length) a w
  | [], n, e, s, hd, hk => ⟨e, s, hk, fun X w0 μ0 s0 nt a w hw Q hQ => hQ a w hw⟩
  | o :: rest, n, e, s, hd, hk => by
    simp only [execOps] at hk
    obtain ⟨e1, s1, h1, h2, _⟩ := stepOp_sound hG hk
    have hn : ops[n]? = some o := by
      have := congrArg (·[0]?) hd
      simpa using this
    have hd' : ops.toList.drop (n + 1) = rest := by
      have := congrArg (List.drop 1) hd
      simpa [Nat.add_comm] using this
    obtain ⟨e2, s2, h3, h4⟩ := execOps_sound hG rest (n + 1) e1 s1 hd' h1
    refine ⟨e2, s2, h3, fun X w0 μ0 s0 nt a w hw Q hQ => ?_⟩
    obtain ⟨μ, i0, x0, v0, z0, d0, c0⟩ := hw
    simp only [List.length_cons, List.range'_succ]
    rw [wpOps_cons]
    refine h2 X μ w a i0 v0 Q _ n hn fun cv w' μ' i1 v1 x1 _ c1 => ?_
    exact h4 X w0 μ0 s0 nt _ w' ⟨μ', i1, x0.trans x1, v1, by rw [put_size]; exact z0, by rw [put_defers]; exact d0, c0.trans c1⟩ Q hQ

theorem pickQ_spec {ops : Array Oper} {listed : Array Bool} : ∀ {l : List Nat} {j : Nat} {o : Oper}, pickQ G ops ops.toList listed l = some (j, o) →
    j ∈ l ∧ ops[j]? = some o ∧ isQuiet G o.op = true ∧ Region.free .any ops listed j = true
  | [], j, o, h => by simp [pickQ] at h
  | i :: l, j, o, h => by
    simp only [pickQ, Array.getElem?_toList] at h
    split at h
    · rename_i o' ho
      cases hc : (isQuiet G o'.op && Region.free .any ops listed i) with
      | true =>
        rw [hc] at h
        simp only [cond_true, Option.some.injEq, Prod.mk.injEq] at h
        obtain ⟨rfl, rfl⟩ := h
        simp only [Bool.and_eq_true] at hc
        exact ⟨by simp, ho, hc.1, hc.2⟩
      | false =>
        rw [hc] at h
        simp only [cond_false] at h
        obtain ⟨h1, h2⟩ := pickQ_spec h
        exact ⟨List.mem_cons_of_mem _ h1, h2⟩
    · obtain ⟨h1, h2⟩ := pickQ_spec h
      exact ⟨List.mem_cons_of_mem _ h1, h2⟩

theorem wpAnyH_monoS {ops : Array Oper} {Q : Exit → Act → World → Prop} {md : Region.Mode} {S S' : World → Prop} (hS : ∀ w, S' w → S w) : ∀ (fuel : Nat) (listed : Array Bool) (a : Act) (w : World),
    wpAnyH P md ops Q S' fuel listed a w → wpAnyH P md ops Q S fuel listed a w
  | 0, _, _, _, h => h
  | fuel + 1, _, _, _, h => ⟨h.1, fun i hi => wpOp_mono (fun a' w' h' => ⟨hS _ h'.1, wpAnyH_monoS hS fuel _ a' w' h'.2⟩) (h.2 i hi)⟩

theorem execAny_sound (hG : GlobOk P G) {ops : Array Oper} (hsel : Region.noSelect ops = true) {k : Env → St → Option Res} {r : Res} : ∀ (n : Nat) (listed : Array Bool) (e : Env) (s : St),
    execAny G ops ops.toList n listed k e s = some r → ∃ e' s', k e' s' = some r ∧ ∀ X w0 μ0 s0 nt a (w : World), Went X w0 μ0 s0 nt e s a w → ∀ Q : Exit → Act → World → Prop,
      (∀ c a w, ¬ Q (.panic c) a w) → (∀ a' w', Went X w0 μ0 s0 nt e' s' a' w' → Q .normal a' w') →
      wpAnyH P .any ops Q (fun w' => ∀ b, b < w.heap.size → w'.heap[b]? = w.heap[b]?) n listed a w := by
  intro n
  induction n with
  | zero =>
    intro listed e s hk
    unfold execAny at hk
    split at hk
    · rename_i hr
      exact ⟨e, s, hk, fun X w0 μ0 s0 nt a w hw Q _ hQ => wpAnyH_done hr (hQ a w hw) _⟩
    · cases hk
  | succ n ih =>
    intro listed e s hk
    unfold execAny at hk
    split at hk
    · rename_i hr
      exact ⟨e, s, hk, fun X w0 μ0 s0 nt a w hw Q _ hQ => wpAnyH_done hr (hQ a w hw) _⟩
    · rename_i i l hr
      split at hk
      · rename_i j o hp
        obtain ⟨p1, p2, p3, p4⟩ := pickQ_spec hp
        obtain ⟨e1, s1, h1, _, h2⟩ := stepOp_sound hG hk
        obtain ⟨rfl, h2⟩ := h2 p3
        obtain ⟨e2, s2, h3, h4⟩ := ih _ e1 _ h1
        refine ⟨e2, s2, h3, fun X w0 μ0 s0 nt a w hw Q hp' hQ => ?_⟩
        obtain ⟨μ, i0, x0, v0, z0, d0, c0⟩ := hw
        obtain ⟨cv, y1, y2⟩ := h2 X w.heap μ a i0 v0
        have y1' : YieldsIf P ops (fun w' => ∀ b, b < w.heap.size → w'.heap[b]? = w.heap[b]?) o cv a :=
          y1.imp (fun ⟨q1, q2⟩ => ⟨q1, fun w' hw' => q2 w' fun b hb _ => hw' b hb⟩) id
        refine wpAnyH_take p2 hsel p4 ?_ (fun c a w hc => absurd hc (hp' _ _ _)) y1' (fun _ _ => rfl) ?_
        · rw [hr]; simpa using p1
        · exact h4 X w0 μ0 s0 nt _ w ⟨μ, i0, x0, y2, by rw [put_size]; exact z0, by rw [put_defers]; exact d0, c0⟩ Q hp' hQ
      · split at hk
        · rename_i o ho _
          rw [Array.getElem?_toList] at ho
          obtain ⟨e1, s1, h1, h2, _⟩ := stepOp_sound hG hk
          obtain ⟨e2, s2, h3, h4⟩ := ih _ e1 _ h1
          refine ⟨e2, s2, h3, fun X w0 μ0 s0 nt a w hw Q hp' hQ => ?_⟩
          obtain ⟨μ, i0, x0, v0, z0, d0, c0⟩ := hw
          refine wpAnyH_all hr (by simp) fun i' hi' => ?_
          simp only [List.mem_singleton] at hi'
          subst hi'
          refine h2 X μ w a i0 v0 Q _ _ ho fun cv w' μ' i1 v1 x1 t1 c1 => ⟨t1 rfl, ?_⟩
          refine wpAnyH_monoS (S' := fun w'' => ∀ b, b < w'.heap.size → w''.heap[b]? = w'.heap[b]?) (fun w'' hw'' b hb => (hw'' b (Nat.lt_of_lt_of_le hb x1.size)).trans (t1 rfl b hb)) _ _ _ _ ?_
          exact h4 X w0 μ0 s0 nt _ w' ⟨μ', i1, x0.trans x1, v1, by rw [put_size]; exact z0, by rw [put_defers]; exact d0, c0.trans c1⟩ Q hp' hQ
        · cases hk

end
end Go.VE
