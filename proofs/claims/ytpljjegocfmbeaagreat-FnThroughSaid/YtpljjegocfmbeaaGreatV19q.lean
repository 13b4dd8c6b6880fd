/- Regions whose order is drawn: what 'execAny' says holds in every order. -/
import Derived.Test.YtpljjegocfmbeaaGreatV19p
namespace Go.VE
set_option linter.unusedVariables false
set_option linter.unusedSimpArgs false

section
variable {P : Program} {G : Glob} {X : Nat → Prop} {h : Heap} {I : Nat → Prop} {μ : List Slot} {s : St}

/-- What was carried out had waited for what it waits for. -/
def Cl (ops : Array Oper) (lst : Array Bool) : Prop := ∀ x o, ops[x]? = some o → lst.getD x false = true → ∀ e ∈ o.after, Region.binds .any e = true → lst.getD e.on false = true

theorem getD_tf {lst : Array Bool} {x : Nat} (hx : x < lst.size) (d : Bool) : lst.getD x d = lst[x] := by simp [hx]

theorem Cl.set {ops : Array Oper} {lst : Array Bool} {i : Nat} (hc : Cl ops lst) (hi : i ∈ Region.ready .any ops lst) : Cl ops (lst.setIfInBounds i true) := by
  obtain ⟨h1, o, h2, h3⟩ := mem_ready.1 hi
  have keep : ∀ y, lst.getD y false = true → (lst.setIfInBounds i true).getD y false = true := fun y hy => by
    by_cases hiy : i = y
    · subst hiy; exact getD_set_eq (lt_of_unlisted h1)
    · rw [getD_set_ne false hiy]; exact hy
  intro x o' hx hl e he hb
  by_cases hix : i = x
  · subst hix
    rw [h2] at hx; cases hx
    exact keep _ (h3 e he hb)
  · rw [getD_set_ne false hix] at hl
    exact keep _ (hc x o' hx hl e he hb)

theorem waitsLoads_spec {o : Oper} {j : Nat} : ∀ (l : List Oper) (n : Nat), waitsLoads o j n l = true → ∀ q p, l[q]? = some p → isLd p.op = true → n + q ≠ j → ∃ e ∈ o.after, Region.binds .any e = true ∧ e.on = n + q
  | [], n, _, q, p, hq, _, _ => by simp at hq
  | a :: l, n, h, q, p, hq, hp, hne => by
    simp only [waitsLoads, Bool.and_eq_true] at h
    cases q with
    | zero =>
      simp only [List.getElem?_cons_zero, Option.some.injEq] at hq
      subst hq
      have h1 := h.1
      rw [hp] at h1
      simp only [Bool.not_true, Bool.false_or, Bool.or_eq_true, waitsOn, List.any_eq_true, Bool.and_eq_true] at h1
      rcases h1 with h1 | ⟨e, he, hb, hon⟩
      · exact absurd (Nat.eq_of_beq_eq_true h1) (by simpa using hne)
      · exact ⟨e, by simpa using he, hb, by have := Nat.eq_of_beq_eq_true hon; simpa using this⟩
    | succ q =>
      simp only [List.getElem?_cons_succ] at hq
      have := waitsLoads_spec l (n + 1) h.2 q p hq hp (by omega)
      rwa [show n + 1 + q = n + (q + 1) by omega] at this

theorem exempt_spec {ops : Array Oper} {j : Nat} (h : exempt G ops.toList j = true) : ∃ oj, ops[j]? = some oj ∧ isQuiet G oj.op = false ∧ ∀ i oi, ops[i]? = some oi → isLd oi.op = true → i ≠ j → ∃ e ∈ oj.after, Region.binds .any e = true ∧ e.on = i := by
  unfold exempt at h
  split at h
  · rename_i o ho
    rw [Array.getElem?_toList] at ho
    simp only [Bool.and_eq_true, Bool.not_eq_true'] at h
    refine ⟨o, ho, h.1, fun i oi hi hl hne => ?_⟩
    have := waitsLoads_spec _ _ h.2 i oi (by rw [Array.getElem?_toList]; exact hi) hl (by simpa using hne)
    simpa using this
  · cases h

theorem parts_spec {all : List Oper} : ∀ (l : List Nat), (∀ q ∈ (parts G all l).1, q.1 ∈ l ∧ allocAt G all q.1 = some q.2) ∧ ∀ i ∈ l, (∃ d, allocAt G all i = some d ∧ (i, d) ∈ (parts G all l).1) ∨ (allocAt G all i = none ∧ i ∈ (parts G all l).2)
  | [] => by simp [parts]
  | i :: l => by
    obtain ⟨h1, h2⟩ := parts_spec l
    unfold parts
    split
    · rename_i d hd
      refine ⟨fun q hq => ?_, fun x hx => ?_⟩
      · simp only [List.mem_cons] at hq
        rcases hq with rfl | hq
        · exact ⟨by simp, hd⟩
        · exact ⟨List.mem_cons_of_mem _ (h1 q hq).1, (h1 q hq).2⟩
      · simp only [List.mem_cons] at hx
        rcases hx with rfl | hx
        · exact .inl ⟨d, hd, by simp⟩
        · rcases h2 x hx with ⟨d', g1, g2⟩ | g
          · exact .inl ⟨d', g1, List.mem_cons_of_mem _ g2⟩
          · exact .inr g
    · rename_i hd
      refine ⟨fun q hq => ⟨List.mem_cons_of_mem _ (h1 q hq).1, (h1 q hq).2⟩, fun x hx => ?_⟩
      simp only [List.mem_cons] at hx
      rcases hx with rfl | hx
      · exact .inr ⟨hd, by simp⟩
      · rcases h2 x hx with g | ⟨g1, g2⟩
        · exact .inl g
        · exact .inr ⟨g1, List.mem_cons_of_mem _ g2⟩

theorem allocAt_spec {ops : Array Oper} {i d : Nat} (h : allocAt G ops.toList i = some d) : ∃ o t ag T, ops[i]? = some o ∧ o.op = .alloc t ∧ o.guard = none ∧ o.dst = some d ∧ G.ty t = some (ag, T) := by
  unfold allocAt at h
  split at h
  · rename_i o ho
    rw [Array.getElem?_toList] at ho
    unfold allocD at h
    split at h
    · rename_i t d' h1 h2 h3
      cases hty : G.ty t with
      | none => rw [hty] at h; cases h
      | some p =>
        obtain ⟨ag, T⟩ := p
        rw [hty] at h
        simp only [Option.isSome_some, cond_true, Option.some.injEq] at h
        subst h
        exact ⟨o, t, ag, T, ho, h1, h2, h3, hty⟩
    · cases h
  · cases h

theorem deadAll_rvs : ∀ (A : List (Nat × Nat)) {e : Env} {vs : List Value}, RVs h I μ s e vs → RVs h I μ s (deadAll e A) vs
  | [], _, _, he => he
  | p :: A, e, vs, he => by
    rw [deadAll]
    refine deadAll_rvs A ?_
    rcases Nat.lt_or_ge p.2 vs.length with h1 | h1
    · have h2 := RVs_set _ _ he p.2 .dead vs[p.2] (by simp only [RV])
      have : vs.set p.2 vs[p.2] = vs := List.set_getElem_self h1
      rwa [this] at h2
    · have hl := RVs_length _ _ he
      have : setE e p.2 .dead = e := by
        clear he
        have hle : e.length ≤ p.2 := by omega
        revert hle
        generalize p.2 = q
        clear h1 hl
        induction e generalizing q with
        | nil => intro _; cases q <;> rfl
        | cons a l ih =>
          intro hle
          cases q with
          | zero => simp at hle
          | succ q => simp only [setE]; rw [ih q (by simpa using hle)]
      rw [this]; exact he

theorem setE_dead {e : Env} {d q : Nat} (hd : getE e d = .dead) : getE (setE e q .dead) d = .dead := by
  by_cases hq : d = q
  · subst hq
    rcases Nat.lt_or_ge d e.length with h1 | h1
    · exact getE_setE_eq _ _ _ h1
    · have : setE e d .dead = e := by
        clear hd
        revert h1
        induction e generalizing d with
        | nil => intro _; cases d <;> rfl
        | cons a l ih =>
          intro hle
          cases d with
          | zero => simp at hle
          | succ d => simp only [setE]; rw [ih (by simpa using hle)]
      rw [this]; exact hd
  · rw [getE_setE_ne _ _ _ _ hq]; exact hd

theorem deadAll_keep : ∀ (A : List (Nat × Nat)) {e : Env} {d : Nat}, getE e d = .dead → getE (deadAll e A) d = .dead
  | [], _, _, h => h
  | p :: A, e, d, h => by rw [deadAll]; exact deadAll_keep A (setE_dead h)

theorem deadAll_dead : ∀ (A : List (Nat × Nat)) {e : Env} {d : Nat}, (∃ q ∈ A, q.2 = d) → d < e.length → getE (deadAll e A) d = .dead
  | [], _, _, hq, _ => by obtain ⟨q, h, _⟩ := hq; cases h
  | p :: A, e, d, hq, hd => by
    rw [deadAll]
    obtain ⟨q, hq1, hq2⟩ := hq
    simp only [List.mem_cons] at hq1
    rcases hq1 with rfl | hq1
    · subst hq2; exact deadAll_keep A (getE_setE_eq _ _ _ hd)
    · exact deadAll_dead A ⟨q, hq1, hq2⟩ (by
        have : ∀ (e : Env) (i : Nat) (v : AV), (setE e i v).length = e.length := by
          intro e
          induction e with
          | nil => intro i v; cases i <;> rfl
          | cons a l ih => intro i v; cases i with
            | zero => rfl
            | succ i => simp [setE, ih]
        rw [this]; exact hd)

/-- A dead place may hold anything. -/
theorem rvs_set_dead {e : Env} {vs : List Value} (he : RVs h I μ s e vs) {d : Nat} (hd : d < e.length → getE e d = .dead) (v : Value) : RVs h I μ s e (vs.set d v) := by
  rcases Nat.lt_or_ge d e.length with h1 | h1
  · have h2 := RVs_set _ _ he d .dead v (by simp only [RV])
    have h3 : setE e d .dead = e := by
      have hg := hd h1
      clear hd h2 he
      revert h1 hg
      induction e generalizing d with
      | nil => intro h; simp at h
      | cons a l ih =>
        intro h1 hg
        cases d with
        | zero => simp only [getE] at hg; simp only [setE]; rw [hg]
        | succ d => simp only [getE] at hg; simp only [setE]; rw [ih (by simpa using h1) hg]
    rwa [h3] at h2
  · rw [List.set_eq_of_length_le (by rw [RVs_length _ _ he]; exact h1)]; exact he

/-- What came up early: a block each, as it was made. -/
def PendOk (G : Glob) (ops : Array Oper) (listed : Array Bool) (D : List (Nat × Nat)) (n0 : Nat) (h : Heap) (a : Act) : Prop :=
  ∀ p ∈ D, p.1 ∈ Region.ready .any ops listed ∧ n0 ≤ p.2 ∧ p.2 < h.size ∧ ∃ o t d ag T, ops[p.1]? = some o ∧ o.op = .alloc t ∧ o.guard = none ∧ o.dst = some d ∧ G.ty t = some (ag, T) ∧
    h[p.2]? = some (.cells (zval ag T).cells t (0, 0)) ∧ (d < a.tmps.size → a.tmps[d]? = some (.pointer (some ⟨p.2, 0, none⟩)))

theorem alloc_wp (hG : GlobOk P G) {ops : Array Oper} {Q : Exit → Act → World → Prop} {K : Act → World → Prop} {i : Nat} {o : Oper} {t d : Nat} {ag : Bool} {T : Ty} (hi : ops[i]? = some o) (ho : o.op = .alloc t) (hg : o.guard = none)
    (hd : o.dst = some d) (ht : G.ty t = some (ag, T)) {a : Act} {w : World} (hK : K (a.put (some d) (.pointer (some ⟨w.heap.size, 0, none⟩))) { w with heap := w.heap.push (.cells (zval ag T).cells t (0, 0)) }) : wpOp P ops Q i K a w := by
  refine wpOp_wanted hi (by simp [Region.wanted, hg]) (wp_value (cv := .pointer (some ⟨w.heap.size, 0, none⟩)) (w' := { w with heap := w.heap.push (.cells (zval ag T).cells t (0, 0)) }) ?_ (by rw [hd]; exact hK))
  simp [execOp, ho, Instr.alloc, run_zeroValue (hG.tys.ty _ _ _ ht).info, newVar, newRow]

theorem xd_cons {D : List (Nat × Nat)} {i n : Nat} (b : Nat) : XD X ((i, n) :: D) b ↔ XD X D b ∨ b = n := by
  unfold XD
  constructor
  · rintro (h1 | ⟨p, hp, e⟩)
    · exact .inl (.inl h1)
    · simp only [List.mem_cons] at hp
      rcases hp with rfl | hp
      · exact .inr e.symm
      · exact .inl (.inr ⟨p, hp, e⟩)
  · rintro ((h1 | ⟨p, hp, e⟩) | h1)
    · exact .inl h1
    · exact .inr ⟨p, by simp [hp], e⟩
    · exact .inr ⟨(i, n), by simp, h1.symm⟩

/-- Where an order stands: what was listed, what came up early. -/
structure AtD (G : Glob) (X : Nat → Prop) (n0 : Nat) (w0 : World) (μ0 : List Slot) (s0 : St) (nt : Nat) (ops : Array Oper) (listed : Array Bool) (D : List (Nat × Nat)) (lst : Array Bool) (e : Env) (s : St) (a : Act) (w : World) (μ : List Slot) : Prop where
  inv : Inv (XD X D) w.heap μ s
  ext : Ext (XD X D) w0.heap μ0 s0 w.heap μ s
  rvs : RVs w.heap (Im (XD X D) w.heap μ s) μ s e a.tmps.toList
  nt : a.tmps.size = nt
  defers : a.defers = []
  calm : Calm w0 w
  isLst : Lst listed D lst
  cl : Cl ops lst
  pend : PendOk G ops listed D n0 w.heap a
  dis : D.Pairwise fun p q => p.1 ≠ q.1 ∧ p.2 ≠ q.2
  n0 : n0 ≤ w.heap.size
  lsz : listed.size = ops.size

/-- One more comes up early. -/
theorem AtD.early (hG : GlobOk P G) {n0 : Nat} {w0 : World} {μ0 : List Slot} {s0 : St} {nt : Nat} {ops : Array Oper} {listed : Array Bool} {D : List (Nat × Nat)} {lst : Array Bool} {e : Env} {a : Act} {w : World} (st : AtD G X n0 w0 μ0 s0 nt ops listed D lst e s a w μ)
    {i : Nat} (hi : i ∈ Region.ready .any ops listed) (hil : i ∈ Region.ready .any ops lst) (hiD : ¬ ∃ p ∈ D, p.1 = i) {o : Oper} {t d : Nat} {ag : Bool} {T : Ty} (ho : ops[i]? = some o) (hop : o.op = .alloc t) (hg : o.guard = none) (hd : o.dst = some d) (ht : G.ty t = some (ag, T))
    (hdead : d < e.length → getE e d = .dead) (hdis : ∀ p ∈ D, ∀ o', ops[p.1]? = some o' → o'.dst ≠ some d) :
    AtD G X n0 w0 μ0 s0 nt ops listed ((i, w.heap.size) :: D) (lst.setIfInBounds i true) e s (a.put (some d) (.pointer (some ⟨w.heap.size, 0, none⟩))) { w with heap := w.heap.push (.cells (zval ag T).cells t (0, 0)) } μ where
  inv := pend_inv st.inv _ fun b => xd_cons b
  ext := pend_ext st.inv st.ext _ fun b => xd_cons b
  rvs := by
    have h1 := RVs.mono (im_push (.cells (zval ag T).cells t (0, 0)) (X' := XD X ((i, w.heap.size) :: D)) fun b => xd_cons b) (fun a v _ => rv_same st.inv (im_push (.cells (zval ag T).cells t (0, 0)) (X' := XD X ((i, w.heap.size) :: D)) fun b => xd_cons b) a v) _ _ st.rvs
    simp only [Act.put, Array.toList_setIfInBounds]
    exact rvs_set_dead h1 hdead _
  nt := by rw [put_size]; exact st.nt
  defers := by rw [put_defers]; exact st.defers
  calm := st.calm.trans ⟨rfl, rfl, rfl⟩
  isLst := st.isLst.cons i _
  cl := st.cl.set hil
  pend := by
    intro p hp
    simp only [List.mem_cons] at hp
    rcases hp with rfl | hp
    · refine ⟨hi, st.n0, by simp, o, t, d, ag, T, ho, hop, hg, hd, ht, by simp, fun hlt => ?_⟩
      rw [put_size] at hlt
      simp [Act.put, hlt]
    · obtain ⟨g1, g2, g3, o', t', d', ag', T', q1, q2, q3, q4, q5, q6, q7⟩ := st.pend p hp
      refine ⟨g1, g2, by simp; omega, o', t', d', ag', T', q1, q2, q3, q4, q5, by rw [Array.getElem?_push]; simp only [Nat.ne_of_lt g3, if_false]; exact q6, fun hlt => ?_⟩
      rw [put_size] at hlt
      have hne : d ≠ d' := fun e => hdis p hp o' q1 (e ▸ q4)
      simp only [Act.put, Array.getElem?_setIfInBounds, hne, if_false]
      exact q7 hlt
  dis := by
    rw [List.pairwise_cons]
    exact ⟨fun p hp => ⟨fun e => hiD ⟨p, hp, e.symm⟩, fun e => by have := (st.pend p hp).2.2.1; simp only at e; omega⟩, st.dis⟩
  n0 := by simp; have := st.n0; omega
  lsz := st.lsz

theorem AtD.step {n0 : Nat} {w0 : World} {μ0 : List Slot} {s0 : St} {nt : Nat} {ops : Array Oper} {listed : Array Bool} {D : List (Nat × Nat)} {lst : Array Bool} {e : Env} {a : Act} {w : World} (st : AtD G X n0 w0 μ0 s0 nt ops listed D lst e s a w μ)
    {j : Nat} {o : Oper} (hj : j ∈ Region.ready .any ops listed) (hjD : ¬ ∃ p ∈ D, p.1 = j) {e' : Env} {s' : St} {w' : World} {μ' : List Slot} {cv : Value} (i1 : Inv (XD X D) w'.heap μ' s')
    (v1 : RVs w'.heap (Im (XD X D) w'.heap μ' s') μ' s' e' (a.put o.dst cv).tmps.toList) (x1 : Ext (XD X D) w.heap μ s w'.heap μ' s') (c1 : Calm w w')
    (hoff : ∀ p ∈ D, ∀ o', ops[p.1]? = some o' → ∀ d, o'.dst = some d → o.dst ≠ some d) :
    AtD G X n0 w0 μ0 s0 nt ops (listed.setIfInBounds j true) D (lst.setIfInBounds j true) e' s' (a.put o.dst cv) w' μ' where
  inv := i1
  ext := st.ext.trans x1
  rvs := v1
  nt := by rw [put_size]; exact st.nt
  defers := by rw [put_defers]; exact st.defers
  calm := st.calm.trans c1
  isLst := st.isLst.step j hjD
  cl := st.cl.set (st.isLst.ready hj hjD)
  pend := by
    intro p hp
    obtain ⟨g1, g2, g3, o', t', d', ag', T', q1, q2, q3, q4, q5, q6, q7⟩ := st.pend p hp
    have hfree : Free μ s p.2 := fun r sl hr hl hb => st.inv.notX r sl p.2 hr hl hb (.inr ⟨p, hp, rfl⟩)
    refine ⟨ready_mono g1 fun e => hjD ⟨p, hp, e⟩, g2, Nat.lt_of_lt_of_le g3 x1.size, o', t', d', ag', T', q1, q2, q3, q4, q5, (x1.same _ g3 hfree).trans q6, fun hlt => ?_⟩
    rw [put_size] at hlt
    have hne := hoff p hp o' q1 d' q4
    cases hdst : o.dst with
    | none => simpa [Act.put] using q7 hlt
    | some x =>
      have hx : x ≠ d' := fun e => hne (by rw [hdst, e])
      simp only [Act.put, Array.getElem?_setIfInBounds, hx, if_false]
      exact q7 hlt
  dis := st.dis
  n0 := Nat.le_trans st.n0 x1.size
  lsz := by simpa using st.lsz

theorem dis_eq : ∀ {D : List (Nat × Nat)}, D.Pairwise (fun p q => p.1 ≠ q.1 ∧ p.2 ≠ q.2) → ∀ {p q}, p ∈ D → q ∈ D → (p.1 = q.1 ∨ p.2 = q.2) → p = q
  | [], _, p, q, hp, _, _ => by cases hp
  | x :: D, h, p, q, hp, hq, he => by
    rw [List.pairwise_cons] at h
    simp only [List.mem_cons] at hp hq
    rcases hp with rfl | hp <;> rcases hq with rfl | hq
    · rfl
    · have := h.1 q hq; rcases he with he | he
      · exact absurd he this.1
      · exact absurd he this.2
    · have := h.1 p hp; rcases he with he | he
      · exact absurd he.symm this.1
      · exact absurd he.symm this.2
    · exact dis_eq h.2 hp hq he

theorem AtD.adopt (hG : GlobOk P G) {n0 : Nat} {w0 : World} {μ0 : List Slot} {s0 : St} {nt : Nat} {ops : Array Oper} {listed : Array Bool} {D : List (Nat × Nat)} {lst : Array Bool} {e : Env} {a : Act} {w : World} (st : AtD G X n0 w0 μ0 s0 nt ops listed D lst e s a w μ)
    (hX : ∀ b, X b → b < n0) (hw0 : w0.heap.size ≤ n0) {i b : Nat} (hp : (i, b) ∈ D) {o : Oper} {t d : Nat} {ag : Bool} {T : Ty} (ho : ops[i]? = some o) (hop : o.op = .alloc t) (hd : o.dst = some d) (ht : G.ty t = some (ag, T)) :
    AtD G X n0 w0 μ0 s0 nt ops (listed.setIfInBounds i true) (D.filter fun p => !(Nat.beq p.1 i)) lst (put e o.dst (.bp s.length 0)) (s ++ [.box T.zcells]) a w (μ ++ [⟨some b, 0⟩]) := by
  obtain ⟨g1, g2, g3, o', t', d', ag', T', q1, q2, q3, q4, q5, q6, q7⟩ := st.pend _ hp
  simp only at g1 g2 g3 q1 q6 q7
  rw [ho] at q1; cases q1
  rw [hop] at q2; cases q2
  rw [hd] at q4; cases q4
  rw [ht] at q5; cases q5
  have hmem : ∀ p, p ∈ D ↔ p = (i, b) ∨ p ∈ D.filter fun p => !(Nat.beq p.1 i) := fun p => by
    rw [List.mem_filter]
    constructor
    · intro h1
      by_cases hpi : p.1 = i
      · exact .inl (dis_eq st.dis h1 hp (.inl hpi))
      · exact .inr ⟨h1, by
          cases hb : Nat.beq p.1 i with
          | true => exact absurd (Nat.eq_of_beq_eq_true hb) hpi
          | false => rfl⟩
    · rintro (rfl | h1)
      · exact hp
      · exact h1.1
  have hno : ¬ ∃ p ∈ D.filter (fun p => !(Nat.beq p.1 i)), p.1 = i := fun ⟨p, h1, h2⟩ => by
    rw [List.mem_filter] at h1; simp [h2] at h1
  have hxd : ∀ b', XD X D b' ↔ XD X (D.filter fun p => !(Nat.beq p.1 i)) b' ∨ b' = b := fun b' => by
    constructor
    · rintro (h1 | ⟨p, h1, h2⟩)
      · exact .inl (.inl h1)
      · rcases (hmem p).1 h1 with rfl | h1
        · exact .inr h2.symm
        · exact .inl (.inr ⟨p, h1, h2⟩)
    · rintro ((h1 | ⟨p, h1, h2⟩) | h1)
      · exact .inl h1
      · exact .inr ⟨p, (hmem p).2 (.inr h1), h2⟩
      · exact .inr ⟨(i, b), hp, h1.symm⟩
  have hnb : ¬ XD X (D.filter fun p => !(Nat.beq p.1 i)) b := by
    rintro (h1 | ⟨p, h1, h2⟩)
    · have := hX b h1; omega
    · have := dis_eq st.dis ((hmem p).2 (.inr h1)) hp (.inr h2)
      exact hno ⟨p, h1, by rw [this]⟩
  obtain ⟨a1, a2⟩ := VE.adopt (cs := T.zcells) st.inv hxd hnb q6 (by rw [zval_cells (hG.tys.ty _ _ _ ht)]; exact zcells_rv T)
  have a3 := adopt_ext (cs := T.zcells) st.inv hxd (Nat.le_trans hw0 g2) st.ext a2
  refine ⟨a1, a3, ?_, st.nt, st.defers, st.calm, st.isLst.adopt hmem (lt_of_unlisted (mem_ready.1 g1).1) hno, st.cl, fun p h1 => ?_, st.dis.filter _, st.n0, by simpa using st.lsz⟩
  · have h1 := RVs.mono (fun b' hb => im_adopt (cs := T.zcells) st.inv hxd b' hb) (fun a v _ => a2 a v) _ _ st.rvs
    have h2 := RVs_set _ _ h1 d (.bp s.length 0) (.pointer (some ⟨b, 0, none⟩)) (by
      simp only [RV]
      exact ⟨_, last_slot st.inv _, by rw [last_get]; exact ⟨_, rfl, rfl⟩⟩)
    rw [hd]
    simp only [put]
    have h3 : a.tmps.toList.set d (.pointer (some ⟨b, 0, none⟩)) = a.tmps.toList := by
      apply List.ext_getElem?
      intro j
      rw [List.getElem?_set]
      split
      · rename_i hj; subst hj
        split
        · rename_i hlt
          have := q7 (by simpa using hlt)
          rw [Array.getElem?_toList, this]
        · rename_i hlt; rw [List.getElem?_eq_none (by omega)]
      · rfl
    rw [h3] at h2
    exact h2
  · obtain ⟨r1, r2⟩ := st.pend p ((hmem p).2 (.inr h1))
    exact ⟨ready_mono r1 fun e => hno ⟨p, h1, e⟩, r2⟩

theorem wpAnyL_irrel {ops : Array Oper} {Q : Exit → Act → World → Prop} {md : Region.Mode} {Ex : Nat → Bool} {S S' : World → Prop} {x : Nat} (hx : Ex x = true) : ∀ (fuel : Nat) (listed : Array Bool) (a : Act) (w : World), listed.getD x true = true →
    wpAnyL P md ops Q Ex S' fuel listed a w → wpAnyL P md ops Q Ex S fuel listed a w
  | 0, _, _, _, _, h => h
  | fuel + 1, listed, _, _, hl, h => by
    have keep : ∀ i, (listed.setIfInBounds i true).getD x true = true := fun i => by
      by_cases hix : i = x
      · subst hix
        rcases Nat.lt_or_ge i listed.size with h1 | h1
        · exact getD_set_eq h1
        · exact getD_ge (by simpa using h1)
      · rw [getD_set_ne true hix]; exact hl
    exact ⟨h.1, fun i hi => wpOp_mono (fun a' w' h' => ⟨fun hn => (by have := hn x hx; rw [keep i] at this; cases this), wpAnyL_irrel hx fuel _ a' w' (keep i) h'.2⟩) (h.2 i hi)⟩

theorem unl_pos {ops : Array Oper} {lst : Array Bool} {i : Nat} (hi : i ∈ Region.ready .any ops lst) {m : Nat} (h : unl ops lst ≤ m) : ∃ m', m = m' + 1 ∧ unl ops (lst.setIfInBounds i true) ≤ m' := by
  obtain ⟨h1, o, h2, _⟩ := mem_ready.1 hi
  have := unl_set (Array.getElem?_eq_some_iff.1 h2).1 h1
  exact ⟨m - 1, by omega, by omega⟩

theorem pend_dst {n0 : Nat} {ops : Array Oper} {listed : Array Bool} {D : List (Nat × Nat)} {a : Act} (hp : PendOk G ops listed D n0 h a) {A : List (Nat × Nat)} (hA : ∀ i ∈ Region.ready .any ops listed, ∀ d, allocAt G ops.toList i = some d → (i, d) ∈ A) :
    ∀ p ∈ D, ∃ d, (p.1, d) ∈ A ∧ ∀ o', ops[p.1]? = some o' → o'.dst = some d := fun p h1 => by
  obtain ⟨g1, g2, g3, o', t', d', ag', T', q1, q2, q3, q4, q5, q6, q7⟩ := hp p h1
  refine ⟨d', hA _ g1 d' ?_, fun o2 h2 => ?_⟩
  · unfold allocAt
    rw [Array.getElem?_toList, q1]
    simp only [allocD, q2, q3, q4, q5, Option.isSome_some, cond_true]
  · rw [q1] at h2; cases h2; exact q4

theorem nodup2_spec : ∀ {A : List (Nat × Nat)}, nodup2 A = true → ∀ p ∈ A, ∀ q ∈ A, p.2 = q.2 → p = q
  | [], _, p, hp, _, _, _ => by cases hp
  | x :: A, h, p, hp, q, hq, he => by
    simp only [nodup2, Bool.and_eq_true, Bool.not_eq_true', List.any_eq_false] at h
    simp only [List.mem_cons] at hp hq
    rcases hp with rfl | hp <;> rcases hq with rfl | hq
    · rfl
    · exact absurd he (by have := h.1 q hq; intro e; exact this (by rw [e]; exact Nat.beq_refl _))
    · exact absurd he (by have := h.1 p hp; intro e; exact this (by rw [← e]; exact Nat.beq_refl _))
    · exact nodup2_spec h.2 p hp q hq he

theorem parts_two {all : List Oper} : ∀ (l : List Nat), ∀ i ∈ (parts G all l).2, i ∈ l ∧ allocAt G all i = none
  | [], i, h => by simp [parts] at h
  | x :: l, i, h => by
    unfold parts at h
    split at h
    · exact ⟨List.mem_cons_of_mem _ (parts_two l i h).1, (parts_two l i h).2⟩
    · rename_i hx
      simp only [List.mem_cons] at h
      rcases h with rfl | h
      · exact ⟨by simp, hx⟩
      · exact ⟨List.mem_cons_of_mem _ (parts_two l i h).1, (parts_two l i h).2⟩

theorem deadAll_length : ∀ (A : List (Nat × Nat)) (e : Env), (deadAll e A).length = e.length
  | [], _ => rfl
  | p :: A, e => by
    rw [deadAll, deadAll_length A]
    have : ∀ (e : Env) (i : Nat) (v : AV), (setE e i v).length = e.length := by
      intro e
      induction e with
      | nil => intro i v; cases i <;> rfl
      | cons a l ih => intro i v; cases i with
        | zero => rfl
        | succ i => simp [setE, ih]
    exact this _ _ _

theorem nodup2_of {A : List (Nat × Nat)} {p q : Nat × Nat} (h : nodup2 A = true) (hp : p ∈ A) (hq : q ∈ A) (he : p.2 = q.2) : p = q := nodup2_spec h p hp q hq he

/-- One of the waiting allocs comes up. -/
theorem early_step (hG : GlobOk P G) {wr : List Nat} {ops : Array Oper} {Q : Exit → Act → World → Prop} {n0 : Nat} {w0 : World} {μ0 : List Slot} {s0 : St} {nt : Nat} {listed : Array Bool} {D A : List (Nat × Nat)} {lst : Array Bool} {e : Env} {a : Act} {w : World} {m : Nat}
    (st : AtD G X n0 w0 μ0 s0 nt ops listed D lst (deadAll e A) s a w μ) (hA1 : ∀ q ∈ A, q.1 ∈ Region.ready .any ops listed ∧ allocAt G ops.toList q.1 = some q.2) (hA3 : ∀ i ∈ Region.ready .any ops listed, ∀ d, allocAt G ops.toList i = some d → (i, d) ∈ A)
    (hnd : ∀ p ∈ A, ∀ q ∈ A, p.2 = q.2 → p = q) {i : Nat} (hi : i ∈ Region.ready .any ops lst) (hiD : ¬ ∃ p ∈ D, p.1 = i) (hiA : ∃ q ∈ A, q.1 = i)
    (ihm : ∀ D lst a (w : World) μ, unl ops lst ≤ m → AtD G X n0 w0 μ0 s0 nt ops listed D lst (deadAll e A) s a w μ → wpAnyL P .any ops Q (exempt G ops.toList) (fun w' => HX (XD X D) μ wr w.heap w'.heap) m lst a w)
    (hm : unl ops (lst.setIfInBounds i true) ≤ m) :
    wpOp P ops Q i (fun a' w' => (NoEx (exempt G ops.toList) (lst.setIfInBounds i true) → HX (XD X D) μ wr w.heap w'.heap) ∧ wpAnyL P .any ops Q (exempt G ops.toList) (fun w' => HX (XD X D) μ wr w.heap w'.heap) m (lst.setIfInBounds i true) a' w') a w := by
  obtain ⟨q, hq, rfl⟩ := hiA
  obtain ⟨o', t, ag, T, q1, q2, q3, q4, q5⟩ := allocAt_spec (hA1 q hq).2
  refine alloc_wp hG q1 q2 q3 q4 q5 ?_
  have st2 := st.early hG (hA1 q hq).1 hi hiD q1 q2 q3 q4 q5 (fun hlt => deadAll_dead A ⟨q, hq, rfl⟩ (by rw [deadAll_length] at hlt; exact hlt)) (fun p hp o2 h2 h3 => by
    obtain ⟨d, h4, h5⟩ := pend_dst st.pend hA3 p hp
    have h6 := h5 o2 h2
    rw [h3] at h6
    simp only [Option.some.injEq] at h6
    have h7 := hnd _ h4 q hq h6.symm
    exact hiD ⟨p, hp, by rw [← h7]⟩)
  have hrest := ihm _ _ _ _ _ hm st2
  have hpush : ∀ b, b < w.heap.size → (w.heap.push (.cells (zval ag T).cells t (0, 0)))[b]? = w.heap[b]? := fun b hb => by rw [Array.getElem?_push]; simp [Nat.ne_of_lt hb]
  refine ⟨fun _ b hb _ _ => hpush b hb, wpAnyL_monoS (fun w'' hw'' b hb hx hnot => ?_) _ _ _ _ hrest⟩
  refine (hw'' b (by simp; omega) (fun hxx => ?_) hnot).trans (hpush b hb)
  rcases (xd_cons b).1 hxx with h1 | h1
  · exact hx h1
  · omega

theorem execAny_sound (hG : GlobOk P G) {wr : List Nat} {ops : Array Oper} (hsel : Region.noSelect ops = true) {k : Env → St → Option Res} {r : Res} : ∀ (n : Nat) (listed : Array Bool) (e : Env) (s : St),
    execAny G wr ops ops.toList n listed k e s = some r → ∃ e' s', k e' s' = some r ∧ ∀ X n0 w0 μ0 s0 nt (Q : Exit → Act → World → Prop), (∀ b, X b → b < n0) → w0.heap.size ≤ n0 → (∀ c a w, ¬ Q (.panic c) a w) → (∀ a' w', Went X w0 μ0 s0 nt e' s' a' w' → Q .normal a' w') →
      ∀ m D lst a (w : World) μ, unl ops lst ≤ m → AtD G X n0 w0 μ0 s0 nt ops listed D lst e s a w μ → wpAnyL P .any ops Q (exempt G ops.toList) (fun w' => HX (XD X D) μ wr w.heap w'.heap) m lst a w := by
  intro n
  have fin : ∀ (listed : Array Bool) (e : Env) (s : St), Region.ready .any ops listed = [] → k e s = some r → ∃ e' s', k e' s' = some r ∧ ∀ X n0 w0 μ0 s0 nt (Q : Exit → Act → World → Prop), (∀ b, X b → b < n0) → w0.heap.size ≤ n0 → (∀ c a w, ¬ Q (.panic c) a w) → (∀ a' w', Went X w0 μ0 s0 nt e' s' a' w' → Q .normal a' w') →
      ∀ m D lst a (w : World) μ, unl ops lst ≤ m → AtD G X n0 w0 μ0 s0 nt ops listed D lst e s a w μ → wpAnyL P .any ops Q (exempt G ops.toList) (fun w' => HX (XD X D) μ wr w.heap w'.heap) m lst a w := by
    intro listed e s hr hk
    refine ⟨e, s, hk, fun X n0 w0 μ0 s0 nt Q hX hw0 hp' hQ m D lst a w μ hm st => ?_⟩
    have hD : D = [] := by
      cases D with
      | nil => rfl
      | cons p D => have := (st.pend p (by simp)).1; rw [hr] at this; cases this
    subst hD
    have hxd : ∀ b, XD X [] b ↔ X b := fun b => by simp [XD]
    have e1 : XD X [] = X := by funext b; exact propext (hxd b)
    have hr' : Region.ready .any ops lst = [] := by
      rw [List.eq_nil_iff_forall_not_mem]
      intro q hq
      obtain ⟨_, h2⟩ := st.isLst.ready_inv (A := []) (fun p hp => by cases hp) (fun q hq => by cases hq) hq
      rcases h2 with ⟨q, hq, _⟩ | h2
      · cases hq
      · rw [setAll, hr] at h2; cases h2
    exact wpAnyL_done hr' (hQ a w ⟨μ, e1 ▸ st.inv, e1 ▸ st.ext, e1 ▸ st.rvs, st.nt, st.defers, st.calm⟩) _
  induction n with
  | zero =>
    intro listed e s hk
    unfold execAny at hk
    split at hk
    · rename_i hr; exact fin listed e s hr hk
    · cases hk
  | succ n ih =>
    intro listed e s hk
    unfold execAny at hk
    split at hk
    · rename_i hr; exact fin listed e s hr hk
    · rename_i i l hr
      split at hk
      · rename_i j o hp
        obtain ⟨p1, p2, p3, p4, p5⟩ := pickQ_spec hp
        obtain ⟨e1, s1, h1, _, h2⟩ := stepOp_sound hG hk
        obtain ⟨rfl, h2⟩ := h2 p3
        obtain ⟨e2, s2, h3, h4⟩ := ih _ e1 _ h1
        refine ⟨e2, s2, h3, fun X n0 w0 μ0 s0 nt Q hX hw0 hp' hQ m D lst a w μ hm st => ?_⟩
        have hj : j ∈ Region.ready .any ops listed := by rw [hr]; exact p1
        have hjD : ¬ ∃ p ∈ D, p.1 = j := fun ⟨p, h5, h6⟩ => by
          obtain ⟨_, _, _, o', t', d', ag', T', q1, q2, _⟩ := st.pend p h5
          rw [h6, p2] at q1; cases q1
          rw [q2] at p3; cases p3
        have hjl := st.isLst.ready hj hjD
        obtain ⟨m', rfl, hm'⟩ := unl_pos hjl hm
        obtain ⟨cv, y1, y2⟩ := h2 wr p5 (XD X D) w.heap μ a st.inv st.rvs
        have hfree := Region.free_spec p2 p4
        have hoff : ∀ p ∈ D, ∀ o', ops[p.1]? = some o' → ∀ d, o'.dst = some d → o.dst ≠ some d := fun p h5 o' h6 d h7 h8 => by
          obtain ⟨g1, _⟩ := st.pend p h5
          obtain ⟨g2, og, g3, g4⟩ := mem_ready.1 g1
          rw [h6] at g3; cases g3
          have h9 := hfree p.1 o' h6 (fun e => hjD ⟨p, h5, e⟩) g2 (fun e he hb heq => by
            have := g4 e he hb
            rw [heq] at this
            have h10 := (mem_ready.1 hj).1
            have hlt := lt_of_unlisted h10
            rw [getD_tf hlt] at this h10
            rw [this] at h10; cases h10)
          exact (Oper.apart_spec h9).2.1 d h8 h7
        refine wpAnyL_first (S0 := fun w' => isLd o.op = true → HX (XD X D) μ wr w.heap w'.heap) (fun w' hw' _ => hw') p2 ?_ ?_ (Region.noSelect_spec hsel) (fun c a w hc => absurd hc (hp' _ _ _)) _ _ _ _ ?_ hjl y1 ?_ (fun _ _ _ _ _ => rfl) (fun _ _ _ _ _ => rfl) ?_
        · intro x ox hox hxj hex hno w' hld
          obtain ⟨oj, g1, _, g2⟩ := exempt_spec hex
          rw [hox] at g1; cases g1
          obtain ⟨e, he, hb, hon⟩ := g2 j o p2 hld (Ne.symm hxj)
          exact absurd hon (hno e he hb)
        · cases hex : exempt G ops.toList j with
          | false => rfl
          | true =>
            obtain ⟨oj, g1, g2, _⟩ := exempt_spec hex
            rw [p2] at g1; cases g1
            rw [p3] at g2; cases g2
        · intro x ox hox hxj hun hno
          refine hfree x ox hox hxj ?_ hno
          have hlt := lt_of_unlisted hun
          rw [st.isLst.size] at hlt
          by_cases hxD : ∃ p ∈ D, p.1 = x
          · rw [st.isLst.on x _ hxD hlt] at hun; cases hun
          · rw [← st.isLst.off x _ hxD]; exact hun
        · cases hld : isLd o.op with
          | false => exact .inr fun w' h => by cases h
          | true =>
            refine .inl fun x hex => ?_
            obtain ⟨ox, g1, g3, g2⟩ := exempt_spec hex
            cases hxl : lst.getD x true with
            | false => rfl
            | true =>
              have hxj : j ≠ x := fun e => by subst e; rw [p2] at g1; cases g1; rw [p3] at g3; cases g3
              obtain ⟨e, he, hb, hon⟩ := g2 j o p2 hld hxj
              have hlt : x < lst.size := by rw [st.isLst.size, st.lsz]; exact (Array.getElem?_eq_some_iff.1 g1).1
              have h9 := st.cl x ox g1 (by rw [getD_tf hlt] at hxl ⊢; exact hxl) e he hb
              rw [hon] at h9
              have h10 := (mem_ready.1 hjl).1
              have hlt2 := lt_of_unlisted h10
              rw [getD_tf hlt2] at h9 h10
              rw [h9] at h10; cases h10
        · exact h4 X n0 w0 μ0 s0 nt Q hX hw0 hp' hQ m' D _ _ w μ hm' (st.step hj hjD st.inv y2 (Ext.refl _ _ _ _) (Calm.refl w) hoff)
      · obtain ⟨hA1, hA2⟩ := parts_spec (G := G) (all := ops.toList) (i :: l)
        rw [← hr] at hA1 hA2
        split at hk
        · rename_i A j hpt
          rw [hr, hpt] at hA1 hA2
          simp only [← hr] at hA1 hA2
          split at hk
          · rename_i o ho
            rw [Array.getElem?_toList] at ho
            cases hok : okNext ops listed A j o with
            | false => rw [hok] at hk; cases hk
            | true =>
              rw [hok] at hk
              simp only [cond_true] at hk
              have hj : j ∈ Region.ready .any ops listed ∧ allocAt G ops.toList j = none := by
                have := parts_two (G := G) (all := ops.toList) (i :: l) j (by rw [hpt]; simp)
                rw [← hr] at this; exact this
              have hA3 : ∀ i ∈ Region.ready .any ops listed, ∀ d, allocAt G ops.toList i = some d → (i, d) ∈ A := fun x hx d hd => by
                rcases hA2 x hx with ⟨d', g1, g2⟩ | ⟨g1, _⟩
                · rw [g1] at hd; cases hd; exact g2
                · rw [g1] at hd; cases hd
              have hN : (∀ q ∈ Region.ready .any ops (setAll listed A), q = j) ∧ (∀ p ∈ A, ∀ q ∈ A, p.2 = q.2 → p = q) ∧ ∀ q ∈ A, o.dst ≠ some q.2 := by
                cases A with
                | nil =>
                  refine ⟨fun q hq => ?_, (by simp), (by simp)⟩
                  rcases hA2 q hq with ⟨d', _, g2⟩ | ⟨_, g2⟩
                  · cases g2
                  · simpa using g2
                | cons a0 A0 =>
                  simp only [okNext, Bool.and_eq_true] at hok
                  refine ⟨fun q hq => ?_, nodup2_spec hok.1.2, fun q hq hd => ?_⟩
                  · have h9 := hok.1.1
                    unfold only at h9
                    split at h9
                    · rename_i y hy
                      rw [hy] at hq
                      simp only [List.mem_singleton] at hq
                      rw [hq]; exact Nat.eq_of_beq_eq_true h9
                    · cases h9
                  · have h9 := hok.2
                    rw [hd] at h9
                    simp only [offAll, Bool.not_eq_true', List.any_eq_false] at h9
                    exact h9 q hq (Nat.beq_refl _)
              obtain ⟨e1, s1, h1, h2, _⟩ := stepOp_sound hG hk
              obtain ⟨e2, s2, h3, h4⟩ := ih _ e1 _ h1
              refine ⟨e2, s2, h3, fun X n0 w0 μ0 s0 nt Q hX hw0 hp' hQ => ?_⟩
              have key : ∀ m D lst a (w : World) μ, unl ops lst ≤ m → AtD G X n0 w0 μ0 s0 nt ops listed D lst (deadAll e A) s a w μ → wpAnyL P .any ops Q (exempt G ops.toList) (fun w' => HX (XD X D) μ wr w.heap w'.heap) m lst a w := by
                intro m
                induction m with
                | zero =>
                  intro D lst a w μ hm st
                  have hjD : ¬ ∃ p ∈ D, p.1 = j := fun ⟨p, h5, h6⟩ => by
                    obtain ⟨d, h7, _⟩ := pend_dst st.pend hA3 p h5
                    have := (hA1 _ h7).2
                    simp only [h6] at this
                    rw [hj.2] at this; cases this
                  obtain ⟨m', h, _⟩ := unl_pos (st.isLst.ready hj.1 hjD) hm
                  omega
                | succ m ihm =>
                  intro D lst a w μ hm st
                  have hDA : ∀ p ∈ D, ∃ q ∈ A, q.1 = p.1 := fun p h5 => by
                    obtain ⟨d, h7, _⟩ := pend_dst st.pend hA3 p h5
                    exact ⟨_, h7, rfl⟩
                  have hjD : ¬ ∃ p ∈ D, p.1 = j := fun ⟨p, h5, h6⟩ => by
                    obtain ⟨q, h7, h8⟩ := hDA p h5
                    have := (hA1 _ h7).2
                    rw [h8, h6, hj.2] at this; cases this
                  have hjl := st.isLst.ready hj.1 hjD
                  refine ⟨fun h => (by rw [h] at hjl; cases hjl), fun i' hi' => ?_⟩
                  obtain ⟨hi'D, hi'2⟩ := st.isLst.ready_inv (A := A) hDA (fun q hq => (hA1 q hq).1) hi'
                  obtain ⟨m', hmm, hm'⟩ := unl_pos hi' hm
                  have hmm' : m' = m := by omega
                  subst hmm'
                  rcases hi'2 with hi'A | hi'2
                  · exact early_step hG st hA1 hA3 hN.2.1 hi' hi'D hi'A ihm hm'
                  · have := hN.1 i' hi'2
                    subst this
                    refine h2 (XD X D) μ w a st.inv st.rvs Q _ i' ho fun cv w' μ' i1 v1 x1 t1 c1 => ?_
                    have st2 := st.step hj.1 hjD i1 v1 x1 c1 (fun p hp o2 g2 d g3 g4 => by
                      obtain ⟨d', h7, h8⟩ := pend_dst st.pend hA3 p hp
                      have := h8 o2 g2
                      rw [g3] at this; cases this
                      exact hN.2.2 _ h7 g4)
                    have hrest := h4 X n0 w0 μ0 s0 nt Q hX hw0 hp' hQ m' D _ _ w' μ' hm' st2
                    have hlt := lt_of_unlisted (mem_ready.1 hi').1
                    cases hex : exempt G ops.toList i' with
                    | true =>
                      refine ⟨fun hn => ?_, wpAnyL_irrel hex _ _ _ _ (getD_set_eq hlt) hrest⟩
                      have := hn i' hex
                      rw [getD_set_eq hlt] at this; cases this
                    | false =>
                      rw [hex] at t1
                      have t1 := t1 wr rfl
                      exact ⟨fun _ b hb _ hnot => (t1 b hb hnot).1, wpAnyL_monoS (fun w'' hw'' b hb hx hnot => (hw'' b (Nat.lt_of_lt_of_le hb x1.size) hx (t1 b hb hnot).2).trans (t1 b hb hnot).1) _ _ _ _ hrest⟩
              exact fun m D lst a w μ hm st => key m D lst a w μ hm { st with rvs := deadAll_rvs A st.rvs }
          · cases hk
        · rename_i p A hpt
          rw [hr, hpt] at hA1 hA2
          simp only [← hr] at hA1 hA2
          split at hk
          · rename_i o ho
            rw [Array.getElem?_toList] at ho
            cases hok : okLast ops ops.toList listed (p :: A) with
            | false => rw [hok] at hk; cases hk
            | true =>
              rw [hok] at hk
              simp only [cond_true] at hk
              have hA3 : ∀ i ∈ Region.ready .any ops listed, ∀ d, allocAt G ops.toList i = some d → (i, d) ∈ p :: A := fun x hx d hd => by
                rcases hA2 x hx with ⟨d', g1, g2⟩ | ⟨g1, g2⟩
                · rw [g1] at hd; cases hd; exact g2
                · cases g2
              have hok2 : nodup2 (p :: A) = true := by
                simp only [okLast, Bool.and_eq_true] at hok
                exact hok.1
              have hnd := nodup2_spec hok2
              obtain ⟨hp1, hp2⟩ := hA1 p (by simp)
              obtain ⟨o', t, ag, T, q1, q2, q3, q4, q5⟩ := allocAt_spec hp2
              rw [ho] at q1
              cases q1
              simp only [stepOp, q3, op1, q2, execOp1, q5] at hk
              obtain ⟨e2, s2, h3, h4⟩ := ih _ _ _ hk
              refine ⟨e2, s2, h3, fun X n0 w0 μ0 s0 nt Q hX hw0 hp' hQ => ?_⟩
              have key : ∀ m D lst a (w : World) μ, unl ops lst ≤ m → AtD G X n0 w0 μ0 s0 nt ops listed D lst (deadAll e (p :: A)) s a w μ → wpAnyL P .any ops Q (exempt G ops.toList) (fun w' => HX (XD X D) μ wr w.heap w'.heap) m lst a w := by
                have adopt1 : ∀ m D lst a (w : World) μ b, (p.1, b) ∈ D → unl ops lst ≤ m → AtD G X n0 w0 μ0 s0 nt ops listed D lst (deadAll e (p :: A)) s a w μ → wpAnyL P .any ops Q (exempt G ops.toList) (fun w' => HX (XD X D) μ wr w.heap w'.heap) m lst a w := by
                  intro m D lst a w μ b hb hm st
                  have st2 := st.adopt hG hX hw0 hb ho q2 q4 q5
                  have hrest := h4 X n0 w0 μ0 s0 nt Q hX hw0 hp' hQ m _ lst a w _ hm st2
                  refine wpAnyL_monoS (fun w'' hw'' b' hb' hx hnot => hw'' b' hb' (fun hxx => ?_) fun r hr' sl hsl hbl => ?_) _ _ _ _ hrest
                  · rcases hxx with h9 | ⟨q, h9, h10⟩
                    · exact hx (.inl h9)
                    · exact hx (.inr ⟨q, (List.mem_filter.1 h9).1, h10⟩)
                  · rcases Nat.lt_or_ge r s.length with g1 | g1
                    · exact hnot r hr' sl (get_app_left hsl (st.inv.len ▸ g1)) hbl
                    · have hlt := (List.getElem?_eq_some_iff.1 hsl).1
                      simp [st.inv.len] at hlt
                      have e9 : r = s.length := by omega
                      subst e9
                      rw [← st.inv.len] at hsl
                      simp at hsl
                      subst hsl
                      cases hbl
                      exact hx (.inr ⟨_, hb, rfl⟩)
                intro m
                induction m with
                | zero =>
                  intro D lst a w μ hm st
                  by_cases hpD : ∃ q ∈ D, q.1 = p.1
                  · obtain ⟨q, hq, hq1⟩ := hpD
                    exact adopt1 _ D lst a w μ q.2 (by rw [← hq1]; exact hq) hm st
                  · obtain ⟨m', h, _⟩ := unl_pos (st.isLst.ready hp1 hpD) hm
                    omega
                | succ m ihm =>
                  intro D lst a w μ hm st
                  by_cases hpD : ∃ q ∈ D, q.1 = p.1
                  · obtain ⟨q, hq, hq1⟩ := hpD
                    exact adopt1 _ D lst a w μ q.2 (by rw [← hq1]; exact hq) hm st
                  · have hDA : ∀ x ∈ D, ∃ q ∈ p :: A, q.1 = x.1 := fun x h5 => by
                      obtain ⟨d, h7, _⟩ := pend_dst st.pend hA3 x h5
                      exact ⟨_, h7, rfl⟩
                    have hpl := st.isLst.ready hp1 hpD
                    refine ⟨fun h => (by rw [h] at hpl; cases hpl), fun i' hi' => ?_⟩
                    obtain ⟨hi'D, hi'2⟩ := st.isLst.ready_inv (A := p :: A) hDA (fun q hq => (hA1 q hq).1) hi'
                    obtain ⟨m', hmm, hm'⟩ := unl_pos hi' hm
                    have hmm' : m' = m := by omega
                    subst hmm'
                    have hi'A : ∃ q ∈ p :: A, q.1 = i' := by
                      rcases hi'2 with h9 | h9
                      · exact h9
                      · cases A with
                        | nil =>
                          have hD0 : ∀ x ∈ D, ∃ q ∈ ([] : List (Nat × Nat)), q.1 = x.1 := fun x h5 => by
                            obtain ⟨q, h6, h7⟩ := hDA x h5
                            simp only [List.mem_singleton] at h6
                            subst h6
                            exact absurd ⟨x, h5, h7.symm⟩ hpD
                          obtain ⟨_, h10⟩ := st.isLst.ready_inv (A := []) hD0 (fun q hq => by cases hq) hi'
                          rcases h10 with ⟨q, hq, _⟩ | h10
                          · cases hq
                          · rcases hA2 i' h10 with ⟨d', _, g2⟩ | ⟨_, g2⟩
                            · exact ⟨_, g2, rfl⟩
                            · cases g2
                        | cons a0 A0 =>
                          simp only [okLast, Bool.and_eq_true, List.all_eq_true] at hok
                          have h11 := hok.2 i' h9
                          split at h11
                          · rename_i ox hox
                            rw [Array.getElem?_toList] at hox
                            have h12 := List.all_eq_true.1 h11 p (by simp)
                            simp only [waitsOn, List.any_eq_true, Bool.and_eq_true] at h12
                            obtain ⟨ed, he, hb, hon⟩ := h12
                            obtain ⟨_, o2, g1, g2⟩ := mem_ready.1 hi'
                            rw [hox] at g1; cases g1
                            have g3 := g2 ed (by simpa using he) hb
                            rw [Nat.eq_of_beq_eq_true hon] at g3
                            have g4 := (mem_ready.1 hpl).1
                            have hlt := lt_of_unlisted g4
                            rw [getD_tf hlt] at g3 g4
                            rw [g3] at g4; cases g4
                          · cases h11
                    exact early_step hG st hA1 hA3 hnd hi' hi'D hi'A ihm hm'
              exact fun m D lst a w μ hm st => key m D lst a w μ hm { st with rvs := deadAll_rvs (p :: A) st.rvs }
          · cases hk
        · cases hk

theorem AtD.start {w0 : World} {μ0 : List Slot} {s0 : St} {nt : Nat} {ops : Array Oper} {e : Env} {a : Act} {w : World} (i0 : Inv X w.heap μ s) (x0 : Ext X w0.heap μ0 s0 w.heap μ s) (v0 : RVs w.heap (Im X w.heap μ s) μ s e a.tmps.toList)
    (z0 : a.tmps.size = nt) (d0 : a.defers = []) (c0 : Calm w0 w) : AtD G X w.heap.size w0 μ0 s0 nt ops (Array.replicate ops.size false) [] (Array.replicate ops.size false) e s a w μ := by
  have e1 : XD X [] = X := by funext b; exact propext (by simp [XD])
  refine ⟨e1.symm ▸ i0, e1.symm ▸ x0, e1.symm ▸ v0, z0, d0, c0, ⟨rfl, fun j d h _ => (by obtain ⟨p, hp, _⟩ := h; cases hp), fun _ _ _ => rfl⟩, fun x o _ hl => ?_, fun p hp => (by cases hp), List.Pairwise.nil, Nat.le_refl _, by simp⟩
  rcases Nat.lt_or_ge x ops.size with h1 | h1
  · simp [h1] at hl
  · rw [getD_ge (by simpa using h1)] at hl; cases hl

theorem unl_le (ops : Array Oper) (lst : Array Bool) : unl ops lst ≤ ops.size := by
  unfold unl
  exact Nat.le_trans List.countP_le_length (by simp)

end
end Go.VE
