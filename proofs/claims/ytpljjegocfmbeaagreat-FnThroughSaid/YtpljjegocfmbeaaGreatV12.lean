/- Each operation is a step of the state. -/
import Derived.Test.YtpljjegocfmbeaaGreatV11
namespace Go.VE
set_option linter.unusedVariables false
set_option linter.unusedSimpArgs false

def valsT : (T : Ty) → T.D → List Value
  | .int k, n => [.int k n]
  | .bool, b => [.bool b]
  | .str, s => [.string s]
  | .pair a b, x => valsT a x.1 ++ valsT b x.2
  | .slice _, _ => []

theorem Rep.flatT {h : Heap} {I : Nat → Prop} : ∀ {T : Ty} {cs : List Value} {x : T.D}, T.flat = true → Rep h I T cs x → cs = valsT T x
  | .int _, _, _, _, hr => hr
  | .bool, _, _, _, hr => hr
  | .str, _, _, _, hr => hr
  | .pair a b, _, _, hf, ⟨c, d, e, h1, h2⟩ => by
    simp only [Ty.flat, Bool.and_eq_true] at hf
    rw [e, Rep.flatT hf.1 h1, Rep.flatT hf.2 h2]; rfl
  | .slice _, _, _, hf, _ => by cases hf

/-- '==' at a struct type is what 'eqB' says. -/
def EqT (P : Program) (t : TypeId) (T : Ty) : Prop :=
  P.eqGuardType P.depth t = false ∧ ∀ (w : World) (x y : T.D), (Op.equal t (.agg (valsT T x).toArray) (.agg (valsT T y).toArray)).run P w = .ok (T.eqB x y) w

def Enter (P : Program) (f : Nat) : Prop := ∃ fn, P.funcs[f]? = some fn ∧ fn.body.isNone = false ∧ (fn.name == "runtime.NumGoroutine") = false

/-- A type of one cell that holds what no kind tells: a pointer, a function. -/
def OneOk (P : Program) (t : TypeId) : Prop :=
  (∀ w : World, (isAgg t).run P w = .ok false w) ∧ (∀ w : World, (sizeOf t).run P w = .ok 1 w) ∧ ∃ z : Value, z.cells = #[z] ∧ ∀ w : World, (zeroValue t).run P w = .ok z w

structure GlobOk (P : Program) (G : Glob) : Prop where
  tys : TysOk P G
  call : ∀ f, (∀ args s k, G.call f args s k = none) ∨ (Enter P f ∧ Contract P f (G.call f))
  eqs : ∀ t T, G.eqt t = true → G.ty t = some (true, T) → T.flat = true → EqT P t T
  ones : ∀ t, G.one t = true → OneOk P t

section
variable {P : Program} {X : Nat → Prop} {μ : List Slot} {s : St} {h : Heap} {I : Nat → Prop} {wr : List Nat}

theorem ofConst0_rv : ∀ v : Value, RV h I μ s (ofConst0 v) v
  | .int k n => by simp only [ofConst0, RV]
  | .bool b => by simp only [ofConst0, RV]
  | .string t => by simp only [ofConst0, RV]
  | .slice none 0 0 => by simp only [ofConst0, RV]; exact ⟨_, rfl⟩
  | .slice (some _) _ _ => by simp only [ofConst0, RV]
  | .slice none (_ + 1) _ => by simp only [ofConst0, RV]
  | .slice none 0 (_ + 1) => by simp only [ofConst0, RV]
  | .float _ _ => by simp only [ofConst0, RV]
  | .complex _ _ _ => by simp only [ofConst0, RV]
  | .pointer _ => by simp only [ofConst0, RV]
  | .map _ => by simp only [ofConst0, RV]
  | .chan _ => by simp only [ofConst0, RV]
  | .func _ _ _ => by simp only [ofConst0, RV]
  | .nilFunc => by simp only [ofConst0, RV]
  | .iface _ _ => by simp only [ofConst0, RV]
  | .nilIface => by simp only [ofConst0, RV]
  | .agg _ => by simp only [ofConst0, RV]
  | .tuple _ => by simp only [ofConst0, RV]

theorem ofConst_rv (v : Value) : RV h I μ s (ofConst v) v := by
  unfold ofConst
  split
  · rename_i cs
    simp only [RV]
    refine ⟨cs, rfl, ?_⟩
    induction cs.toList with
    | nil => simp only [List.map_nil, RVs]
    | cons a l ih => simp only [List.map_cons, RVs]; exact ⟨a, l, rfl, ofConst0_rv a, ih⟩
  · exact ofConst0_rv _

theorem getE_ge : ∀ (e : Env) (t : Nat), e.length ≤ t → getE e t = .dead
  | [], _, _ => rfl
  | _ :: l, 0, h => by simp at h
  | _ :: l, t + 1, h => getE_ge l t (by simpa using h)

theorem ev_rv {e : Env} {a : Act} (he : RVs h I μ s e a.tmps.toList) (x : Operand) : RV h I μ s (ev e x) (a.eval x) := by
  cases x with
  | tmp t =>
    simp only [ev, Act.eval]
    by_cases ht : t < a.tmps.size
    · have : a.tmps.toList[t]? = some a.tmps[t] := by simp [ht]
      have := RVs_get _ _ he t _ this
      simpa [Array.getD, ht] using this
    · have hl := RVs_length _ _ he
      rw [Array.length_toList] at hl
      have h2 : List.length e ≤ t := by rw [← hl]; exact Nat.le_of_not_lt ht
      rw [getE_ge e t h2]
      simp only [RV]
  | const v => exact ofConst_rv v
  | global g => simp only [ev, RV]
  | func f => simp only [ev, Act.eval, RV]; exact ⟨#[], rfl, by simp only [RVs]⟩

theorem evs_rv {e : Env} {a : Act} (he : RVs h I μ s e a.tmps.toList) : ∀ xs : List Operand, RVs h I μ s (evs e xs) (xs.map a.eval)
  | [] => by simp only [evs, RVs, List.map_nil]
  | x :: xs => by simp only [evs, RVs, List.map_cons]; exact ⟨_, _, rfl, ev_rv he x, evs_rv he xs⟩

theorem wp_value {o : Oper} {a : Act} {w w' : World} {next : Act → World → Prop} {Q : Exit → Act → World → Prop} {cv : Value} (hr : (execOp a.eval o).run P w = .ok (.value cv) w') (hn : next (a.put o.dst cv) w') :
    o.wp P a w next Q := by
  unfold Oper.wp; rw [hr]; exact hn

theorem wp_skip' {o : Oper} {a : Act} {w w' : World} {next : Act → World → Prop} {Q : Exit → Act → World → Prop} (hr : (execOp a.eval o).run P w = .ok .skip w') (hn : next (a.put o.dst undef) w') :
    o.wp P a w next Q := by
  unfold Oper.wp; rw [hr]; exact hn

/-- What is to be shown of an operation; tch: the regions that it may write. -/
def isCallV : Op → Bool
  | .call c => match c.callee with
    | .builtin _ => false
    | _ => true
  | _ => false

/-- Regions keep their places, but for those that a call is handed. -/
def KeepS (o : Oper) (tch : List Nat) (s : St) (μ μ' : List Slot) : Prop := ∀ r, r < s.length → (isCallV o.op = true → r ∉ tch) → μ'[r]? = μ[r]?

def OpOk (P : Program) (o : Oper) (e : Env) (s : St) (tch : List Nat) (v : AV) (s' : St) : Prop :=
  ∀ X μ (w : World) (a : Act), Inv X w.heap μ s → RVs w.heap (Im X w.heap μ s) μ s e a.tmps.toList → ∀ (next : Act → World → Prop) (Q : Exit → Act → World → Prop),
    (∀ cv w' μ', Inv X w'.heap μ' s' → RV w'.heap (Im X w'.heap μ' s') μ' s' v cv → Ext X w.heap μ s w'.heap μ' s' →
      (∀ b, b < w.heap.size → NotOf μ tch b → w'.heap[b]? = w.heap[b]?) → Calm w w' → KeepS o tch s μ μ' → next (a.put o.dst cv) w') → o.wp P a w next Q

theorem OpOk.of {o : Oper} {e : Env} {tch : List Nat} {v : AV} {s' : St} (hh : ∀ X μ (w : World) (a : Act), Inv X w.heap μ s → RVs w.heap (Im X w.heap μ s) μ s e a.tmps.toList →
    ∃ cv w' μ', (execOp a.eval o).run P w = .ok (.value cv) w' ∧ Inv X w'.heap μ' s' ∧ RV w'.heap (Im X w'.heap μ' s') μ' s' v cv ∧ Ext X w.heap μ s w'.heap μ' s' ∧
      (∀ b, b < w.heap.size → NotOf μ tch b → w'.heap[b]? = w.heap[b]?) ∧ Calm w w' ∧ ∀ r, r < s.length → μ'[r]? = μ[r]?) : OpOk P o e s tch v s' := by
  intro X μ w a inv he next Q hn
  obtain ⟨cv, w', μ', h1, h2, h3, h4, h5, h6, h7⟩ := hh X μ w a inv he
  exact wp_value h1 (hn cv w' μ' h2 h3 h4 h5 h6 fun r hr _ => h7 r hr)

/-- A new block alone. -/
theorem OpOk.push {o : Oper} {e : Env} {v : AV} {s' : St} (hh : ∀ X μ (w : World) (a : Act), Inv X w.heap μ s → RVs w.heap (Im X w.heap μ s) μ s e a.tmps.toList →
    ∃ cv w' μ' ob, (execOp a.eval o).run P w = .ok (.value cv) w' ∧ w'.heap = w.heap.push ob ∧ Calm w w' ∧ Inv X w'.heap μ' s' ∧ RV w'.heap (Im X w'.heap μ' s') μ' s' v cv ∧ Ext X w.heap μ s w'.heap μ' s' ∧ ∀ r, r < s.length → μ'[r]? = μ[r]?) : OpOk P o e s [] v s' :=
  OpOk.of fun X μ w a inv he => by
    obtain ⟨cv, w', μ', ob, h1, h2, hc, h3, h4, h5, h6⟩ := hh X μ w a inv he
    refine ⟨cv, w', μ', h1, h3, h4, h5, fun b hb _ => ?_, hc, h6⟩
    rw [h2, Array.getElem?_push]; simp [Nat.ne_of_lt hb]

/-- A heap that has what h has, but for the blocks of some regions. -/
def HX (X : Nat → Prop) (μ : List Slot) (wr : List Nat) (h h' : Heap) : Prop := ∀ b, b < h.size → ¬ X b → NotOf μ wr b → h'[b]? = h[b]?

def isLd : Op → Bool
  | .load _ _ => true
  | _ => false

/-- An operation that leaves the state alone: one value, whatever was made or written beside. -/
def OpQ (P : Program) (o : Oper) (e : Env) (s : St) (wr : List Nat) (v : AV) : Prop :=
  ∀ X h μ (a : Act), Inv X h μ s → RVs h (Im X h μ s) μ s e a.tmps.toList →
    ∃ cv, (∀ w : World, (isLd o.op = true → HX X μ wr h w.heap) → (execOp a.eval o).run P w = .ok (.value cv) w) ∧ RV h (Im X h μ s) μ s v cv

theorem OpQ.ok {o : Oper} {e : Env} {wr : List Nat} {v : AV} (hq : OpQ P o e s wr v) : OpOk P o e s [] v s :=
  OpOk.of fun X μ w a inv he => by
    obtain ⟨cv, h1, h2⟩ := hq X w.heap μ a inv he
    exact ⟨cv, w, μ, h1 w (fun _ _ _ _ _ => rfl), inv, h2, Ext.refl _ _ _ _, fun _ _ _ => rfl, Calm.refl w, fun _ _ => rfl⟩

theorem op_move {o : Oper} {e : Env} {x : Operand} (ho : o.op = .move x) : OpQ P o e s wr (ev e x) :=
  fun X h μ a inv he => ⟨_, fun w _ => by simp [execOp, ho], ev_rv he x⟩

theorem op_assign {o : Oper} {e : Env} {x : Operand} (ho : o.op = .assign x) : OpQ P o e s wr (ev e x) :=
  fun X h μ a inv he => ⟨_, fun w _ => by simp [execOp, ho], ev_rv he x⟩

theorem op_pick {o : Oper} {e : Env} {c x y : Operand} {t : Bool} (ho : o.op = .pick c x y) (hc : ev e c = .bool t) : OpQ P o e s wr (ev e (if t then x else y)) :=
  fun X h μ a inv he => by
    have h1 := ev_rv he c
    rw [hc] at h1
    simp only [RV] at h1
    refine ⟨_, ?_, ev_rv he _⟩
    intro w _
    cases t <;> simp [execOp, ho, h1, asBool]

theorem op_alloc {o : Oper} {e : Env} {t : TypeId} {ag : Bool} {T : Ty} (ho : o.op = .alloc t) (ht : TyOk1 P T t ag) : OpOk P o e s [] (.bp s.length 0) (s ++ [.box T.zcells]) :=
  OpOk.push fun X μ w a inv he => by
    obtain ⟨i1, e1, v1⟩ := new_box inv (Ext.refl _ _ _ _) T.zcells (zval ag T).cells t (by rw [zval_cells ht]; exact zcells_rv T)
    refine ⟨_, { w with heap := w.heap.push (.cells (zval ag T).cells t (0, 0)) }, _, _, ?_, rfl, ⟨rfl, rfl, rfl⟩, i1, v1 _, e1, keep_app inv⟩
    simp [execOp, ho, Instr.alloc, run_zeroValue ht.info, newVar, newRow]

theorem op_alloc1 {o : Oper} {e : Env} {t : TypeId} (ho : o.op = .alloc t) (ht : OneOk P t) : OpOk P o e s [] (.bp s.length 0) (s ++ [.box [.dead]]) :=
  OpOk.push fun X μ w a inv he => by
    obtain ⟨_, _, z, hz, hzv⟩ := ht
    obtain ⟨i1, e1, v1⟩ := new_box inv (Ext.refl _ _ _ _) [.dead] z.cells t (by rw [hz]; simp only [RVs, RV]; exact ⟨z, [], rfl, trivial, rfl⟩)
    refine ⟨_, { w with heap := w.heap.push (.cells z.cells t (0, 0)) }, _, _, ?_, rfl, ⟨rfl, rfl, rfl⟩, i1, v1 _, e1, keep_app inv⟩
    simp [execOp, ho, Instr.alloc, hzv, newVar, newRow]

theorem op_box {o : Oper} {e : Env} {t : TypeId} {x : Operand} {cs : List AV} (ho : o.op = .box t x) (hc : (ev e x).cells? = some cs) : OpOk P o e s [] (.bp s.length 0) (s ++ [.box cs]) :=
  OpOk.push fun X μ w a inv he => by
    obtain ⟨i1, e1, v1⟩ := new_box inv (Ext.refl _ _ _ _) cs (a.eval x).cells t (cells?_rv hc (ev_rv he x)).1
    refine ⟨_, { w with heap := w.heap.push (.cells (a.eval x).cells t (0, 0)) }, _, _, ?_, rfl, ⟨rfl, rfl, rfl⟩, i1, v1 _, e1, keep_app inv⟩
    simp [execOp, ho, Instr.box, newVar, newRow]

/-- An address whose block is none of these regions'. -/
def farFrom (wr : List Nat) : AV → Bool
  | .bp b _ => (idx b wr).isNone
  | .ep r _ _ => (idx r wr).isNone
  | .ip _ _ _ => true
  | _ => false

theorem far_notOf (inv : Inv X h μ s) {x : AV} {b o' n : Nat} {cs : List AV} (hf : farFrom wr x = true) (hl : loadCs s x n = some cs) (hv : RV h (Im X h μ s) μ s x (.pointer (some ⟨b, o', none⟩)))
    (hw : ∀ r ∈ wr, r < s.length → (getR s r).live = true) : NotOf μ wr b := by
  intro r hr sl hsl hb
  have hlive := hw r hr (by have := (List.getElem?_eq_some_iff.1 hsl).1; rw [inv.len] at this; exact this)
  have hne : ∀ q, idx q wr = none → q ≠ r := fun q hq e => idx_none hq (e ▸ hr)
  cases x with
  | bp q off =>
    simp only [farFrom, Option.isNone_iff_eq_none] at hf
    simp only [RV] at hv
    obtain ⟨sl', h1, h2⟩ := hv
    cases hg : getR s q with
    | box l =>
      rw [hg] at h2
      obtain ⟨k, hk, e⟩ := h2
      cases e
      exact inv.dis q r sl' sl _ (hne q hf) h1 hsl (by rw [hg]; rfl) hlive hk hb
    | _ => rw [hg] at h2; exact h2
  | ep q i off =>
    simp only [farFrom, Option.isNone_iff_eq_none] at hf
    simp only [RV] at hv
    obtain ⟨sl', h1, h2⟩ := hv
    cases hg : getR s q with
    | arr el xs =>
      rw [hg] at h2
      obtain ⟨_, k, hk, e⟩ := h2
      cases e
      exact inv.dis q r sl' sl _ (hne q hf) h1 hsl (by rw [hg]; rfl) hlive hk hb
    | box _ => simp [loadCs, hg] at hl
    | frz _ _ => simp [loadCs, hg] at hl
    | gone => simp [loadCs, hg] at hl
  | ip T y off =>
    simp only [RV] at hv
    obtain ⟨b', o2, cs', hb', _, _, e⟩ := hv
    cases e
    exact hb'.2.2 r sl hsl hlive hb
  | _ => simp [farFrom] at hf

theorem load_notX (inv : Inv X h μ s) {x : AV} {b o' n : Nat} {cs : List AV} (hl : loadCs s x n = some cs) (hv : RV h (Im X h μ s) μ s x (.pointer (some ⟨b, o', none⟩))) : ¬ X b := by
  cases x with
  | bp q off =>
    simp only [RV] at hv
    obtain ⟨sl', h1, h2⟩ := hv
    cases hg : getR s q with
    | box l =>
      rw [hg] at h2
      obtain ⟨k, hk, e⟩ := h2
      cases e
      exact inv.notX q sl' _ h1 (by rw [hg]; rfl) hk
    | _ => rw [hg] at h2; exact h2.elim
  | ep q i off =>
    simp only [RV] at hv
    obtain ⟨sl', h1, h2⟩ := hv
    cases hg : getR s q with
    | arr el xs =>
      rw [hg] at h2
      obtain ⟨_, k, hk, e⟩ := h2
      cases e
      exact inv.notX q sl' _ h1 (by rw [hg]; rfl) hk
    | box _ => simp [loadCs, hg] at hl
    | frz _ _ => simp [loadCs, hg] at hl
    | gone => simp [loadCs, hg] at hl
  | ip T y off =>
    simp only [RV] at hv
    obtain ⟨b', o2, cs', hb', _, _, e⟩ := hv
    cases e
    exact hb'.2.1
  | _ => simp [loadCs] at hl

theorem op_load {o : Oper} {e : Env} {t : TypeId} {x : Operand} {ag : Bool} {T : Ty} {cs : List AV} {v : AV} (ho : o.op = .load t x) (ht : TyOk1 P T t ag) (hl : loadCs s (ev e x) T.size = some cs)
    (hv : ofCells ag cs = some v) (hf : wr = [] ∨ (farFrom wr (ev e x) = true ∧ ∀ r ∈ wr, r < s.length → (getR s r).live = true)) : OpQ P o e s wr v :=
  fun X h μ a inv he => by
    have h0 := ev_rv he x
    obtain ⟨b, o', c, el, fr, vs, h1, h2, h3, h4, h5⟩ := loadCs_sound inv hl h0
    have hnot : NotOf μ wr b := by
      rcases hf with rfl | ⟨hf, hw⟩
      · intro r hr; simp at hr
      · rw [h1] at h0
        exact far_notOf inv hf hl h0 hw
    have hbl : b < h.size := by
      rcases Nat.lt_or_ge b h.size with h' | h'
      · exact h'
      · rw [Array.getElem?_eq_none h'] at h2; cases h2
    -- the value, by the world that has this heap
    obtain ⟨cv, h6, h7⟩ := run_loadVar_at (w := { (default : World) with heap := h }) ht h2 h3 h5 h4 hv
    refine ⟨cv, fun w hw => ?_, h7⟩
    have h2' : w.heap[b]? = some (.cells c el fr) := (hw (by rw [ho]; rfl) b hbl (load_notX inv hl (h1 ▸ h0)) hnot).trans h2
    have h6' : (loadVar t ⟨b, o', none⟩).run P w = .ok cv w := by
      obtain ⟨cv', g1, g2⟩ := run_loadVar_at (w := w) ht h2' h3 h5 h4 hv
      have e1 : cv' = cv := by
        have k1 : ∀ w' : World, w'.heap[b]? = some (.cells c el fr) → (loadVar t ⟨b, o', none⟩).run P w' = .ok (if ag = true then .agg vs.toArray else vs.headD undef) w' := by
          intro w' hw'
          unfold loadVar
          cases ag with
          | true =>
            have := run_loadCells_at (P := P) hw' h5
            rw [h3] at this
            simp [run_isAgg ht, run_sizeOf ht.info, this]
          | false =>
            cases cs with
            | nil => simp [ofCells] at hv
            | cons y l =>
              cases l with
              | cons z l => simp [ofCells] at hv
              | nil =>
                simp only [RVs] at h4
                obtain ⟨u, r, rfl, _, rfl⟩ := h4
                have := h5 0 u (by simp)
                simp only [Nat.add_zero] at this
                simp [run_isAgg ht, cell_of hw', this]
        have e2 := (k1 w h2').symm.trans g1
        have e3 := (k1 _ h2).symm.trans h6
        simp only [Result.ok.injEq] at e2 e3
        exact e2.1.symm.trans e3.1
      rw [← e1]; exact g1
    simp [execOp, ho, h1, Instr.loadAt, Instr.sureAddr, h6']

theorem op_store_of {o : Oper} {e : Env} {t : TypeId} {x y : Operand} {n : Nat} {cs : List AV} {s' : St} (ho : o.op = .store t x y) (ht : ∀ w : World, (sizeOf t).run P w = .ok n w) (hc : (ev e y).cells? = some cs) (hl : cs.length = n)
    (hs : storeCs s (ev e x) cs = some s') : OpOk P o e s (ev e x).refs .dead s' := by
  intro X μ w a inv he next Q hn
  obtain ⟨g1, g2⟩ := cells?_rv hc (ev_rv he y)
  obtain ⟨b, o', c, el, fr, h1, h2, h3, h4, h5⟩ := storeCs_sound inv hs (ev_rv he x) g1
  obtain ⟨p1, p2, c', p3, p4⟩ := setCells_heap b el fr (a.eval y).cells.toList o' w c h2 (by simpa using h4)
  obtain ⟨i1, e1⟩ := h5 _ c' p1 p2 p3 p4
  have hlen := RVs_length _ _ g1
  have hsz : (a.eval y).cells.size = n := by rw [← hl, ← hlen]; simp
  refine wp_skip' (w' := w.setCells b o' (a.eval y).cells.toList) ?_ (hn undef _ μ i1 (by simp only [RV]) e1 (fun b' hb' hno => p2 b' ?_) (calm_setCells _ _ _ _) (fun _ _ _ => rfl))
  case refine_2 =>
    intro e0
    subst e0
    have g0 := ev_rv he x
    rw [h1] at g0
    revert hs g0 hno
    cases ev e x with
    | bp q off =>
      intro hs hno g0
      simp only [RV] at g0
      obtain ⟨sl, k1, k2⟩ := g0
      cases hg : getR s q with
      | box l =>
        rw [hg] at k2
        obtain ⟨k, hk, e2⟩ := k2
        cases e2
        exact hno q (by simp [AV.refs]) sl k1 hk
      | _ => rw [hg] at k2; exact k2
    | ep q i off =>
      intro hs hno g0
      simp only [RV] at g0
      obtain ⟨sl, k1, k2⟩ := g0
      cases hg : getR s q with
      | arr el xs =>
        rw [hg] at k2
        obtain ⟨_, k, hk, e2⟩ := k2
        cases e2
        exact hno q (by simp [AV.refs]) sl k1 hk
      | box _ => simp [storeCs, hg] at hs
      | frz _ _ => simp [storeCs, hg] at hs
      | gone => simp [storeCs, hg] at hs
    | _ => intro hs; simp [storeCs] at hs
  have := storeCells_run (P := P) h2 h3 h4 (okCells_one g2 g1)
  simp [execOp, ho, h1, Instr.storeAt, Instr.sureAddr, storeVar, ht, hsz, this]

theorem op_store {o : Oper} {e : Env} {t : TypeId} {x y : Operand} {ag : Bool} {T : Ty} {cs : List AV} {s' : St} (ho : o.op = .store t x y) (ht : TyOk1 P T t ag) (hc : (ev e y).cells? = some cs) (hl : cs.length = T.size)
    (hs : storeCs s (ev e x) cs = some s') : OpOk P o e s (ev e x).refs .dead s' :=
  op_store_of ho (run_sizeOf ht.info) hc hl hs

theorem op_load1 {o : Oper} {e : Env} {t : TypeId} {x : Operand} {v : AV} (ho : o.op = .load t x) (ht : OneOk P t) (hl : loadCs s (ev e x) 1 = some [v])
    (hf : wr = [] ∨ (farFrom wr (ev e x) = true ∧ ∀ r ∈ wr, r < s.length → (getR s r).live = true)) : OpQ P o e s wr v :=
  fun X h μ a inv he => by
    have h0 := ev_rv he x
    obtain ⟨b, o', c, el, fr, vs, h1, h2, h3, h4, h5⟩ := loadCs_sound inv hl h0
    have hnot : NotOf μ wr b := by
      rcases hf with rfl | ⟨hf, hw⟩
      · intro r hr; simp at hr
      · rw [h1] at h0
        exact far_notOf inv hf hl h0 hw
    have hbl : b < h.size := by
      rcases Nat.lt_or_ge b h.size with h' | h'
      · exact h'
      · rw [Array.getElem?_eq_none h'] at h2; cases h2
    simp only [RVs] at h4
    obtain ⟨u, r, rfl, h6, rfl⟩ := h4
    refine ⟨u, fun w hw => ?_, h6⟩
    have h2' : w.heap[b]? = some (.cells c el fr) := (hw (by rw [ho]; rfl) b hbl (load_notX inv hl (h1 ▸ h0)) hnot).trans h2
    have h7 := h5 0 u (by simp)
    simp only [Nat.add_zero] at h7
    have h8 : (loadVar t ⟨b, o', none⟩).run P w = .ok u w := by
      unfold loadVar
      simp [ht.1, cell_of h2', h7]
    simp [execOp, ho, h1, Instr.loadAt, Instr.sureAddr, h8]

theorem op_store1 {o : Oper} {e : Env} {t : TypeId} {x y : Operand} {c : AV} {s' : St} (ho : o.op = .store t x y) (ht : OneOk P t) (hc : (ev e y).cells? = some [c])
    (hs : storeCs s (ev e x) [c] = some s') : OpOk P o e s (ev e x).refs .dead s' :=
  op_store_of (n := 1) ho ht.2.1 hc rfl hs

theorem op_nilCheck {o : Oper} {e : Env} {x : Operand} {v : AV} (ho : o.op = .nilCheck x) (hv : ev e x = v)
    (hok : (∃ b off, v = .bp b off) ∨ (∃ r i off el xs, v = .ep r i off ∧ getR s r = .arr el xs) ∨ (∃ T x off, v = .ip T x off) ∨ ∃ f c, v = .fn f c) : OpQ P o e s wr v :=
  fun X h μ a inv he => by
    have h1 := ev_rv he x
    rw [hv] at h1
    refine ⟨a.eval x, fun w _ => ?_, h1⟩
    rcases hok with ⟨b, off, rfl⟩ | ⟨r, i, off, el, xs, rfl, hg⟩ | ⟨T, y, off, rfl⟩ | ⟨f, c, rfl⟩
    · simp only [RV] at h1
      obtain ⟨sl, _, h2⟩ := h1
      revert h2
      cases getR s b with
      | box _ => rintro ⟨k, _, h2⟩; simp [execOp, ho, h2]
      | arr _ _ => exact False.elim
      | frz _ _ => exact False.elim
      | gone => exact False.elim
    · simp only [RV] at h1
      obtain ⟨sl, _, h2⟩ := h1
      rw [hg] at h2
      obtain ⟨_, k, _, h2⟩ := h2
      simp [execOp, ho, h2]
    · simp only [RV] at h1
      obtain ⟨b, o', cs, _, _, _, h2⟩ := h1
      simp [execOp, ho, h2]
    · simp only [RV] at h1
      obtain ⟨vs, h2, _⟩ := h1
      simp [execOp, ho, h2]

theorem op_unOp {o : Oper} {e : Env} {op : UnOp} {t : TypeId} {x : Operand} {v : AV} (ho : o.op = .unOp op t x)
    (hv : (∃ b, op = .not ∧ ev e x = .bool b ∧ v = .bool !b) ∨ ∃ k n, op = .neg ∧ ev e x = .int k n ∧ v = .int k (k.wrap (0 - n))) : OpQ P o e s wr v :=
  fun X h μ a inv he => by
    have h1 := ev_rv he x
    rcases hv with ⟨b, rfl, h2, rfl⟩ | ⟨k, n, rfl, h2, rfl⟩
    · rw [h2] at h1
      simp only [RV] at h1
      exact ⟨.bool !b, fun w _ => by simp [execOp, ho, h1, Op.unary], by simp only [RV]⟩
    · rw [h2] at h1
      simp only [RV] at h1
      exact ⟨.int k (k.wrap (0 - n)), fun w _ => by simp [execOp, ho, h1, Op.unary, Op.intArith], by simp only [RV]⟩

theorem op_makeFunc {o : Oper} {e : Env} {f : Nat} {first caps : Array Operand} (ho : o.op = .makeFunc (.func f) first caps) (hf : first.toList = []) : OpQ P o e s wr (.fn f (evs e caps.toList)) :=
  fun X h μ a inv he => by
    have hf' : first = #[] := by cases first; simp at hf; rw [hf]
    refine ⟨.func (.func f) #[] (caps.map a.eval), fun w _ => by simp [execOp, ho, Instr.makeFunc, hf'], ?_⟩
    simp only [RV]
    exact ⟨_, rfl, by simpa using evs_rv he caps.toList⟩

theorem op_fieldAddr {o : Oper} {e : Env} {t : TypeId} {x : Operand} {f off : Nat} {ag : Bool} {T : Ty} {v : AV} (ho : o.op = .fieldAddr t x f) (hf : FldOk P t f off ag T)
    (hv : (∃ b p, ev e x = .bp b p ∧ v = .bp b (p + off)) ∨ (∃ r i p el xs, ev e x = .ep r i p ∧ getR s r = .arr el xs ∧ v = .ep r i (p + off)) ∨ ∃ S y p, ev e x = .ip S y p ∧ v = .ip S y (p + off)) : OpQ P o e s wr v :=
  fun X h μ a inv he => by
    have h1 := ev_rv he x
    obtain ⟨fs, fd, hu, hfd, rfl, hti⟩ := hf
    have hsz : ¬ T.size = 0 := by have := T.size_pos; omega
    have hrun : ∀ b p, a.eval x = .pointer (some ⟨b, p, none⟩) → ∀ w : World, (isLd o.op = true → HX X μ wr h w.heap) → (execOp a.eval o).run P w = .ok (.value (.pointer (some ⟨b, p + fd.offset, none⟩))) w := by
      intro b p hp w _
      simp [execOp, ho, hp, Instr.fieldAt, run_underlying hu, hfd, Instr.sureAddr, fieldPlace, run_sizeOf hti.info, hsz, addr_add]
    rcases hv with ⟨b, p, h2, rfl⟩ | ⟨r, i, p, el, xs, h2, hg, rfl⟩ | ⟨S, y, p, h2, rfl⟩
    · rw [h2] at h1
      simp only [RV] at h1
      obtain ⟨sl, hsl, h3⟩ := h1
      cases hg : getR s b with
      | box cs =>
        rw [hg] at h3
        obtain ⟨k, hk, h4⟩ := h3
        refine ⟨_, hrun _ _ h4, ?_⟩
        simp only [RV]
        exact ⟨sl, hsl, by rw [hg]; exact ⟨k, hk, rfl⟩⟩
      | arr _ _ => rw [hg] at h3; exact h3.elim
      | frz _ _ => rw [hg] at h3; exact h3.elim
      | gone => rw [hg] at h3; exact h3.elim
    · rw [h2] at h1
      simp only [RV] at h1
      obtain ⟨sl, hsl, h3⟩ := h1
      rw [hg] at h3
      obtain ⟨hi, k, hk, h4⟩ := h3
      refine ⟨_, hrun _ _ h4, ?_⟩
      simp only [RV]
      exact ⟨sl, hsl, by rw [hg]; exact ⟨hi, k, hk, by rw [Nat.add_assoc]⟩⟩
    · rw [h2] at h1
      simp only [RV] at h1
      obtain ⟨b, o', cs, g1, g2, g3, h4⟩ := h1
      refine ⟨_, hrun _ _ h4, ?_⟩
      simp only [RV]
      exact ⟨b, o', cs, g1, g2, g3, by rw [Nat.add_assoc]⟩

theorem op_field {o : Oper} {e : Env} {t : TypeId} {x : Operand} {f off : Nat} {ag : Bool} {T : Ty} {cs c : List AV} {v : AV} (ho : o.op = .field t x f) (hf : FldOk P t f off ag T)
    (hx : ev e x = .agg cs) (hc : cut off T.size cs = some c) (hv : ofCells ag c = some v) : OpQ P o e s wr v :=
  fun X h μ a inv he => by
    have h1 := ev_rv he x
    rw [hx] at h1
    simp only [RV] at h1
    obtain ⟨vs, h2, h3⟩ := h1
    obtain ⟨g1, g2⟩ := cut_rv hc h3
    obtain ⟨fs, fd, hu, hfd, rfl, hti⟩ := hf
    cases ag with
    | true =>
      simp only [ofCells, Option.some.injEq] at hv
      subst hv
      refine ⟨.agg (vs.extract fd.offset (fd.offset + T.size)), fun w _ => ?_, ?_⟩
      · simp [execOp, ho, h2, Instr.field, run_underlying hu, hfd, asAgg, part, run_isAgg hti, run_sizeOf hti.info]
      · simp only [RV]
        refine ⟨_, rfl, ?_⟩
        rw [Array.toList_extract]
        have : List.extract vs.toList fd.offset (fd.offset + T.size) = (vs.toList.drop fd.offset).take T.size := by
          simp [List.extract_eq_take_drop]
        rw [this]; exact g1
    | false =>
      cases c with
      | nil => simp [ofCells] at hv
      | cons y l =>
        cases l with
        | cons z l => simp [ofCells] at hv
        | nil =>
          simp only [ofCells, Option.some.injEq] at hv
          subst hv
          simp only [RVs] at g1
          obtain ⟨u, r, e1, h4, rfl⟩ := g1
          have h5 : vs[fd.offset]? = some u := by
            have := seg_get vs.toList fd.offset T.size 0 u (by rw [e1]; rfl)
            simpa using this
          exact ⟨u, fun w _ => by simp [execOp, ho, h2, Instr.field, run_underlying hu, hfd, asAgg, part, run_isAgg hti, h5], h4⟩

theorem op_extract {o : Oper} {e : Env} {x : Operand} {i : Nat} {vs : List AV} (ho : o.op = .extract x i) (hx : ev e x = .tup vs) (hi : i < vs.length) : OpQ P o e s wr (getE vs i) :=
  fun X h μ a inv he => by
    have h1 := ev_rv he x
    rw [hx] at h1
    simp only [RV] at h1
    obtain ⟨us, h2, h3⟩ := h1
    have hl := RVs_length _ _ h3
    have hi' : i < us.size := by simp at hl; omega
    have h4 : us[i]? = some us[i] := Array.getElem?_eq_getElem hi'
    refine ⟨us[i], fun w _ => by simp [execOp, ho, h2, Instr.extract, h4], ?_⟩
    exact RVs_get _ _ h3 i _ (by simp [hi'])

end
end Go.VE
