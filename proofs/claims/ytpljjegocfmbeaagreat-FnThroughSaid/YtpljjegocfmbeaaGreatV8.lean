/- The program's types; cells that are read and written. -/
import Derived.Test.YtpljjegocfmbeaaGreatV7
import Derived.Laws.Cells
import Derived.Laws.IdiomCopy
import Derived.Laws.Append
import Derived.Laws.BytesString
namespace Go.VE
set_option linter.unusedVariables false
set_option linter.unusedSimpArgs false

def Ty.zv : Ty → List Value
  | .int k => [.int k 0]
  | .bool => [.bool false]
  | .str => [.string ⟨#[]⟩]
  | .pair a b => a.zv ++ b.zv
  | .slice _ => [.slice none 0 0]

def zval : Bool → Ty → Value
  | true, T => .agg T.zv.toArray
  | false, T => T.zv.headD undef

def InfoOk (P : Program) (t : TypeId) (ag : Bool) (T : Ty) : Prop :=
  ∃ i, P.info? t = some i ∧ i.size = T.size ∧ i.bytes ≤ 16384 ∧ i.zero = some (zval ag T)

def TyOk (P : Program) : Ty → TypeId → Bool → Prop
  | .int k, t, ag => InfoOk P t ag (.int k) ∧ ag = false ∧ P.underlying t = some (.int k)
  | .bool, t, ag => InfoOk P t ag .bool ∧ ag = false ∧ P.underlying t = some .bool
  | .str, t, ag => InfoOk P t ag .str ∧ ag = false ∧ P.underlying t = some .string
  | .pair a b, t, ag => InfoOk P t ag (.pair a b) ∧ ag = true ∧ ∃ fs, P.underlying t = some (.struct fs)
  | .slice e, t, ag => InfoOk P t ag (.slice e) ∧ ag = false ∧ ∃ te ag', P.underlying t = some (.slice te) ∧ TyOk P e te ag'

/-- A struct of one field is told as its field's kind, beside 'true'. -/
def TyOk1 (P : Program) (T : Ty) (t : TypeId) (ag : Bool) : Prop :=
  TyOk P T t ag ∨ (ag = true ∧ InfoOk P t true T ∧ ∃ fs, P.underlying t = some (.struct fs))

def FldOk (P : Program) (t f off : Nat) (ag : Bool) (T : Ty) : Prop :=
  ∃ fs fd, P.underlying t = some (.struct fs) ∧ fs[f]? = some fd ∧ fd.offset = off ∧ TyOk1 P T fd.type ag

structure TysOk (P : Program) (G : Glob) : Prop where
  ty : ∀ t ag T, G.ty t = some (ag, T) → TyOk1 P T t ag
  fld : ∀ t f off ag T, G.fld t f = some (off, ag, T) → FldOk P t f off ag T
  bld : ∀ t T, G.ty t = some (true, T) → ∃ fs : Array Field, P.underlying t = some (.struct fs) ∧ ∀ i fd, fs[i]? = some fd → ∃ off ag T', G.fld t i = some (off, ag, T')

section
variable {P : Program} {T : Ty} {t : TypeId} {ag : Bool}

theorem TyOk.info : ∀ {T : Ty} {t : TypeId} {ag : Bool}, TyOk P T t ag → InfoOk P t ag T
  | .int _, _, _, h => h.1
  | .bool, _, _, h => h.1
  | .str, _, _, h => h.1
  | .pair _ _, _, _, h => h.1
  | .slice _, _, _, h => h.1

theorem TyOk1.info (h : TyOk1 P T t ag) : InfoOk P t ag T := by
  rcases h with h | ⟨rfl, h, _⟩
  · exact h.info
  · exact h

theorem run_sizeOf (h : InfoOk P t ag T) (w : World) : (sizeOf t).run P w = .ok T.size w := by
  obtain ⟨i, h1, h2, _⟩ := h
  simp [sizeOf, typeInfo, h1, h2]

theorem run_zeroValue (h : InfoOk P t ag T) (w : World) : (zeroValue t).run P w = .ok (zval ag T) w := by
  obtain ⟨i, h1, h2, _, h3⟩ := h
  simp [zeroValue, typeInfo, h1, h3]

theorem run_isAgg (h : TyOk1 P T t ag) (w : World) : (isAgg t).run P w = .ok ag w := by
  rcases h with h | ⟨rfl, _, fs, hu⟩
  · cases T with
    | int k => obtain ⟨_, rfl, hu⟩ := h; simp [isAgg, run_underlying hu]
    | bool => obtain ⟨_, rfl, hu⟩ := h; simp [isAgg, run_underlying hu]
    | str => obtain ⟨_, rfl, hu⟩ := h; simp [isAgg, run_underlying hu]
    | pair a b => obtain ⟨_, rfl, fs, hu⟩ := h; simp [isAgg, run_underlying hu]
    | slice e => obtain ⟨_, rfl, te, ag', hu, _⟩ := h; simp [isAgg, run_underlying hu]
  · simp [isAgg, run_underlying hu]

theorem TyOk1.under (h : TyOk1 P T t ag) : ∃ d, P.underlying t = some d := by
  rcases h with h | ⟨rfl, _, fs, hu⟩
  · cases T with
    | int k => exact ⟨_, h.2.2⟩
    | bool => exact ⟨_, h.2.2⟩
    | str => exact ⟨_, h.2.2⟩
    | pair a b => obtain ⟨_, rfl, fs, hu⟩ := h; exact ⟨_, hu⟩
    | slice e => obtain ⟨_, rfl, te, ag', hu, _⟩ := h; exact ⟨_, hu⟩
  · exact ⟨_, hu⟩

theorem zv_length : ∀ T : Ty, T.zv.length = T.size
  | .int _ => rfl
  | .bool => rfl
  | .str => rfl
  | .pair a b => by simp [Ty.zv, Ty.size, zv_length a, zv_length b]
  | .slice _ => rfl

theorem zval_cells (h : TyOk1 P T t ag) : (zval ag T).cells.toList = T.zv := by
  rcases h with h | ⟨rfl, _, _⟩
  · cases T with
    | int k => obtain ⟨_, rfl, _⟩ := h; rfl
    | bool => obtain ⟨_, rfl, _⟩ := h; rfl
    | str => obtain ⟨_, rfl, _⟩ := h; rfl
    | pair a b => obtain ⟨_, rfl, _⟩ := h; simp [zval, Value.cells]
    | slice e => obtain ⟨_, rfl, _⟩ := h; rfl
  · simp [zval, Value.cells]

end

section
variable {X : Nat → Prop} {μ : List Slot} {s : St} {h : Heap} {I : Nat → Prop}

theorem zcells_rv : ∀ T : Ty, RVs h I μ s T.zcells T.zv
  | .int _ => by simp only [Ty.zcells, Ty.zv, RVs, RV]; exact ⟨_, [], rfl, rfl, rfl⟩
  | .bool => by simp only [Ty.zcells, Ty.zv, RVs, RV]; exact ⟨_, [], rfl, rfl, rfl⟩
  | .str => by simp only [Ty.zcells, Ty.zv, RVs, RV]; exact ⟨_, [], rfl, rfl, rfl⟩
  | .pair a b => RVs_append _ _ _ _ (zcells_rv a) (zcells_rv b)
  | .slice _ => by simp only [Ty.zcells, Ty.zv, RVs, RV]; exact ⟨_, [], rfl, ⟨none, rfl⟩, rfl⟩

theorem zcells_length : ∀ T : Ty, T.zcells.length = T.size
  | .int _ => rfl
  | .bool => rfl
  | .str => rfl
  | .pair a b => by simp [Ty.zcells, Ty.size, zcells_length a, zcells_length b]
  | .slice _ => rfl

theorem zero_rep : ∀ T : Ty, Rep h I T T.zv T.zero
  | .int _ => rfl
  | .bool => rfl
  | .str => rfl
  | .pair a b => ⟨a.zv, b.zv, rfl, zero_rep a, zero_rep b⟩
  | .slice _ => ⟨none, 0, rfl, Nat.le_refl _, .inl rfl⟩

theorem Rep.one {h : Heap} {I : Nat → Prop} : ∀ (T : Ty) (cs : List Value) (x : T.D), Rep h I T cs x → ∀ v ∈ cs, v.oneCell' = true
  | .int _, _, _, hr, v, hv => by rw [show _ = _ from hr] at hv; simp at hv; subst hv; rfl
  | .bool, _, _, hr, v, hv => by rw [show _ = _ from hr] at hv; simp at hv; subst hv; rfl
  | .str, _, _, hr, v, hv => by rw [show _ = _ from hr] at hv; simp at hv; subst hv; rfl
  | .pair a b, _, _, ⟨c, d, e, h1, h2⟩, v, hv => by
    rw [e, List.mem_append] at hv
    rcases hv with hv | hv
    · exact Rep.one a c _ h1 v hv
    · exact Rep.one b d _ h2 v hv
  | .slice _, _, _, ⟨_, _, e, _⟩, v, hv => by rw [e] at hv; simp at hv; subst hv; rfl

theorem okCell_one : ∀ {a : AV} {v : Value}, a.okCell = true → RV h I μ s a v → v.oneCell' = true := by
  intro a v ha hv
  cases a with
  | int k n => simp only [RV] at hv; subst hv; rfl
  | bool b => simp only [RV] at hv; subst hv; rfl
  | str t => simp only [RV] at hv; subst hv; rfl
  | lst e xs => simp only [RV] at hv; exact Rep.one _ _ _ hv v (by simp)
  | nilS => simp only [RV] at hv; obtain ⟨a, rfl⟩ := hv; rfl
  | own r =>
    simp only [RV] at hv
    obtain ⟨sl, _, h2⟩ := hv
    revert h2
    cases getR s r with
    | box _ => exact False.elim
    | arr _ _ => rintro ⟨a, rfl, _⟩; rfl
    | frz e xs => intro h2; exact Rep.one _ _ _ h2 v (by simp)
    | gone => exact id
  | bp b off =>
    simp only [RV] at hv
    obtain ⟨sl, _, h2⟩ := hv
    revert h2
    cases getR s b with
    | box _ => rintro ⟨k, _, rfl⟩; rfl
    | arr _ _ => exact False.elim
    | frz e xs => exact False.elim
    | gone => exact False.elim
  | ep r i off =>
    simp only [RV] at hv
    obtain ⟨sl, _, h2⟩ := hv
    revert h2
    cases getR s r with
    | box _ => exact False.elim
    | arr _ _ => rintro ⟨_, k, _, rfl⟩; rfl
    | frz e xs => exact id
    | gone => exact id
  | win r lo =>
    simp only [RV] at hv
    obtain ⟨sl, _, h2⟩ := hv
    revert h2
    cases getR s r with
    | box _ => exact False.elim
    | arr _ _ => rintro ⟨_, a, rfl, _⟩; rfl
    | frz e xs => exact id
    | gone => exact id
  | ip T x off => simp only [RV] at hv; obtain ⟨b, o, cs, _, _, _, rfl⟩ := hv; rfl
  | fn f caps => simp only [RV] at hv; obtain ⟨vs, rfl, _⟩ := hv; rfl
  | agg cs => simp [AV.okCell] at ha
  | tup cs => simp [AV.okCell] at ha
  | dead => simp [AV.okCell] at ha

theorem okCells_one : ∀ {as : List AV} {vs : List Value}, okCells as = true → RVs h I μ s as vs → ∀ v ∈ vs, v.oneCell' = true
  | [], vs, _, hv, v, hm => by simp only [RVs] at hv; subst hv; simp at hm
  | a :: as, vs, ha, hv, v, hm => by
    simp only [okCells, Bool.and_eq_true] at ha
    simp only [RVs] at hv
    obtain ⟨u, r, rfl, h1, h2⟩ := hv
    simp only [List.mem_cons] at hm
    rcases hm with rfl | hm
    · exact okCell_one ha.1 h1
    · exact okCells_one ha.2 h2 v hm

theorem cells?_rv {a : AV} {cs : List AV} {v : Value} (ha : a.cells? = some cs) (hv : RV h I μ s a v) : RVs h I μ s cs v.cells.toList ∧ okCells cs = true := by
  have key : a.okCell = true → cs = [a] → RVs h I μ s cs v.cells.toList ∧ okCells cs = true := by
    intro hok e
    have h1 := okCell_one hok hv
    subst e
    refine ⟨?_, by simp [okCells, hok]⟩
    have : v.cells = #[v] := by cases v <;> first | rfl | (simp [Value.oneCell'] at h1)
    rw [this]
    simp only [RVs]
    exact ⟨v, [], rfl, hv, rfl⟩
  cases a with
  | agg l =>
    simp only [AV.cells?] at ha
    cases ho : okCells l with
    | true =>
      rw [ho] at ha; cases ha
      simp only [RV] at hv
      obtain ⟨vs, rfl, hs⟩ := hv
      exact ⟨hs, ho⟩
    | false => rw [ho] at ha; cases ha
  | tup l => simp [AV.cells?] at ha
  | dead => simp [AV.cells?] at ha
  | _ => simp only [AV.cells?, Option.some.injEq] at ha; exact key rfl ha.symm

theorem cut_rv {off n : Nat} {cs cs' : List AV} {vs : List Value} (hc : cut off n cs = some cs') (hv : RVs h I μ s cs vs) :
    RVs h I μ s cs' ((vs.drop off).take n) ∧ ((vs.drop off).take n).length = n := by
  unfold cut at hc
  split at hc
  · rename_i hle
    cases hc
    refine ⟨RVs_take _ _ _ (RVs_drop _ _ _ hv), ?_⟩
    have := RVs_length _ _ hv
    simp; omega
  · cases hc

theorem splice_rv {off : Nat} {new cs cs' : List AV} {ns vs : List Value} (hc : splice off new cs = some cs') (hn : RVs h I μ s new ns) (hv : RVs h I μ s cs vs) :
    RVs h I μ s cs' (vs.take off ++ ns ++ vs.drop (off + ns.length)) ∧ off + ns.length ≤ vs.length := by
  have l1 := RVs_length _ _ hv
  have l2 := RVs_length _ _ hn
  unfold splice at hc
  split at hc
  · rename_i hle
    cases hc
    rw [l2]
    exact ⟨RVs_append _ _ _ _ (RVs_append _ _ _ _ (RVs_take _ _ _ hv) hn) (RVs_drop _ _ _ hv), by omega⟩
  · cases hc

theorem seg_get (l : List Value) (i n j : Nat) (v : Value) (h : ((l.drop i).take n)[j]? = some v) : l[i + j]? = some v := by
  rw [List.getElem?_take] at h
  split at h
  · rwa [List.getElem?_drop] at h
  · cases h

theorem getD_get {α : Type} {xs : List α} {i : Nat} (d : α) (h : i < xs.length) : xs.getD i d = xs[i] := by
  simp [List.getD, List.getElem?_eq_getElem h]

/-- What is read behind an address. -/
theorem loadCs_sound (inv : Inv X h μ s) {a : AV} {n : Nat} {cs : List AV} {v : Value} (hl : loadCs s a n = some cs) (hv : RV h (Im X h μ s) μ s a v) :
    ∃ b o c el fr vs, v = .pointer (some ⟨b, o, none⟩) ∧ h[b]? = some (.cells c el fr) ∧ vs.length = n ∧ RVs h (Im X h μ s) μ s cs vs ∧ ∀ j u, vs[j]? = some u → c[o + j]? = some u := by
  unfold loadCs at hl
  split at hl
  · rename_i b off
    simp only [RV] at hv
    obtain ⟨sl, h1, h2⟩ := hv
    have hreg := inv.reg b sl h1
    cases hg : getR s b with
    | box l =>
      rw [hg] at hl h2 hreg
      simp only at hl
      obtain ⟨k, c, el, fr, e1, e2, e3, e4⟩ := hreg
      obtain ⟨k', e1', rfl⟩ := h2
      rw [e1] at e1'; cases e1'
      obtain ⟨g1, g2⟩ := cut_rv hl e4
      refine ⟨_, off, c, el, fr, _, rfl, e2, g2, g1, ?_⟩
      intro j u hj
      have := seg_get _ _ _ _ _ hj
      rwa [Array.getElem?_toList] at this
    | _ => rw [hg] at hl; cases hl
  · rename_i r i off
    simp only [RV] at hv
    obtain ⟨sl, h1, h2⟩ := hv
    have hreg := inv.reg r sl h1
    cases hg : getR s r with
    | arr e xs =>
      rw [hg] at hl h2 hreg
      simp only at hl
      obtain ⟨hi, k', e1', rfl⟩ := h2
      rcases hreg with ⟨h0, _⟩ | ⟨k, c, el, fr, e1, e2, e3, e4, e5, e6⟩
      · rw [h0] at e1'; cases e1'
      · rw [e1] at e1'; cases e1'
        rw [getD_get _ hi] at hl
        obtain ⟨g1, g2⟩ := cut_rv hl (cells_rv (μ := μ) (s := s) e xs[i] _ (e6 i hi))
        refine ⟨_, _, c, el, fr, _, rfl, e2, g2, g1, ?_⟩
        intro j u hj
        have h3 := seg_get _ _ _ _ _ hj
        have h4 := seg_get _ _ _ _ _ h3
        rw [Array.getElem?_toList] at h4
        rw [show i * e.size + off + j = i * e.size + (off + j) by omega]; exact h4
    | _ => rw [hg] at hl; cases hl
  · rename_i T x off
    simp only [RV] at hv
    obtain ⟨b, o, cs', hb, ⟨c, el, fr, e1, e2⟩, hx, rfl⟩ := hv
    obtain ⟨g1, g2⟩ := cut_rv hl (cells_rv (μ := μ) (s := s) T x _ hx)
    refine ⟨b, _, c, el, fr, _, rfl, e1, g2, g1, ?_⟩
    intro j u hj
    have := e2 _ _ (seg_get _ _ _ _ _ hj)
    rw [show o + off + j = o + (off + j) by omega]; exact this
  · cases hl

theorem cell_of {w : World} {b o : Nat} {c : Array Value} {el : TypeId} {fr : Nat × Nat} (hb : w.heap[b]? = some (.cells c el fr)) : w.cell? ⟨b, o, none⟩ = c[o]? := by
  simp [World.cell?, hb]

theorem addr_add (b o n : Nat) : (⟨b, o, none⟩ : Addr).add n = ⟨b, o + n, none⟩ := by
  unfold Addr.add; split <;> simp_all

theorem run_loadCells_at {P : Program} {w : World} {b o : Nat} {c : Array Value} {el : TypeId} {fr : Nat × Nat} {vs : List Value} (hb : w.heap[b]? = some (.cells c el fr))
    (hv : ∀ j u, vs[j]? = some u → c[o + j]? = some u) : (loadCells ⟨b, o, none⟩ vs.length).run P w = .ok vs.toArray w :=
  run_loadCells_list w _ vs fun j u hj => by rw [addr_add, cell_of hb]; exact hv j u hj

theorem run_loadVar_at {P : Program} {w : World} {T : Ty} {t : TypeId} {ag : Bool} {b o : Nat} {c : Array Value} {el : TypeId} {fr : Nat × Nat} {vs : List Value} {cs : List AV} {a : AV}
    (ht : TyOk1 P T t ag) (hb : w.heap[b]? = some (.cells c el fr)) (hl : vs.length = T.size) (hv : ∀ j u, vs[j]? = some u → c[o + j]? = some u)
    (hr : RVs h I μ s cs vs) (ho : ofCells ag cs = some a) : ∃ cv, (loadVar t ⟨b, o, none⟩).run P w = .ok cv w ∧ RV h I μ s a cv := by
  unfold loadVar
  cases ag with
  | true =>
    simp only [ofCells, Option.some.injEq] at ho
    subst ho
    have := run_loadCells_at (P := P) hb hv
    rw [hl] at this
    refine ⟨.agg vs.toArray, by simp [run_isAgg ht, run_sizeOf ht.info, this], ?_⟩
    simp only [RV]
    exact ⟨_, rfl, by simpa using hr⟩
  | false =>
    cases cs with
    | nil => simp [ofCells] at ho
    | cons x l =>
      cases l with
      | cons y l => simp [ofCells] at ho
      | nil =>
        simp only [ofCells, Option.some.injEq] at ho
        subst ho
        simp only [RVs] at hr
        obtain ⟨u, r, rfl, h1, rfl⟩ := hr
        have := hv 0 u (by simp)
        refine ⟨u, ?_, h1⟩
        simp only [Nat.add_zero] at this
        simp [run_isAgg ht, cell_of hb, this]

end
end Go.VE
