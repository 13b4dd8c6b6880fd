/- 'append' as a step of the state. -/
import Derived.Test.YtpljjegocfmbeaaGreatV10
namespace Go.VE
set_option linter.unusedVariables false
set_option linter.unusedSimpArgs false

section
variable {X : Nat → Prop} {μ : List Slot} {s : St} {h : Heap} {I : Nat → Prop}

theorem run_append_in {P : Program} {w : World} {e : Ty} {n m : Nat} {t t' : TypeId} {ty : TypeId} {te : TypeId} {ag' : Bool} {d : TypeDesc} {base : Option Addr} {cap : Nat} {v : Value} {ds : List Value}
    (hu : P.underlying t = some (.slice te)) (hte : TyOk P e te ag') (hu' : P.underlying t' = some d) (hd : ∀ k, d ≠ .int k)
    (hl : ∀ w : World, (Builtin.lenOf v).run P w = .ok m w) (hf : ∀ w' : World, w'.heap = w.heap → (Builtin.firstCells e.size m v).run P w' = .ok ds.toArray w')
    (hle : n + m ≤ cap) (w' : World) (hst : (match base with | some a => (storeCells (a.add (n * e.size)) ds).run P w | none => .ok () w) = .ok () w') :
    (Builtin.append_ #[t, t'] ty #[.slice base n cap, v]).run P w = .ok (.slice base (n + m) cap) w' := by
  have hso : ∀ w', (sizeOf te).run P w' = .ok e.size w' := fun w' => run_sizeOf hte.info w'
  have hnz : (match d with | .int _ => true | _ => false) = false := by cases d <;> first | rfl | exact absurd rfl (hd _)
  have hf' := hf w rfl
  unfold Builtin.append_
  simp only [List.getElem?_toArray, List.getElem?_cons_zero, List.getElem?_cons_succ, Sem.run_bind, run_underlying hu, run_underlying hu', Result.andThen_ok, hso, hnz, hl, Sem.run_pure, Bool.false_eq_true, if_false]
  rw [if_pos hle]
  cases base with
  | none =>
    simp only at hst
    cases hst
    simp [hf']
  | some a =>
    simp only at hst
    simp [hf', hst]

/-- An array of the call's own: what its value looks like. -/
theorem own_value {r : Nat} {v : Value} {e : Ty} {xs : List e.D} (hg : getR s r = .arr e xs) (hv : RV h I μ s (.own r) v) :
    ∃ sl, μ[r]? = some sl ∧ ∃ a, v = .slice a xs.length sl.cap ∧ (sl.cap = 0 ∨ ∃ k, sl.blk = some k ∧ a = some ⟨k, 0, none⟩) := by
  simp only [RV] at hv
  obtain ⟨sl, h1, h2⟩ := hv
  rw [hg] at h2
  exact ⟨sl, h1, h2⟩

theorem noFrz_new (c : Array Value) : NoFrz c (0, 0) := fun o _ => by simp

/-- A new array in a new block, behind whatever became of the state. -/
theorem new_arr {h0 : Heap} {μ0 : List Slot} {s0 : St} (inv : Inv X h μ s) (ext : Ext X h0 μ0 s0 h μ s) (e : Ty) (xs : List e.D) (c : Array Value) (el : TypeId) (fr : Nat × Nat) (cap : Nat) (hn : NoFrz c fr)
    (h1 : c.size = cap * e.size) (h2 : xs.length ≤ cap) (h3 : ∀ i (hi : i < xs.length), Rep h (Im X h μ s) e ((c.toList.drop (i * e.size)).take e.size) xs[i]) :
    Inv X (h.push (.cells c el fr)) (μ ++ [⟨some h.size, cap⟩]) (s ++ [.arr e xs]) ∧ Ext X h0 μ0 s0 (h.push (.cells c el fr)) (μ ++ [⟨some h.size, cap⟩]) (s ++ [.arr e xs]) ∧
      ∀ I', RV (h.push (.cells c el fr)) I' (μ ++ [⟨some h.size, cap⟩]) (s ++ [.arr e xs]) (.own s.length) (.slice (some ⟨h.size, 0, none⟩) xs.length cap) := by
  obtain ⟨i1, e1⟩ := alloc_step inv (.arr e xs) c el fr cap hn ⟨h1, h2, h3⟩
  refine ⟨i1, ext.trans e1, fun I' => ?_⟩
  simp only [RV]
  refine ⟨_, last_slot inv _, ?_⟩
  rw [last_get]
  exact ⟨_, rfl, .inr ⟨_, rfl, rfl⟩⟩

theorem new_box {h0 : Heap} {μ0 : List Slot} {s0 : St} (inv : Inv X h μ s) (ext : Ext X h0 μ0 s0 h μ s) (cs : List AV) (c : Array Value) (el : TypeId)
    (h1 : RVs h (Im X h μ s) μ s cs c.toList) :
    Inv X (h.push (.cells c el (0, 0))) (μ ++ [⟨some h.size, 0⟩]) (s ++ [.box cs]) ∧ Ext X h0 μ0 s0 (h.push (.cells c el (0, 0))) (μ ++ [⟨some h.size, 0⟩]) (s ++ [.box cs]) ∧
      ∀ I', RV (h.push (.cells c el (0, 0))) I' (μ ++ [⟨some h.size, 0⟩]) (s ++ [.box cs]) (.bp s.length 0) (.pointer (some ⟨h.size, 0, none⟩)) := by
  obtain ⟨i1, e1⟩ := alloc_step inv (.box cs) c el (0, 0) 0 (noFrz_new c) h1
  refine ⟨i1, ext.trans e1, fun I' => ?_⟩
  simp only [RV]
  refine ⟨_, last_slot inv _, ?_⟩
  rw [last_get]
  exact ⟨_, rfl, rfl⟩

theorem calm_setCells : ∀ (vs : List Value) (w : World) (b o : Nat), Calm w (w.setCells b o vs)
  | [], w, b, o => Calm.refl w
  | v :: r, w, b, o => by
    have h := calm_setCells r (w.setCell ⟨b, o, none⟩ v) b (o + 1)
    exact ⟨h.1.trans rfl, h.2.1.trans rfl, h.2.2.trans rfl⟩

theorem keep_app {h : Heap} {μ ν : List Slot} {s : St} (inv : Inv X h μ s) : ∀ r, r < s.length → (μ ++ ν)[r]? = μ[r]? := fun r hr =>
  List.getElem?_append_left (by rw [inv.len]; exact hr)

theorem appendA_sound {P : Program} {e : Ty} {d x : AV} {k : K1} {r : Res} {t t' ty te : TypeId} {ag' : Bool} {ds : TypeDesc}
    (hu : P.underlying t = some (.slice te)) (hte : TyOk P e te ag') (hu' : P.underlying t' = some ds) (hd : ∀ k, ds ≠ .int k) (hk : appendA s e d x k = some r) :
    ∃ s', k (.own s.length) s' = some r ∧ ∀ X μ (w : World) (dv xv : Value), Inv X w.heap μ s → RV w.heap (Im X w.heap μ s) μ s d dv → RV w.heap (Im X w.heap μ s) μ s x xv →
      ∃ cv w' μ', (Builtin.append_ #[t, t'] ty #[dv, xv]).run P w = .ok cv w' ∧ Inv X w'.heap μ' s' ∧ RV w'.heap (Im X w'.heap μ' s') μ' s' (.own s.length) cv ∧ Ext X w.heap μ s w'.heap μ' s' ∧
        (∀ b, b < w.heap.size → NotOf μ d.refs b → w'.heap[b]? = w.heap[b]?) ∧ Calm w w' ∧ ∀ r, r < s.length → μ'[r]? = μ[r]? := by
  have hpush : ∀ (h : Heap) (ob : Obj) (b : Nat), b < h.size → (h.push ob)[b]? = h[b]? := fun h ob b hb => by rw [Array.getElem?_push]; simp [Nat.ne_of_lt hb]
  unfold appendA at hk
  split at hk
  · -- no room
    split at hk
    · rename_i ys hsrc
      split at hk
      · rename_i hmax
        refine ⟨_, hk, ?_⟩
        intro X μ w dv xv inv hdv hxv
        simp only [RV] at hdv
        obtain ⟨a, rfl⟩ := hdv
        have hS := srcOf_src (P := P) inv hsrc hxv
        by_cases hy : ys.length = 0
        · have hy' : ys = [] := by simpa using hy
          subst hy'
          obtain ⟨l2, cs, f2, c2, o2, s2⟩ := hS
          have hcs : cs = [] := by simpa using c2
          subst hcs
          obtain ⟨i1, e1⟩ := none_step inv e
          refine ⟨.slice a 0 0, w, _, ?_, i1, ?_, e1, fun _ _ _ => rfl, Calm.refl w, keep_app inv⟩
          · refine run_append_in (n := 0) (m := 0) hu hte hu' hd l2 f2 (Nat.le_refl _) w ?_
            cases a <;> rfl
          · simp only [RV]
            refine ⟨_, last_slot inv _, ?_⟩
            rw [last_get]
            exact ⟨a, rfl, .inl rfl⟩
        · have hO : Src P w.heap (Im X w.heap μ s) e [] (.slice a 0 0) := src_of_rep ⟨a, 0, rfl, Nat.le_refl _, .inl rfl⟩
          obtain ⟨nc, C, g1, g2, g3, g4⟩ := run_append_grow (ty := ty) (xs := []) hu hte hu' hd hO hS (by simp; omega) (by simpa using hmax)
          obtain ⟨i1, e1, v1⟩ := new_arr inv (Ext.refl _ _ _ _) e ys C te (0, 0) nc (noFrz_new C) g2 (by simpa using g3) (by simpa using g4)
          refine ⟨_, _, _, g1, i1, ?_, e1, fun b hb _ => hpush _ _ b hb, ⟨rfl, rfl, rfl⟩, keep_app inv⟩
          have := v1 (Im X (w.heap.push (.cells C te (0, 0))) (μ ++ [⟨some w.heap.size, nc⟩]) (s ++ [.arr e ys]))
          simpa using this
      · cases hk
    · cases hk
  · -- its own
    rename_i q
    split at hk
    · rename_i e' xs hg
      split at hk
      · rename_i hee
        subst hee
        split at hk
        · cases hk
        · rename_i hix
          split at hk
          · rename_i ys hsrc
            split at hk
            · rename_i hmax
              refine ⟨_, hk, ?_⟩
              simp only [castL]
              intro X μ w dv xv inv hdv hxv
              obtain ⟨sl, hsl, a, rfl, ha⟩ := own_value hg hdv
              have hreg := inv.reg q sl hsl
              rw [hg] at hreg
              have hS := srcOf_src (P := P) inv hsrc hxv
              obtain ⟨ig, eg⟩ := gone_step inv q _ xs hg
              have hlen : (setR s q .gone).length = s.length := setR_length _ _ _
              have hcap : xs.length ≤ sl.cap := by
                rcases hreg with ⟨_, h0, h1⟩ | ⟨k, c, el, fr, _, _, _, _, h2, _⟩
                · rw [h1]; exact Nat.zero_le _
                · exact h2
              by_cases hfit : xs.length + ys.length ≤ sl.cap
              · obtain ⟨l2, cs, f2, c2, o2, s2⟩ := hS
                by_cases h0 : sl.cap = 0
                · have hx0 : xs = [] := by have : xs.length = 0 := by omega
                                           simpa using this
                  have hy0 : ys = [] := by have : ys.length = 0 := by omega
                                           simpa using this
                  subst hx0; subst hy0
                  have hcs : cs = [] := by simpa using c2
                  subst hcs
                  obtain ⟨i1, e1⟩ := none_step ig e'
                  refine ⟨.slice a 0 sl.cap, w, _, ?_, i1, ?_, eg.trans e1, fun _ _ _ => rfl, Calm.refl w, keep_app inv⟩
                  · refine run_append_in (n := 0) (m := 0) hu hte hu' hd l2 f2 (Nat.zero_le _) w ?_
                    cases a <;> simp [storeCells]
                  · simp only [RV]
                    refine ⟨_, by rw [← hlen]; exact last_slot ig _, ?_⟩
                    rw [← hlen, last_get]
                    exact ⟨a, by rw [h0]; rfl, .inl rfl⟩
                · rcases ha with ha | ⟨k, hk1, rfl⟩
                  · exact absurd ha h0
                  rcases hreg with ⟨hb, _⟩ | ⟨k', c, el, fr, e1, e2, e3, e4, e5, e6⟩
                  · rw [hb] at hk1; cases hk1
                  have hkk : k' = k := by rw [e1] at hk1; exact Option.some.inj hk1
                  subst hkk
                  have hroom : xs.length * e'.size + cs.length ≤ c.size := by
                    rw [c2, ← Nat.add_mul, e4]; exact Nat.mul_le_mul_right _ hfit
                  obtain ⟨p1, p2, c', p3, p4⟩ := setCells_heap k' el fr cs (xs.length * e'.size) w c e2 hroom
                  have hsz : c'.size = c.size := by
                    rw [← Array.length_toList, ← Array.length_toList, p4]
                    simp; omega
                  have hxl : (c.toList.take (xs.length * e'.size)).length = xs.length * e'.size := by simp; omega
                  have hmv := move_step inv q sl ⟨some k', sl.cap⟩ k' (.arr e' (xs ++ ys)) (w.setCells k' (xs.length * e'.size) cs).heap c' el fr hsl ⟨_, _, hg⟩ rfl (.inl e1)
                    (by rw [p1]; exact Nat.le_refl _) (fun b _ hb => p2 b hb) p3 (noFrz_size e3 hsz) (by
                    refine ⟨by rw [hsz]; exact e4, by simpa using hfit, ?_⟩
                    intro i hi
                    rw [p4]
                    refine segs_prefix (xs := xs ++ ys) (by rw [List.length_append, hxl, c2, List.length_append, Nat.add_mul]) (segs_append hxl ?_ s2) i hi
                    intro i hi
                    have := seg_of_seg (l := c.toList) (o := 0) (sz := e'.size) hi
                    simp only [List.drop_zero, Nat.zero_add] at this
                    rw [this]
                    exact e6 i hi)
                  refine ⟨.slice (some ⟨k', 0, none⟩) (xs.length + ys.length) sl.cap, _, _, ?_, hmv.1, ?_, hmv.2, fun b hb hno => p2 b (fun e0 => hno q (by simp [AV.refs]) sl hsl (e0 ▸ e1)), calm_setCells _ _ _ _, keep_app inv⟩
                  · refine run_append_in hu hte hu' hd l2 f2 hfit _ ?_
                    simp only [addr_add, Nat.zero_add]
                    exact storeCells_run e2 e3 hroom o2
                  · simp only [RV]
                    refine ⟨_, last_slot inv _, ?_⟩
                    have : getR (setR s q .gone ++ [.arr e' (xs ++ ys)]) s.length = .arr e' (xs ++ ys) := by rw [← hlen]; exact last_get _ _
                    rw [this]
                    exact ⟨_, by simp, .inr ⟨_, rfl, rfl⟩⟩
              · have hO : Src P w.heap (Im X w.heap μ s) e' xs (.slice a xs.length sl.cap) := src_of_arr hreg ⟨a, rfl, ha⟩
                obtain ⟨nc, C, g1, g2, g3, g4⟩ := run_append_grow (ty := ty) hu hte hu' hd hO hS (by omega) hmax
                obtain ⟨i1, e1, v1⟩ := new_arr ig eg e' (xs ++ ys) C te (0, 0) nc (noFrz_new C) g2 (by simpa using g3) (fun i hi => Rep.mono eg.im _ _ _ (g4 i hi))
                rw [hlen] at v1
                refine ⟨_, _, _, g1, i1, ?_, e1, fun b hb _ => hpush _ _ b hb, ⟨rfl, rfl, rfl⟩, keep_app inv⟩
                have := v1 (Im X (w.heap.push (.cells C te (0, 0))) (μ ++ [⟨some w.heap.size, nc⟩]) (setR s q .gone ++ [.arr e' (xs ++ ys)]))
                simpa using this
            · cases hk
          · cases hk
      · cases hk
    · cases hk
  · cases hk

end
end Go.VE
