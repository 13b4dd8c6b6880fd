/- What cuts, what turns into another kind, the builtins. -/
import Derived.Test.YtpljjegocfmbeaaGreatV15
namespace Go.VE
set_option linter.unusedVariables false
set_option linter.unusedSimpArgs false

section
variable {P : Program} {X : Nat → Prop} {μ : List Slot} {s : St} {h : Heap} {I : Nat → Prop} {wr : List Nat}

/-- A bound of a cut: what stands there, or what is meant. -/
def bnd (e : Env) (x : Option Operand) (d : Int) : Option Int :=
  match x.map (ev e) with
  | none => some d
  | some (.int _ n) => some n
  | _ => none

theorem bound_run {e : Env} {a : Act} (he : RVs h I μ s e a.tmps.toList) {x : Option Operand} {d n : Int} (hb : bnd e x d = some n) :
    (x = none ∧ n = d) ∨ ∃ y k, x = some y ∧ a.eval y = .int k n := by
  unfold bnd at hb
  cases x with
  | none => simp at hb; exact .inl ⟨rfl, hb.symm⟩
  | some y =>
    right
    simp only [Option.map_some] at hb
    split at hb
    · rename_i hh; cases hh
    · rename_i k m hy
      cases hb
      have h1 := ev_rv he y
      simp only [Option.some.injEq] at hy
      rw [hy] at h1
      simp only [RV] at h1
      exact ⟨y, k, rfl, h1⟩
    · cases hb

theorem run_sliceBounds {w : World} (sl : Bool) (len cap : Nat) (lo hi : Option Value) (l u : Nat)
    (hlo : (lo = none ∧ l = 0) ∨ ∃ k, lo = some (.int k l)) (hhi : (hi = none ∧ u = len) ∨ ∃ k, hi = some (.int k u)) (hlu : l ≤ u) (huc : u ≤ cap) :
    (Instr.sliceBounds sl len cap lo hi none).run P w = .ok (l, u, cap) w := by
  have hb : ∀ (k : IntKind) (x y : Nat) (c : BoundsCode), x ≤ y → (Instr.sliceBound (.int k x) y c).run P w = .ok x w := by
    intro k x y c hxy
    have hc : (0 : Int) ≤ (x : Int) ∧ (x : Int) ≤ (y : Int) := by omega
    simp [Instr.sliceBound, asIntOf, hc]
  unfold Instr.sliceBounds
  rcases hlo with ⟨rfl, rfl⟩ | ⟨k, rfl⟩ <;> rcases hhi with ⟨rfl, rfl⟩ | ⟨k', rfl⟩
  · simp
  · simp [hb _ _ _ _ huc]
  · simp [hb _ _ _ _ hlu]
  · simp [hb _ _ _ _ huc, hb _ _ _ _ hlu]

theorem op_slice_str {o : Oper} {e : Env} {t : TypeId} {x : Operand} {lo hi : Option Operand} {b : ByteArray} {l u : Int} (ho : o.op = .slice t x lo hi none) (ht : TyOk1 P .str t false) (hx : ev e x = .str b)
    (hl : bnd e lo 0 = some l) (hu : bnd e hi b.size = some u) (h0 : 0 ≤ l) (h1 : l ≤ u) (h2 : u ≤ (b.size : Int)) : OpQ P o e s wr (.str (b.extract l.toNat u.toNat)) :=
  fun X h μ a inv he => by
    have g2 := ev_rv he x
    rw [hx] at g2
    simp only [RV] at g2
    have hun : P.underlying t = some .string := by
      rcases ht with ht | ⟨hh, _⟩
      · exact ht.2.2
      · cases hh
    obtain ⟨l, rfl⟩ := Int.eq_ofNat_of_zero_le h0
    obtain ⟨u, rfl⟩ := Int.eq_ofNat_of_zero_le (show 0 ≤ u by omega)
    have hlo : (lo.map a.eval = none ∧ l = 0) ∨ ∃ k, lo.map a.eval = some (.int k l) := by
      rcases bound_run he hl with ⟨rfl, hh⟩ | ⟨y, k, rfl, hy⟩
      · exact .inl ⟨rfl, by omega⟩
      · exact .inr ⟨k, by simp [hy]⟩
    have hhi : (hi.map a.eval = none ∧ u = b.size) ∨ ∃ k, hi.map a.eval = some (.int k u) := by
      rcases bound_run he hu with ⟨rfl, hh⟩ | ⟨y, k, rfl, hy⟩
      · exact .inl ⟨rfl, by omega⟩
      · exact .inr ⟨k, by simp [hy]⟩
    refine ⟨.string (b.extract l u), fun w _ => ?_, by simp only [RV, Int.toNat_natCast]⟩
    have := run_sliceBounds (P := P) (w := w) false b.size b.size _ _ l u hlo hhi (by omega) (by omega)
    simp [execOp, ho, Instr.sliceAt, Instr.slice, run_underlying hun, g2, this]

theorem op_slice_nil {o : Oper} {e : Env} {t : TypeId} {x : Operand} {lo hi : Option Operand} {T : Ty} {l u : Int} (ho : o.op = .slice t x lo hi none) (ht : TyOk1 P (.slice T) t false) (hx : ev e x = .nilS)
    (hl : bnd e lo 0 = some l) (hu : bnd e hi 0 = some u) (h0 : 0 ≤ l) (h1 : l ≤ u) (h2 : u ≤ 0) : OpQ P o e s wr .nilS :=
  fun X h μ a inv he => by
    have g2 := ev_rv he x
    rw [hx] at g2
    simp only [RV] at g2
    obtain ⟨ad, g2⟩ := g2
    obtain ⟨te, ag', hun, hte⟩ := elem_of ht rfl
    have hl0 : l = 0 := by omega
    have hu0 : u = 0 := by omega
    subst hl0; subst hu0
    have hlo : (lo.map a.eval = none ∧ 0 = 0) ∨ ∃ k, lo.map a.eval = some (.int k (0 : Nat)) := by
      rcases bound_run he hl with ⟨rfl, hh⟩ | ⟨y, k, rfl, hy⟩
      · exact .inl ⟨rfl, rfl⟩
      · exact .inr ⟨k, by simp [hy]⟩
    have hhi : (hi.map a.eval = none ∧ 0 = 0) ∨ ∃ k, hi.map a.eval = some (.int k (0 : Nat)) := by
      rcases bound_run he hu with ⟨rfl, hh⟩ | ⟨y, k, rfl, hy⟩
      · exact .inl ⟨rfl, rfl⟩
      · exact .inr ⟨k, by simp [hy]⟩
    refine ⟨.slice ad 0 0, fun w _ => ?_, by simp only [RV]; exact ⟨_, rfl⟩⟩
    have := run_sliceBounds (P := P) (w := w) true 0 0 _ _ 0 0 hlo hhi (Nat.le_refl _) (Nat.le_refl _)
    simp [execOp, ho, Instr.sliceAt, Instr.slice, run_underlying hun, g2, this, hte.size]

/-- A cut of a slice that is read. -/
theorem run_slice_ro {w : World} {t : TypeId} {T el : Ty} {xs : List el.D} {v : Value} {lo hi : Option Value} {l u : Nat} (ht : TyOk1 P (.slice T) t false) (hs : el.size = T.size)
    (hr : Rep w.heap I (.slice el) [v] xs) (hlo : (lo = none ∧ l = 0) ∨ ∃ k, lo = some (.int k l)) (hhi : (hi = none ∧ u = xs.length) ∨ ∃ k, hi = some (.int k u)) (hlu : l ≤ u) (hul : u ≤ xs.length) :
    ∃ cv, (Instr.sliceAt t v lo hi none).run P w = .ok cv w ∧ Rep w.heap I (.slice el) [cv] ((xs.take u).drop l) := by
  obtain ⟨te, ag', hun, hte⟩ := elem_of ht rfl
  obtain ⟨ad, cap, rfl, hcap, hx⟩ := slice_cells hr
  have hb := run_sliceBounds (P := P) (w := w) true xs.length cap lo hi l u hlo hhi hlu (by omega)
  refine ⟨.slice (if cap = l then ad else ad.map (·.add (l * T.size))) (u - l) (cap - l), ?_, ?_⟩
  · simp [Instr.sliceAt, Instr.slice, run_underlying hun, hb, hte.size]
  · have hlen : ((xs.take u).drop l).length = u - l := by simp; omega
    refine ⟨_, cap - l, by rw [hlen], by rw [hlen]; omega, ?_⟩
    rcases hx with hx | ⟨b, o', c, elt, fr, rfl, hb', hc, hsz, hseg⟩
    · left
      rw [hx]; simp
    · by_cases hle : u - l = 0
      · left
        have : ((xs.take u).drop l).length = 0 := by rw [hlen]; exact hle
        exact List.length_eq_zero_iff.1 this
      · right
        have hne : ¬ cap = l := by omega
        refine ⟨b, o' + l * T.size, by rw [if_neg hne]; simp [addr_add], hb', ?_⟩
        intro i hi'
        rw [hlen] at hi'
        have hli : l + i < xs.length := by omega
        refine ⟨_, ⟨c, elt, fr, hc, ?_⟩, (by
          have : ((xs.take u).drop l)[i]'(by rw [hlen]; exact hi') = xs[l + i] := by
            rw [List.getElem_drop, List.getElem_take]
          rw [this]
          exact hseg (l + i) hli)⟩
        intro j v hj
        have h3 := seg_get _ _ _ _ _ hj
        rw [Array.getElem?_toList] at h3
        rw [← hs]
        rw [show o' + l * el.size + i * el.size + j = o' + (l + i) * el.size + j by rw [Nat.add_mul]; omega]
        exact h3

theorem op_slice_ro {o : Oper} {e : Env} {t : TypeId} {x : Operand} {lo hi : Option Operand} {T el : Ty} {xs : List el.D} {l u : Int} (ho : o.op = .slice t x lo hi none) (ht : TyOk1 P (.slice T) t false) (hs : el.size = T.size)
    (s' : St) (hst : ∀ X h μ, Inv X h μ s → Inv X h μ s' ∧ Ext X h μ s h μ s')
    (hx : ∀ X μ (w : World) (a : Act), Inv X w.heap μ s → RVs w.heap (Im X w.heap μ s) μ s e a.tmps.toList → Rep w.heap (Im X w.heap μ s') (.slice el) [a.eval x] xs)
    (hl : bnd e lo 0 = some l) (hu : bnd e hi xs.length = some u) (h0 : 0 ≤ l) (h1 : l ≤ u) (h2 : u ≤ (xs.length : Int)) : OpOk P o e s [] (.lst el ((xs.take u.toNat).drop l.toNat)) s' :=
  OpOk.of fun X μ w a inv he => by
    obtain ⟨l, rfl⟩ := Int.eq_ofNat_of_zero_le h0
    obtain ⟨u, rfl⟩ := Int.eq_ofNat_of_zero_le (show 0 ≤ u by omega)
    have hlo : (lo.map a.eval = none ∧ l = 0) ∨ ∃ k, lo.map a.eval = some (.int k l) := by
      rcases bound_run he hl with ⟨rfl, hh⟩ | ⟨y, k, rfl, hy⟩
      · exact .inl ⟨rfl, by omega⟩
      · exact .inr ⟨k, by simp [hy]⟩
    have hhi : (hi.map a.eval = none ∧ u = xs.length) ∨ ∃ k, hi.map a.eval = some (.int k u) := by
      rcases bound_run he hu with ⟨rfl, hh⟩ | ⟨y, k, rfl, hy⟩
      · exact .inl ⟨rfl, by omega⟩
      · exact .inr ⟨k, by simp [hy]⟩
    obtain ⟨i1, e1⟩ := hst X w.heap μ inv
    obtain ⟨cv, g1, g2⟩ := run_slice_ro (P := P) (w := w) ht hs (hx X μ w a inv he) hlo hhi (by omega) (by omega)
    refine ⟨cv, w, μ, ?_, i1, ?_, e1, fun _ _ _ => rfl, Calm.refl w, fun _ _ => rfl⟩
    · simp only [execOp, ho, Option.map_none, Sem.run_bind, g1, Result.andThen_ok, Sem.run_pure]
    · simp only [RV, Int.toNat_natCast]; exact g2

/-- The tail of an array of its own: a window. -/
theorem op_slice_win {o : Oper} {e : Env} {t : TypeId} {x y : Operand} {T el : Ty} {xs : List el.D} {l : Int} {r : Nat} {k : IntKind} (ho : o.op = .slice t x (some y) none none) (ht : TyOk1 P (.slice T) t false) (hs : el.size = T.size)
    (hx : ev e x = .own r) (hg : getR s r = .arr el xs) (hy : ev e y = .int k l) (h0 : 0 ≤ l) (h1 : l ≤ (xs.length : Int)) : OpOk P o e s [] (.win r l.toNat) s :=
  OpOk.of fun X μ w a inv he => by
    obtain ⟨l, rfl⟩ := Int.eq_ofNat_of_zero_le h0
    obtain ⟨te, ag', hun, hte⟩ := elem_of ht rfl
    have g1 := ev_rv he y
    rw [hy] at g1
    simp only [RV] at g1
    have g2 := ev_rv he x
    rw [hx] at g2
    obtain ⟨sl, hsl, ad, hv, had⟩ := own_value hg g2
    have hcap : xs.length ≤ sl.cap := by
      have hreg := inv.reg r sl hsl
      rw [hg] at hreg
      rcases hreg with ⟨_, h0, h1⟩ | ⟨k, c, el, fr, _, _, _, _, h2, _⟩
      · rw [h1]; exact Nat.zero_le _
      · exact h2
    have hb := run_sliceBounds (P := P) (w := w) true xs.length sl.cap (some (.int k l)) none l xs.length (.inr ⟨k, rfl⟩) (.inl ⟨rfl, rfl⟩) (by omega) hcap
    refine ⟨.slice (if sl.cap = l then ad else ad.map (·.add (l * T.size))) (xs.length - l) (sl.cap - l), w, μ, ?_, inv, ?_, Ext.refl _ _ _ _, fun _ _ _ => rfl, Calm.refl w, fun _ _ => rfl⟩
    · simp [execOp, ho, hv, g1, Instr.sliceAt, Instr.slice, run_underlying hun, hb, hte.size]
    · simp only [RV, Int.toNat_natCast]
      refine ⟨sl, hsl, ?_⟩
      rw [hg]
      refine ⟨by omega, _, rfl, ?_⟩
      rcases Nat.lt_or_ge l xs.length with hl | hl
      · right
        rcases had with had | ⟨k2, hk2, rfl⟩
        · omega
        · have hne : ¬ sl.cap = l := by omega
          exact ⟨k2, hk2, by rw [if_neg hne]; simp [addr_add, hs]⟩
      · left; omega

/-- The head of an array of its own: it takes the array's place. -/
theorem op_slice_head {o : Oper} {e : Env} {t : TypeId} {x y : Operand} {T el : Ty} {xs : List el.D} {u : Int} {r : Nat} {k : IntKind} (ho : o.op = .slice t x none (some y) none) (ht : TyOk1 P (.slice T) t false) (hs : el.size = T.size)
    (hx : ev e x = .own r) (hg : getR s r = .arr el xs) (hy : ev e y = .int k u) (h0 : 0 ≤ u) (h1 : u ≤ (xs.length : Int)) : OpOk P o e s [] (.own s.length) (setR s r .gone ++ [.arr el (xs.take u.toNat)]) :=
  OpOk.of fun X μ w a inv he => by
    obtain ⟨u, rfl⟩ := Int.eq_ofNat_of_zero_le h0
    obtain ⟨te, ag', hun, hte⟩ := elem_of ht rfl
    have g1 := ev_rv he y
    rw [hy] at g1
    simp only [RV] at g1
    have g2 := ev_rv he x
    rw [hx] at g2
    obtain ⟨sl, hsl, ad, hv, had⟩ := own_value hg g2
    have hreg := inv.reg r sl hsl
    rw [hg] at hreg
    have hcap : xs.length ≤ sl.cap := by
      rcases hreg with ⟨_, h0, h1⟩ | ⟨k, c, el, fr, _, _, _, _, h2, _⟩
      · rw [h1]; exact Nat.zero_le _
      · exact h2
    have hlen : (setR s r .gone).length = s.length := setR_length _ _ _
    have hb := run_sliceBounds (P := P) (w := w) true xs.length sl.cap none (some (.int k u)) 0 u (.inl ⟨rfl, rfl⟩) (.inr ⟨k, rfl⟩) (Nat.zero_le _) (by omega)
    have hrun : (execOp a.eval o).run P w = .ok (.value (.slice ad u sl.cap)) w := by
      have hadd : (if sl.cap = 0 then ad else ad.map (·.add (0 * T.size))) = ad := by
        split
        · rfl
        · cases ad with
          | none => rfl
          | some ad => obtain ⟨b, o', sp⟩ := ad; simp [Addr.add]
      simp [execOp, ho, hv, g1, Instr.sliceAt, Instr.slice, run_underlying hun, hb, hte.size]
      simpa using hadd
    rcases hreg with ⟨hb0, hc0, hx0⟩ | ⟨kk, c, elt, fr, e1, e2, e3, e4, e5, e6⟩
    · obtain ⟨ig, eg⟩ := gone_step inv r _ xs hg
      obtain ⟨i1, x1⟩ := none_step ig el
      have hu0 : u = 0 := by rw [hx0] at h1; simpa using h1
      subst hu0
      have htk : xs.take (0 : Int).toNat = [] := by simp
      refine ⟨_, w, _, hrun, by simpa using i1, ?_, by simpa using eg.trans x1, fun _ _ _ => rfl, Calm.refl w, keep_app inv⟩
      simp only [RV]
      refine ⟨⟨none, 0⟩, last_slot inv _, ?_⟩
      have : getR (setR s r .gone ++ [Rg.arr el (xs.take ((0 : Nat) : Int).toNat)]) s.length = .arr el (xs.take ((0 : Nat) : Int).toNat) := by rw [← hlen]; exact last_get _ _
      rw [this]
      exact ⟨ad, by simp [hc0], .inl rfl⟩
    · obtain ⟨i1, x1⟩ := move_step inv r sl ⟨some kk, sl.cap⟩ kk (.arr el (xs.take u)) w.heap c elt fr hsl ⟨_, _, hg⟩ rfl (.inl e1) (Nat.le_refl _) (fun _ _ _ => rfl) e2 e3
        ⟨e4, by simp; omega, fun i hi => by
          have hi' : i < xs.length := by simp at hi; omega
          have := e6 i hi'
          simpa using this⟩
      refine ⟨_, w, _, hrun, by simpa using i1, ?_, by simpa using x1, fun _ _ _ => rfl, Calm.refl w, keep_app inv⟩
      simp only [RV, Int.toNat_natCast]
      refine ⟨⟨some kk, sl.cap⟩, last_slot inv _, ?_⟩
      have : getR (setR s r .gone ++ [Rg.arr el (xs.take u)]) s.length = .arr el (xs.take u) := by rw [← hlen]; exact last_get _ _
      rw [this]
      refine ⟨ad, by simp; omega, ?_⟩
      rcases had with had | ⟨k2, hk2, rfl⟩
      · exact .inl had
      · exact .inr ⟨k2, by rw [e1] at hk2; exact hk2, rfl⟩

/-! ### kinds -/

theorem op_conv_int {o : Oper} {e : Env} {src dst : TypeId} {x : Operand} {S : Ty} {sa : Bool} {k kd : IntKind} {n : Int} (ho : o.op = .convert src dst x) (hs : TyOk1 P S src sa) (hd : TyOk1 P (.int kd) dst false)
    (hx : ev e x = .int k n) : OpQ P o e s wr (.int kd (kd.wrap n)) :=
  fun X h μ a inv he => by
    have g2 := ev_rv he x
    rw [hx] at g2
    simp only [RV] at g2
    obtain ⟨d, hu⟩ := hs.under
    have hud : P.underlying dst = some (.int kd) := by
      rcases hd with ht | ⟨hh, _⟩
      · exact ht.2.2
      · cases hh
    refine ⟨.int kd (kd.wrap n), fun w _ => ?_, by simp only [RV]⟩
    simp [execOp, ho, g2, convert, run_underlying hu, run_underlying hud, Conv.intToInt]

theorem op_conv_str {o : Oper} {e : Env} {src dst : TypeId} {x : Operand} {S : Ty} {sa : Bool} {b : ByteArray} (ho : o.op = .convert src dst x) (hs : TyOk1 P S src sa) (hd : TyOk1 P .str dst false)
    (hx : ev e x = .str b) : OpQ P o e s wr (.str b) :=
  fun X h μ a inv he => by
    have g2 := ev_rv he x
    rw [hx] at g2
    simp only [RV] at g2
    obtain ⟨d, hu⟩ := hs.under
    have hud : P.underlying dst = some .string := by
      rcases hd with ht | ⟨hh, _⟩
      · exact ht.2.2
      · cases hh
    refine ⟨.string b, fun w _ => ?_, by simp only [RV]⟩
    simp [execOp, ho, g2, convert, run_underlying hu, run_underlying hud]

theorem flat_bytes {ns : List Int} {cs : List Value} (hl : cs.length = ns.length) (hs : ∀ i (hi : i < ns.length), Rep h I (.int .u8) ((cs.drop (i * 1)).take 1) ns[i]) : cs = ns.map (Value.int .u8) := by
  apply List.ext_getElem?
  intro i
  by_cases hi : i < ns.length
  · have h1 : (cs.drop (i * 1)).take 1 = [.int .u8 ns[i]] := hs i hi
    have h2 : ((cs.drop (i * 1)).take 1)[0]? = some (.int .u8 ns[i]) := by rw [h1]; rfl
    have h3 := seg_get _ _ _ _ _ h2
    rw [Nat.mul_one, Nat.add_zero] at h3
    rw [h3]
    simp [hi]
  · rw [List.getElem?_eq_none (by omega), List.getElem?_eq_none (by simp; omega)]

theorem op_conv_bytes {o : Oper} {e : Env} {src dst : TypeId} {x : Operand} {ns : List Int} (ho : o.op = .convert src dst x) (hs : TyOk1 P (.slice (.int .u8)) src false) (hd : TyOk1 P .str dst false)
    (hx : sliceOf s (.int .u8) (ev e x) = some ns) : OpOk P o e s [] (.str (bytesOf ns)) s :=
  OpOk.of fun X μ w a inv he => by
    obtain ⟨te, ag', hu, hte⟩ := elem_of hs rfl
    have hue : P.underlying te = some (.int .u8) := hte.2.2
    have hud : P.underlying dst = some .string := by
      rcases hd with ht | ⟨hh, _⟩
      · exact ht.2.2
      · cases hh
    have hsrc : srcOf s (.int .u8) (ev e x) = some ns := by
      unfold srcOf
      split
      · rename_i hh
        rw [hh] at hx
        simp [sliceOf] at hx
      · exact hx
    obtain ⟨l1, cs, f1, c1, o1, s1⟩ := srcOf_src (P := P) inv hsrc (ev_rv he x)
    have hcs : cs = ns.map (Value.int .u8) := flat_bytes (by simpa [Ty.size] using c1) s1
    refine ⟨.string (bytesOf ns), w, μ, ?_, inv, by simp only [RV], Ext.refl _ _ _ _, fun _ _ _ => rfl, Calm.refl w, fun _ _ => rfl⟩
    have f1' := f1 w rfl
    have l1' := l1 w
    cases hv : a.eval x with
    | slice ad n cap =>
      rw [hv] at f1' l1'
      simp only [Builtin.lenOf, Sem.run_pure, Result.ok.injEq, and_true] at l1'
      have hgo : (convert src dst (.slice ad n cap)).run P w = .ok (.string (bytesOf ns)) w := by
        rw [run_convert_bytes_string w src dst te ad n cap hu hue hud]
        cases ad with
        | none =>
          simp only [Builtin.firstCells, Sem.run_pure, Result.ok.injEq, and_true] at f1'
          have : cs = [] := by simpa using f1'.symm
          rw [this] at hcs
          have hns : ns = [] := by simpa using hcs.symm
          subst hns
          rfl
        | some ad =>
          simp only [Builtin.firstCells, Ty.size, Nat.mul_one, ← l1'] at f1'
          rw [hcs] at f1'
          rw [run_bytesToString w ad n cap ns (by simpa using f1')]
          rfl
      simp only [execOp, ho, hv, Sem.run_bind, hgo, Result.andThen_ok, Sem.run_pure]
    | string b =>
      exfalso
      have := ev_rv he x
      rw [hv] at this
      revert this hx
      cases ev e x with
      | lst e' xs => intro hx this; simp only [RV] at this; obtain ⟨_, _, hh, _⟩ := this; cases hh
      | nilS => intro hx this; simp only [RV] at this; obtain ⟨_, hh⟩ := this; cases hh
      | own r =>
        intro hx this
        simp only [RV] at this
        obtain ⟨sl, _, h2⟩ := this
        cases hg : getR s r with
        | box _ => rw [hg] at h2; exact h2
        | arr _ _ => rw [hg] at h2; obtain ⟨_, hh, _⟩ := h2; cases hh
        | frz _ _ => rw [hg] at h2; obtain ⟨_, _, hh, _⟩ := h2; cases hh
        | gone => simp [sliceOf, hg] at hx
      | win r lo =>
        intro hx this
        simp only [RV] at this
        obtain ⟨sl, _, h2⟩ := this
        cases hg : getR s r with
        | box _ => rw [hg] at h2; exact h2
        | arr _ _ => rw [hg] at h2; obtain ⟨_, _, hh, _⟩ := h2; cases hh
        | frz _ _ => simp [sliceOf, hg] at hx
        | gone => simp [sliceOf, hg] at hx
      | _ => intro hx; simp [sliceOf] at hx
    | _ => rw [hv] at l1'; simp [Builtin.lenOf] at l1'

/-! ### builtins -/

theorem lenA_rv {a : AV} {v : Value} {n : Int} (inv : Inv X h μ s) (hl : lenA s a = some n) (hv : RV h (Im X h μ s) μ s a v) :
    (∃ b : ByteArray, a = .str b ∧ v = .string b ∧ n = b.size) ∨ ((∀ b, a ≠ .str b) ∧ ∃ (ad : Option Addr) (m cap : Nat), v = .slice ad m cap ∧ n = m) := by
  unfold lenA at hl
  split at hl
  · rename_i t
    cases hl
    simp only [RV] at hv
    exact .inl ⟨t, rfl, hv, rfl⟩
  · cases hl
    simp only [RV] at hv
    obtain ⟨ad, cap, hh, _⟩ := hv
    cases hh
    exact .inr ⟨by simp, ad, _, cap, rfl, rfl⟩
  · cases hl
    simp only [RV] at hv
    obtain ⟨ad, hh⟩ := hv
    exact .inr ⟨by simp, ad, 0, 0, hh, rfl⟩
  · rename_i r
    simp only [RV] at hv
    obtain ⟨sl, _, h2⟩ := hv
    cases hg : getR s r with
    | box _ => rw [hg] at hl; cases hl
    | gone => rw [hg] at hl; cases hl
    | arr e xs =>
      rw [hg] at hl h2
      cases hl
      obtain ⟨ad, hh, _⟩ := h2
      exact .inr ⟨by simp, ad, _, _, hh, rfl⟩
    | frz e xs =>
      rw [hg] at hl h2
      cases hl
      obtain ⟨ad, cap, hh, _⟩ := h2
      cases hh
      exact .inr ⟨by simp, ad, _, cap, rfl, rfl⟩
  · rename_i r lo
    simp only [RV] at hv
    obtain ⟨sl, _, h2⟩ := hv
    cases hg : getR s r with
    | arr e xs =>
      rw [hg] at hl h2
      cases hl
      obtain ⟨hlo, ad, hh, _⟩ := h2
      exact .inr ⟨by simp, ad, _, _, hh, by omega⟩
    | box _ => rw [hg] at hl; cases hl
    | frz _ _ => rw [hg] at hl; cases hl
    | gone => rw [hg] at hl; cases hl
  · cases hl

theorem args_two {e : Env} {args : Array Operand} {p q : AV} (hl : evs e args.toList = [p, q]) :
    ∃ x y, args = #[x, y] ∧ ev e x = p ∧ ev e y = q := by
  obtain ⟨l⟩ := args
  match l, hl with
  | [], hl => simp [evs] at hl
  | [x], hl => simp [evs] at hl
  | [x, y], hl =>
    simp only [evs, List.cons.injEq, and_true] at hl
    exact ⟨x, y, rfl, hl.1, hl.2⟩
  | _ :: _ :: _ :: _, hl => simp [evs] at hl

theorem args_one {e : Env} {args : Array Operand} {p : AV} (hl : evs e args.toList = [p]) : ∃ x, args = #[x] ∧ ev e x = p := by
  obtain ⟨l⟩ := args
  match l, hl with
  | [], hl => simp [evs] at hl
  | [x], hl =>
    simp only [evs, List.cons.injEq, and_true] at hl
    exact ⟨x, rfl, hl⟩
  | _ :: _ :: _, hl => simp [evs] at hl

theorem arr_one {ts : Array Nat} {t : Nat} (h : ts.toList = [t]) : ts = #[t] := by cases ts; simp at h; rw [h]
theorem arr_two {ts : Array Nat} {t t' : Nat} (h : ts.toList = [t, t']) : ts = #[t, t'] := by cases ts; simp at h; rw [h]

def tchB : Builtin → List AV → List Nat
  | .append, [d, _] => d.refs
  | .clear, [x] => x.refs
  | _, _ => []

def quietB : Builtin → Bool
  | .len => true
  | .min => true
  | .max => true
  | _ => false

theorem wrap_small (x : Int) (hx0 : 0 ≤ x) (hx1 : x ≤ (maxLen : Int)) : IntKind.i64.wrap x = x := by
  have e1 : ((maxLen : Nat) : Int) = 4294967296 := rfl
  rw [e1] at hx1
  have hx : x % (18446744073709551616 : Int) = x := Int.emod_eq_of_lt hx0 (by omega)
  have h2 : ¬ (x ≥ (9223372036854775808 : Int)) := by omega
  show (if (true && decide (x % (18446744073709551616 : Int) ≥ (9223372036854775808 : Int))) = true then x % (18446744073709551616 : Int) - 18446744073709551616 else x % (18446744073709551616 : Int)) = x
  rw [hx]
  simp [h2]

/-- Zeros behind a slice that holds nothing. -/
theorem run_append_zeros {w : World} {e : Ty} {t t' : TypeId} {ty : TypeId} {te : TypeId} {ag' : Bool} {kn kq : IntKind} {base : Option Addr} {n : Nat}
    (hu : P.underlying t = some (.slice te)) (hte : TyOk P e te ag') (hu' : P.underlying t' = some (.int kn)) (hmax : n ≤ maxLen) :
    (n = 0 → (Builtin.append_ #[t, t'] ty #[.slice base 0 0, .int kq n]).run P w = .ok (.slice base 0 0) w) ∧
    (n ≠ 0 → ∃ (nc : Nat) (C : Array Value), (Builtin.append_ #[t, t'] ty #[.slice base 0 0, .int kq n]).run P w =
        .ok (.slice (some ⟨w.heap.size, 0, none⟩) n nc) { w with heap := w.heap.push (.cells C te (0, 0)), drawn := w.drawn + 1 } ∧ n ≤ nc ∧ C.toList = (List.replicate nc e.zv).flatten) := by
  obtain ⟨i0, hi1, hi2, hi3, hi4⟩ := hte.info
  have hcell := zval_cells (P := P) (T := e) (t := te) (ag := ag') (.inl hte)
  have hzs : (zval ag' e).cells.size = e.size := by rw [← Array.length_toList, hcell, zv_length]
  have hti : ∀ w', (typeInfo te).run P w' = .ok i0 w' := fun w' => by simp [typeInfo, hi1]
  have hso : ∀ w', (sizeOf te).run P w' = .ok e.size w' := fun w' => run_sizeOf hte.info w'
  have hzr : ∀ w', (zeroValue te).run P w' = .ok (zval ag' e) w' := fun w' => run_zeroValue hte.info w'
  have hw : IntKind.i64.wrap (n : Int) = n := wrap_small _ (by omega) (by omega)
  have hneg : ¬ ((n : Int) < 0) := by omega
  have hmx : n ≤ 4294967296 := hmax
  have h48 : ¬ ((n : Int) * (i0.bytes : Int) > 2 ^ 48) := by
    rw [← Int.natCast_mul]
    have : n * i0.bytes ≤ 4294967296 * 16384 := Nat.mul_le_mul hmx hi3
    have e48 : (2 : Int) ^ 48 = 281474976710656 := by decide
    rw [e48]
    omega
  refine ⟨fun h0 => ?_, fun h0 => ?_⟩
  · subst h0
    have hw0 : IntKind.i64.wrap 0 = 0 := by simpa using hw
    cases base with
    | none => simp [Builtin.append_, run_underlying hu, run_underlying hu', hso, hti, asInt, asIntOf, hw0]
    | some a => simp [Builtin.append_, run_underlying hu, run_underlying hu', hso, hti, asInt, asIntOf, hw0, storeCells]
  · have hfit2 : ¬ Builtin.nextslicecap (0 + n) 0 * i0.bytes > 2 ^ 48 := by
      rw [Nat.zero_add, nextslicecap_zero (by omega)]
      have : n * i0.bytes ≤ 4294967296 * 16384 := Nat.mul_le_mul hmx hi3
      have e48 : (2 : Nat) ^ 48 = 281474976710656 := by decide
      rw [e48]; omega
    have hb2 : ¬ ((((0 + n : Nat) : Int) > IntKind.i64.max) ∧ (True ∨ i0.bytes = 0)) := by
      rintro ⟨hb, _⟩
      have e1 : IntKind.i64.max = 9223372036854775807 := rfl
      rw [e1] at hb
      omega
    have hle : ¬ (0 + n ≤ 0) := by omega
    have hns : ¬ (n * e.size = 0) := Nat.mul_ne_zero h0 (by have := e.size_pos; omega)
    have hf0 : ∀ w' : World, (Builtin.firstCells e.size 0 (.slice base 0 0)).run P w' = .ok #[] w' := by
      intro w'
      cases base with
      | none => rfl
      | some a => simp [Builtin.firstCells, loadCells, loadCellsFrom]
    generalize hq : (w.tape w.drawn (.appendCap (0 + n) 0 te)) % (2 ^ 63 - (0 + n)) = q
    refine ⟨n + q, Builtin.zeroCells (zval ag' e).cells n ++ Builtin.zeroCells (zval ag' e).cells q, ?_, by omega, ?_⟩
    · unfold Builtin.append_
      simp only [List.getElem?_toArray, List.getElem?_cons_zero, List.getElem?_cons_succ, Sem.run_bind, run_underlying hu, run_underlying hu', Result.andThen_ok, hso, Sem.run_pure, if_true, asInt, asIntOf, hw, hneg, if_false, hti, h48, Int.toNat_natCast, hle, hns]
      have hb3 : ¬ ((((0 + n : Nat) : Int) > IntKind.i64.max) ∧ (True ∨ i0.bytes = 0)) := hb2
      rw [if_neg hb3]
      simp only [Sem.run_bind, hti, Result.andThen_ok]
      rw [if_neg hfit2]
      simp only [Sem.run_bind, run_choose, Question.forced, Bool.false_eq_true, if_false, Question.cut, Result.andThen_ok, hti, run_askRoom, hf0, Bool.not_true, Bool.not_false, if_true, hzr, hq, Sem.run_pure, hns,
        Nat.add_sub_cancel_left, newRow, run_newObj]
      simp
    · have hz : ∀ m, (Builtin.zeroCells (zval ag' e).cells m).toList = (List.replicate m e.zv).flatten := fun m => by
        unfold Builtin.zeroCells
        rw [hzs, ← zrow e m _ hcell, hzs]
      rw [Array.toList_append, hz, hz, ← List.flatten_append, List.replicate_append_replicate]

theorem zerosA_sound {e : Ty} {d x : AV} {k : K1} {r : Res} {t t' ty te : TypeId} {ag' : Bool} {kn : IntKind}
    (hu : P.underlying t = some (.slice te)) (hte : TyOk P e te ag') (hu' : P.underlying t' = some (.int kn)) (hk : zerosA s e d x k = some r) :
    ∃ v s', k v s' = some r ∧ ∀ X μ (w : World) (dv xv : Value), Inv X w.heap μ s → RV w.heap (Im X w.heap μ s) μ s d dv → RV w.heap (Im X w.heap μ s) μ s x xv →
      ∃ cv w' μ', (Builtin.append_ #[t, t'] ty #[dv, xv]).run P w = .ok cv w' ∧ Inv X w'.heap μ' s' ∧ RV w'.heap (Im X w'.heap μ' s') μ' s' v cv ∧ Ext X w.heap μ s w'.heap μ' s' ∧
        (∀ b, b < w.heap.size → NotOf μ d.refs b → w'.heap[b]? = w.heap[b]?) ∧ Calm w w' ∧ ∀ r, r < s.length → μ'[r]? = μ[r]? := by
  unfold zerosA at hk
  split at hk
  · rename_i kq n
    split at hk
    · rename_i hn
      refine ⟨_, _, hk, ?_⟩
      intro X μ w dv xv inv hdv hxv
      simp only [RV] at hdv hxv
      obtain ⟨a, rfl⟩ := hdv
      subst hxv
      obtain ⟨n, rfl⟩ := Int.eq_ofNat_of_zero_le hn.1
      obtain ⟨h1, h2⟩ := run_append_zeros (P := P) (w := w) (ty := ty) (kq := kq) (base := a) (n := n) hu hte hu' (by omega)
      by_cases h0 : n = 0
      · subst h0
        obtain ⟨i1, x1⟩ := none_step inv e
        refine ⟨.slice a 0 0, w, _, h1 rfl, i1, ?_, x1, fun _ _ _ => rfl, Calm.refl w, keep_app inv⟩
        simp only [RV]
        refine ⟨_, last_slot inv _, ?_⟩
        rw [last_get]
        exact ⟨a, rfl, .inl rfl⟩
      · obtain ⟨nc, C, g1, g2, g3⟩ := h2 h0
        obtain ⟨μ', i1, x1, v1, kp⟩ := new_own inv (Ext.refl _ _ _ _) e (List.replicate n e.zero) C te (0, 0) nc (noFrz_new C) (by rw [← Array.length_toList, g3]; simp [zv_length]) (by simpa using g2) (by
          intro i hi
          simp only [List.length_replicate] at hi
          rw [zero_segs e nc _ g3 i (by omega)]
          simp only [List.getElem_replicate]
          exact zero_rep e) n (by simp)
        exact ⟨_, _, μ', g1, i1, v1, x1, fun b hb _ => by rw [Array.getElem?_push]; simp [Nat.ne_of_lt hb], ⟨rfl, rfl, rfl⟩, kp⟩
    · cases hk
  · cases hk

/-- 'clear'. -/
theorem clearA_sound {e : Ty} {x : AV} {k : K1} {r : Res} {t ty te : TypeId} {ag' : Bool}
    (hu : P.underlying t = some (.slice te)) (hte : TyOk P e te ag') (hk : clearA s e x k = some r) :
    ∃ s', k .dead s' = some r ∧ ∀ X μ (w : World) (xv : Value), Inv X w.heap μ s → RV w.heap (Im X w.heap μ s) μ s x xv →
      ∃ cv w', (Builtin.clear_ #[t] ty #[xv]).run P w = .ok cv w' ∧ Inv X w'.heap μ s' ∧ Ext X w.heap μ s w'.heap μ s' ∧
        (∀ b, b < w.heap.size → NotOf μ x.refs b → w'.heap[b]? = w.heap[b]?) ∧ Calm w w' := by
  have hcell := zval_cells (P := P) (T := e) (t := te) (ag := ag') (.inl hte)
  have hzs : (zval ag' e).cells.size = e.size := by rw [← Array.length_toList, hcell, zv_length]
  have hzr : ∀ w', (zeroValue te).run P w' = .ok (zval ag' e) w' := fun w' => run_zeroValue hte.info w'
  have hz : ∀ m, (Builtin.zeroCells (zval ag' e).cells m).toList = (List.replicate m e.zv).flatten := fun m => by
    unfold Builtin.zeroCells
    rw [hzs, ← zrow e m _ hcell, hzs]
  have hnone : ∀ (a : Option Addr) (c : Nat) (w : World), (Builtin.clear_ #[t] ty #[.slice a 0 c]).run P w = .ok (.tuple #[]) w := by
    intro a c w
    cases a <;> simp [Builtin.clear_, run_underlying hu]
  unfold clearA at hk
  split at hk
  · refine ⟨_, hk, ?_⟩
    intro X μ w xv inv hxv
    simp only [RV] at hxv
    obtain ⟨a, rfl⟩ := hxv
    exact ⟨_, w, hnone a 0 w, inv, Ext.refl _ _ _ _, fun _ _ _ => rfl, Calm.refl w⟩
  · rename_i q lo
    split at hk
    · rename_i e' xs hg
      split at hk
      · rename_i hee
        subst hee
        refine ⟨_, hk, ?_⟩
        intro X μ w xv inv hxv
        simp only [RV] at hxv
        obtain ⟨sl, hsl, hxv⟩ := hxv
        rw [hg] at hxv
        obtain ⟨hlo, a, rfl, ha⟩ := hxv
        have hreg := inv.reg q sl hsl
        rw [hg] at hreg
        by_cases hl : xs.length = lo
        · have hset : setR s q (.arr e' (xs.take lo ++ List.replicate (xs.length - lo) e'.zero)) = s := by
            have : xs.take lo ++ List.replicate (xs.length - lo) e'.zero = xs := by rw [hl]; simp [← hl]
            rw [this]
            exact setR_self s q _ hg (lt_of_getR hg (by simp))
          rw [hset]
          refine ⟨.tuple #[], w, ?_, inv, Ext.refl _ _ _ _, fun _ _ _ => rfl, Calm.refl w⟩
          rw [show xs.length - lo = 0 by omega]
          exact hnone a _ w
        · rcases ha with ha | ⟨k', hk', rfl⟩
          · exact absurd ha hl
          rcases hreg with ⟨h0, _, _⟩ | ⟨kk, c, el, fr, e1, e2, e3, e4, e5, e6⟩
          · rw [h0] at hk'; cases hk'
          have hkk : k' = kk := by rw [e1] at hk'; exact (Option.some.inj hk').symm
          subst hkk
          have hsz : lo * e'.size + ((List.replicate (xs.length - lo) e'.zv).flatten).length ≤ c.size := by
            simp only [List.length_flatten, List.map_replicate, zv_length, List.sum_replicate_nat]
            rw [e4, ← Nat.add_mul]
            exact Nat.mul_le_mul_right _ (by omega)
          obtain ⟨p1, p2, c', p3, p4⟩ := setCells_heap k' el fr (List.replicate (xs.length - lo) e'.zv).flatten (lo * e'.size) w c e2 (by simpa using hsz)
          have hone : ∀ u ∈ (List.replicate (xs.length - lo) e'.zv).flatten, u.oneCell' = true := by
            intro u hu'
            simp only [List.mem_flatten, List.mem_replicate] at hu'
            obtain ⟨l, ⟨_, rfl⟩, hm⟩ := hu'
            exact Rep.one (h := w.heap) (I := fun _ => True) e' _ _ (zero_rep e') u hm
          have hst := storeCells_run (P := P) (o := lo * e'.size) (vs := (List.replicate (xs.length - lo) e'.zv).flatten) e2 e3 hsz hone
          have hszc : c'.size = c.size := by
            rw [← Array.length_toList, ← Array.length_toList, p4]
            simp at hsz ⊢; omega
          have hlen2 : (xs.take lo ++ List.replicate (xs.length - lo) e'.zero).length = xs.length := by simp; omega
          obtain ⟨i1, x1⟩ := write_step inv q sl k' (.arr e' (xs.take lo ++ List.replicate (xs.length - lo) e'.zero)) _ c' el fr hsl e1 (by rw [hg]; exact ⟨rfl, hlen2.symm⟩) p1 p2 p3 (noFrz_size e3 hszc) (by
            refine ⟨by rw [hszc]; exact e4, by rw [hlen2]; exact e5, ?_⟩
            intro i hi
            rw [hlen2] at hi
            rw [p4]
            have hcl : c.toList.length = sl.cap * e'.size := by simpa using e4
            by_cases hil : i < lo
            · have hle : (i + 1) * e'.size ≤ lo * e'.size := Nat.mul_le_mul_right _ hil
              rw [Nat.add_mul] at hle
              have hcap : lo * e'.size ≤ sl.cap * e'.size := Nat.mul_le_mul_right _ (by omega)
              have hseg : ((c.toList.take (lo * e'.size) ++ (List.replicate (xs.length - lo) e'.zv).flatten ++ c.toList.drop (lo * e'.size + ((List.replicate (xs.length - lo) e'.zv).flatten).length)).drop (i * e'.size)).take e'.size = (c.toList.drop (i * e'.size)).take e'.size := by
                apply List.ext_getElem?
                intro p
                rw [List.getElem?_take, List.getElem?_take]
                split
                · rename_i hp
                  rw [List.getElem?_drop, List.getElem?_drop, get_splice (by rw [hcl]; rw [e4] at hsz; exact hsz), if_pos (by omega)]
                · rfl
              rw [hseg]
              have hx : (xs.take lo ++ List.replicate (xs.length - lo) e'.zero)[i]'(by rw [hlen2]; exact hi) = xs[i] := by
                rw [List.getElem_append_left (by simp; omega), List.getElem_take]
              rw [hx]
              exact e6 i hi
            · have hj : i - lo < xs.length - lo := by omega
              have hseg : ((c.toList.take (lo * e'.size) ++ (List.replicate (xs.length - lo) e'.zv).flatten ++ c.toList.drop (lo * e'.size + ((List.replicate (xs.length - lo) e'.zv).flatten).length)).drop (i * e'.size)).take e'.size = e'.zv := by
                refine Eq.trans ?_ (zero_segs e' (xs.length - lo) _ rfl (i - lo) hj)
                apply List.ext_getElem?
                intro p
                rw [List.getElem?_take, List.getElem?_take]
                split
                · rename_i hp
                  have e9 : i * e'.size = lo * e'.size + (i - lo) * e'.size := by rw [← Nat.add_mul]; congr 1; omega
                  have h9 : (i - lo + 1) * e'.size ≤ (xs.length - lo) * e'.size := Nat.mul_le_mul_right _ hj
                  rw [Nat.add_mul] at h9
                  rw [List.getElem?_drop, List.getElem?_drop, get_splice (by rw [hcl]; rw [e4] at hsz; exact hsz), if_neg (by omega), if_pos (by
                    simp only [List.length_flatten, List.map_replicate, zv_length, List.sum_replicate_nat]; omega)]
                  congr 1; omega
                · rfl
              rw [hseg]
              have hx : (xs.take lo ++ List.replicate (xs.length - lo) e'.zero)[i]'(by rw [hlen2]; exact hi) = e'.zero := by
                rw [List.getElem_append_right (by simp; omega), List.getElem_replicate]
              rw [hx]
              exact zero_rep e')
          refine ⟨.tuple #[], _, ?_, i1, x1, fun b hb hno => p2 b fun e0 => hno q (by simp [AV.refs]) sl hsl (e0 ▸ e1), calm_setCells _ _ _ _⟩
          obtain ⟨m, hm⟩ : ∃ m, xs.length - lo = m + 1 := ⟨xs.length - lo - 1, by omega⟩
          rw [hm] at hst ⊢
          simp [Builtin.clear_, run_underlying hu, hzr, hz, hst]
      · cases hk
    · cases hk
  · cases hk

theorem op_builtin {G : Glob} (hG : TysOk P G) {o : Oper} {e : Env} {c : Call} {b : Builtin} {k : K1} {r : Res} (ho : o.op = .call c) (hcal : c.callee = .builtin b)
    (hk : builtinA G b c.argTypes.toList (evs e c.args.toList) s k = some r) : ∃ v s', k v s' = some r ∧ OpOk P o e s (tchB b (evs e c.args.toList)) v s' ∧ (quietB b = true → s' = s ∧ ∀ wr, OpQ P o e s wr v) := by
  have quiet : ∀ v tch, k v s = some r → (∀ wr, OpQ P o e s wr v) → tch = [] → ∃ v s', k v s' = some r ∧ OpOk P o e s tch v s' ∧ (quietB b = true → s' = s ∧ ∀ wr, OpQ P o e s wr v) := fun v tch h1 h2 h3 => ⟨v, s, h1, h3 ▸ (h2 []).ok, fun _ => ⟨rfl, h2⟩⟩
  unfold builtinA at hk
  split at hk
  · -- len
    rename_i t x ht hx
    obtain ⟨y, hy, hye⟩ := args_one hx
    have hts := arr_one ht
    have hrun : ∀ (w : World) (a : Act), (execOp a.eval o).run P w = ((Builtin.len_ #[t] o.type #[a.eval y]).run P w).andThen fun v w => .ok (.value v) w := by
      intro w a
      simp [execOp, ho, resolve, hcal, invoke, builtin, hy, hts]
    split at hk
    · rename_i n hty hln
      split at hk
      · rename_i bb
        refine quiet _ _ hk (fun wr X h μ a inv he => ?_) rfl
        have g := ev_rv he y
        rw [hye] at g
        rcases lenA_rv inv hln g with ⟨b', h1, h2, h3⟩ | ⟨h1, _⟩
        · have hu : P.underlying t = some .string := by
            rcases hG.ty _ _ _ hty with hh | ⟨hh, _⟩
            · exact hh.2.2
            · cases hh
          refine ⟨.int .i64 n, fun w _ => ?_, by simp only [RV]⟩
          rw [hrun, h2, h3]
          simp [Builtin.len_, run_underlying hu, goInt]
        · exact absurd rfl (h1 _)
      · cases hk
    · rename_i T n hty hln
      split at hk
      · cases hk
      · rename_i hns
        refine quiet _ _ hk (fun wr X h μ a inv he => ?_) rfl
        have g := ev_rv he y
        rw [hye] at g
        rcases lenA_rv inv hln g with ⟨b', h1, _⟩ | ⟨h1, ad, m, cap, h2, h3⟩
        · exact absurd h1 (hns b')
        · obtain ⟨te, ag', hu, _⟩ := elem_of (hG.ty _ _ _ hty) rfl
          refine ⟨.int .i64 n, fun w _ => ?_, by simp only [RV]⟩
          rw [hrun, h2, h3]
          simp [Builtin.len_, run_underlying hu, goInt]
    · cases hk
  · -- append
    rename_i t t' d x ht hx
    obtain ⟨y, z, hyz, hye, hze⟩ := args_two hx
    have hts := arr_two ht
    split at hk
    · rename_i el hty
      obtain ⟨te, ag', hu, hte⟩ := elem_of (hG.ty _ _ _ hty) rfl
      have hgo : ∀ ds : TypeDesc, P.underlying t' = some ds → (∀ k, ds ≠ .int k) → appendA s el d x k = some r → ∃ v s', k v s' = some r ∧ OpOk P o e s (tchB .append (evs e c.args.toList)) v s' ∧ (quietB .append = true → s' = s ∧ ∀ wr, OpQ P o e s wr v) := by
        intro ds hu' hd hk
        obtain ⟨s', h1, h2⟩ := appendA_sound (ty := o.type) hu hte hu' hd hk
        refine ⟨_, s', h1, OpOk.of fun X μ w a inv he => ?_, by simp [quietB]⟩
        have g1 := ev_rv he y
        rw [hye] at g1
        have g2 := ev_rv he z
        rw [hze] at g2
        obtain ⟨cv, w', μ', q1, q2, q3, q4, q5, q6, q7⟩ := h2 X μ w _ _ inv g1 g2
        refine ⟨cv, w', μ', ?_, q2, q3, q4, by rw [hx]; exact q5, q6, q7⟩
        simp [execOp, ho, resolve, hcal, invoke, builtin, hyz, hts, q1]
      split at hk
      · rename_i kn hty'
        have hu' : P.underlying t' = some (.int kn) := by
          rcases hG.ty _ _ _ hty' with hh | ⟨hh, _⟩
          · exact hh.2.2
          · cases hh
        obtain ⟨v, s', h1, h2⟩ := zerosA_sound (ty := o.type) hu hte hu' hk
        refine ⟨_, s', h1, OpOk.of fun X μ w a inv he => ?_, by simp [quietB]⟩
        have g1 := ev_rv he y
        rw [hye] at g1
        have g2 := ev_rv he z
        rw [hze] at g2
        obtain ⟨cv, w', μ', q1, q2, q3, q4, q5, q6, q7⟩ := h2 X μ w _ _ inv g1 g2
        refine ⟨cv, w', μ', ?_, q2, q3, q4, by rw [hx]; exact q5, q6, q7⟩
        simp [execOp, ho, resolve, hcal, invoke, builtin, hyz, hts, q1]
      · cases hk
      · cases hk
      · rename_i hne0 hne1 hne2
        cases hty' : G.ty t' with
        | none => exact absurd hty' hne2
        | some p =>
          obtain ⟨ag2, T2⟩ := p
          rcases hG.ty _ _ _ hty' with hh | ⟨_, _, fs, hu'⟩
          · cases T2 with
            | int k =>
              cases ag2 with
              | true => exact absurd hty' (hne1 _)
              | false => exact absurd hty' (hne0 _)
            | bool => exact hgo _ hh.2.2 (by intro k hk; cases hk) hk
            | str => exact hgo _ hh.2.2 (by intro k hk; cases hk) hk
            | pair p q =>
              obtain ⟨_, _, fs, hu'⟩ := hh
              exact hgo _ hu' (by intro k hk; cases hk) hk
            | slice e' =>
              obtain ⟨_, _, te', ag3, hu', _⟩ := hh
              exact hgo _ hu' (by intro k hk; cases hk) hk
          · exact hgo _ hu' (by intro k hk; cases hk) hk
    · cases hk
  · -- cap
    rename_i t ht hx
    obtain ⟨y, hy, hye⟩ := args_one hx
    have hts := arr_one ht
    split at hk
    · rename_i el hty
      obtain ⟨te, ag', hu, hte⟩ := elem_of (hG.ty _ _ _ hty) rfl
      refine ⟨_, s, hk, OpOk.of fun X μ w a inv he => ?_, by simp [quietB]⟩
      have g := ev_rv he y
      rw [hye] at g
      simp only [RV] at g
      obtain ⟨ad, hv⟩ := g
      refine ⟨.int .i64 0, w, μ, ?_, inv, by simp only [RV], Ext.refl _ _ _ _, fun _ _ _ => rfl, Calm.refl w, fun _ _ => rfl⟩
      simp [execOp, ho, resolve, hcal, invoke, builtin, hy, hts, hv, Builtin.cap_, goInt, run_underlying hu]
    · cases hk
  · -- clear
    rename_i t x ht hx
    obtain ⟨y, hy, hye⟩ := args_one hx
    have hts := arr_one ht
    split at hk
    · rename_i el hty
      obtain ⟨te, ag', hu, hte⟩ := elem_of (hG.ty _ _ _ hty) rfl
      obtain ⟨s', h1, h2⟩ := clearA_sound (ty := o.type) hu hte hk
      refine ⟨_, s', h1, OpOk.of fun X μ w a inv he => ?_, by simp [quietB]⟩
      have g := ev_rv he y
      rw [hye] at g
      obtain ⟨cv, w', q1, q2, q4, q5, q6⟩ := h2 X μ w _ inv g
      refine ⟨cv, w', μ, ?_, q2, by simp only [RV], q4, by rw [hx]; exact q5, q6, fun _ _ => rfl⟩
      simp [execOp, ho, resolve, hcal, invoke, builtin, hy, hts, q1]
    · cases hk
  · -- min
    split at hk
    · rename_i v hv
      refine quiet _ _ hk (fun wr => ?_) rfl
      unfold minA at hv
      split at hv
      · rename_i k1 p k2 q heq
        split at hv
        · rename_i hkk
          cases hv
          subst hkk
          obtain ⟨y, z, hyz, hye, hze⟩ := args_two heq
          intro X h μ a inv he
          have g1 := ev_rv he y
          rw [hye] at g1
          have g2 := ev_rv he z
          rw [hze] at g2
          simp only [RV] at g1 g2
          refine ⟨.int k1 (if q < p then q else p), fun w _ => ?_, by simp only [RV]⟩
          simp [execOp, ho, resolve, hcal, invoke, builtin, hyz, g1, g2, Builtin.min_, Builtin.min2]
        · cases hv
      · cases hv
    · cases hk
  · -- max
    split at hk
    · rename_i v hv
      refine quiet _ _ hk (fun wr => ?_) rfl
      unfold maxA at hv
      split at hv
      · rename_i k1 p k2 q heq
        split at hv
        · rename_i hkk
          cases hv
          subst hkk
          obtain ⟨y, z, hyz, hye, hze⟩ := args_two heq
          intro X h μ a inv he
          have g1 := ev_rv he y
          rw [hye] at g1
          have g2 := ev_rv he z
          rw [hze] at g2
          simp only [RV] at g1 g2
          refine ⟨.int k1 (if q > p then q else p), fun w _ => ?_, by simp only [RV]⟩
          simp [execOp, ho, resolve, hcal, invoke, builtin, hyz, g1, g2, Builtin.max_, Builtin.max2]
        · cases hv
      · cases hv
    · cases hk
  · cases hk

/-- A call of a function of the program. -/
theorem op_call {G : Glob} (hG : GlobOk P G) {o : Oper} {e : Env} {c : Call} {f : Operand} {g : Nat} {caps : List AV} {k : K1} {r : Res} (ho : o.op = .call c) (hcal : c.callee = .value f) (hf : ev e f = .fn g caps)
    (hk : callStep G g c.argTypes.toList (evs e c.args.toList) caps s k = some r) : ∃ v s', k v s' = some r ∧ OpOk P o e s (handedOf G g c.argTypes.toList (evs e c.args.toList) caps s) v s' := by
  rcases hG.call g with hn | ⟨⟨fn, hfn, hbody, hname⟩, hc⟩
  · exfalso
    unfold callStep at hk
    have : ∀ args seen, callWith G g args seen s k = none := by
      intro args seen
      unfold callWith
      simp only
      cases meets seen (reach s 64 (refsL args) []) with
      | true => rfl
      | false => simp only [cond_false]; exact hn _ _ _
    cases hm : G.inPlace g with
    | true => rw [hm] at hk; simp only [cond_true] at hk; rw [this] at hk; cases hk
    | false =>
      rw [hm] at hk
      simp only [cond_false] at hk
      split at hk
      · cases hk
      · rw [this] at hk; cases hk
  · obtain ⟨v, s', h1, h2⟩ := callStep_sound hc hk
    refine ⟨v, s', h1, ?_⟩
    intro X μ w a inv he next Q hn
    have gf := ev_rv he f
    rw [hf] at gf
    simp only [RV] at gf
    obtain ⟨vs, hv, hcs⟩ := gf
    have hrun : (execOp a.eval o).run P w = .ok (.enter g ((c.args.toList.map a.eval) ++ vs.toList).toArray) w := by
      have harr : ((c.args.toList.map a.eval) ++ vs.toList).toArray = c.args.map a.eval ++ vs := by apply Array.ext'; simp
      rw [harr]
      simp only [execOp, ho, resolve, hcal, hv, Deferred.ofValue, Sem.run_bind, Sem.run_pure, Result.andThen_ok, invoke, callFunc, run_program, hfn, hname, Bool.false_eq_true, if_false, hbody, Array.empty_append]
    unfold Oper.wp
    rw [hrun]
    refine (h2 X μ w _ _ inv (evs_rv he _) hcs).mono ?_
    rintro e' w' ⟨cv, μ', rfl, q1, q2, q3, q5, q4, q6⟩
    exact hn cv w' μ' q1 q2 q3 q4 q5 fun r hr hc => q6 r hr (hc (by rw [ho]; simp [isCallV, hcal]))

end
end Go.VE
