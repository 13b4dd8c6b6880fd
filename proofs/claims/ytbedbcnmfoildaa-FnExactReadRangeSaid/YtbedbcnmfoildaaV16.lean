/- What cuts, what turns into another kind, the builtins. -/
import Derived.Test.YtbedbcnmfoildaaV15
namespace Go.VE
set_option linter.unusedVariables false
set_option linter.unusedSimpArgs false

section
variable {P : Program} {X : Nat → Prop} {μ : List Slot} {s : St} {h : Heap} {I : Nat → Prop} {wr : List Nat}

/-- A bound of a cut: what stands there, or what is meant. -/
def bnd (e : Env) (x : Option Operand) (d : Int) : Option Int :=
  match x.map (ev e) with
  | none => some d
  | some (.int _ n) => some n
  | _ => none

theorem bound_run {e : Env} {a : Act} (he : RVs h I μ s e a.tmps.toList) {x : Option Operand} {d n : Int} (hb : bnd e x d = some n) :
    (x = none ∧ n = d) ∨ ∃ y k, x = some y ∧ a.eval y = .int k n := by
  unfold bnd at hb
  cases x with
  | none => simp at hb; exact .inl ⟨rfl, hb.symm⟩
  | some y =>
    right
    simp only [Option.map_some] at hb
    split at hb
    · rename_i hh; cases hh
    · rename_i k m hy
      cases hb
      have h1 := ev_rv he y
      simp only [Option.some.injEq] at hy
      rw [hy] at h1
      simp only [RV] at h1
      exact ⟨y, k, rfl, h1⟩
    · cases hb

theorem run_sliceBounds {w : World} (sl : Bool) (len cap : Nat) (lo hi : Option Value) (l u : Nat)
    (hlo : (lo = none ∧ l = 0) ∨ ∃ k, lo = some (.int k l)) (hhi : (hi = none ∧ u = len) ∨ ∃ k, hi = some (.int k u)) (hlu : l ≤ u) (huc : u ≤ cap) :
    (Instr.sliceBounds sl len cap lo hi none).run P w = .ok (l, u, cap) w := by
  have hb : ∀ (k : IntKind) (x y : Nat) (c : BoundsCode), x ≤ y → (Instr.sliceBound (.int k x) y c).run P w = .ok x w := by
    intro k x y c hxy
    have hc : (0 : Int) ≤ (x : Int) ∧ (x : Int) ≤ (y : Int) := by omega
    simp [Instr.sliceBound, asIntOf, hc]
  unfold Instr.sliceBounds
  rcases hlo with ⟨rfl, rfl⟩ | ⟨k, rfl⟩ <;> rcases hhi with ⟨rfl, rfl⟩ | ⟨k', rfl⟩
  · simp
  · simp [hb _ _ _ _ huc]
  · simp [hb _ _ _ _ hlu]
  · simp [hb _ _ _ _ huc, hb _ _ _ _ hlu]

theorem op_slice_str {o : Oper} {e : Env} {t : TypeId} {x : Operand} {lo hi : Option Operand} {b : ByteArray} {l u : Int} (ho : o.op = .slice t x lo hi none) (ht : TyOk1 P .str t false) (hx : ev e x = .str b)
    (hl : bnd e lo 0 = some l) (hu : bnd e hi b.size = some u) (h0 : 0 ≤ l) (h1 : l ≤ u) (h2 : u ≤ (b.size : Int)) : OpQ P o e s wr (.str (b.extract l.toNat u.toNat)) :=
  fun X h μ a inv he => by
    have g2 := ev_rv he x
    rw [hx] at g2
    simp only [RV] at g2
    have hun : P.underlying t = some .string := by
      rcases ht with ht | ⟨hh, _⟩
      · exact ht.2.2
      · cases hh
    obtain ⟨l, rfl⟩ := Int.eq_ofNat_of_zero_le h0
    obtain ⟨u, rfl⟩ := Int.eq_ofNat_of_zero_le (show 0 ≤ u by omega)
    have hlo : (lo.map a.eval = none ∧ l = 0) ∨ ∃ k, lo.map a.eval = some (.int k l) := by
      rcases bound_run he hl with ⟨rfl, hh⟩ | ⟨y, k, rfl, hy⟩
      · exact .inl ⟨rfl, by omega⟩
      · exact .inr ⟨k, by simp [hy]⟩
    have hhi : (hi.map a.eval = none ∧ u = b.size) ∨ ∃ k, hi.map a.eval = some (.int k u) := by
      rcases bound_run he hu with ⟨rfl, hh⟩ | ⟨y, k, rfl, hy⟩
      · exact .inl ⟨rfl, by omega⟩
      · exact .inr ⟨k, by simp [hy]⟩
    refine ⟨.string (b.extract l u), fun w _ => ?_, by simp only [RV, Int.toNat_natCast]⟩
    have := run_sliceBounds (P := P) (w := w) false b.size b.size _ _ l u hlo hhi (by omega) (by omega)
    simp [execOp, ho, Instr.sliceAt, Instr.slice, run_underlying hun, g2, this]

theorem op_slice_nil {o : Oper} {e : Env} {t : TypeId} {x : Operand} {lo hi : Option Operand} {T : Ty} {l u : Int} (ho : o.op = .slice t x lo hi none) (ht : TyOk1 P (.slice T) t false) (hx : ev e x = .nilS)
    (hl : bnd e lo 0 = some l) (hu : bnd e hi 0 = some u) (h0 : 0 ≤ l) (h1 : l ≤ u) (h2 : u ≤ 0) : OpQ P o e s wr .nilS :=
  fun X h μ a inv he => by
    have g2 := ev_rv he x
    rw [hx] at g2
    simp only [RV] at g2
    obtain ⟨ad, g2⟩ := g2
    obtain ⟨te, ag', hun, hte⟩ := elem_of ht rfl
    have hl0 : l = 0 := by omega
    have hu0 : u = 0 := by omega
    subst hl0; subst hu0
    have hlo : (lo.map a.eval = none ∧ 0 = 0) ∨ ∃ k, lo.map a.eval = some (.int k (0 : Nat)) := by
      rcases bound_run he hl with ⟨rfl, hh⟩ | ⟨y, k, rfl, hy⟩
      · exact .inl ⟨rfl, rfl⟩
      · exact .inr ⟨k, by simp [hy]⟩
    have hhi : (hi.map a.eval = none ∧ 0 = 0) ∨ ∃ k, hi.map a.eval = some (.int k (0 : Nat)) := by
      rcases bound_run he hu with ⟨rfl, hh⟩ | ⟨y, k, rfl, hy⟩
      · exact .inl ⟨rfl, rfl⟩
      · exact .inr ⟨k, by simp [hy]⟩
    refine ⟨.slice ad 0 0, fun w _ => ?_, by simp only [RV]; exact ⟨_, rfl⟩⟩
    have := run_sliceBounds (P := P) (w := w) true 0 0 _ _ 0 0 hlo hhi (Nat.le_refl _) (Nat.le_refl _)
    simp [execOp, ho, Instr.sliceAt, Instr.slice, run_underlying hun, g2, this, hte.size]

/-- A cut of a slice that is read. -/
theorem run_slice_ro {w : World} {t : TypeId} {T el : Ty} {xs : List el.D} {v : Value} {lo hi : Option Value} {l u : Nat} (ht : TyOk1 P (.slice T) t false) (hs : el.size = T.size)
    (hr : Rep w.heap I (.slice el) [v] xs) (hlo : (lo = none ∧ l = 0) ∨ ∃ k, lo = some (.int k l)) (hhi : (hi = none ∧ u = xs.length) ∨ ∃ k, hi = some (.int k u)) (hlu : l ≤ u) (hul : u ≤ xs.length) :
    ∃ cv, (Instr.sliceAt t v lo hi none).run P w = .ok cv w ∧ Rep w.heap I (.slice el) [cv] ((xs.take u).drop l) := by
  obtain ⟨te, ag', hun, hte⟩ := elem_of ht rfl
  obtain ⟨ad, cap, rfl, hcap, hx⟩ := slice_cells hr
  have hb := run_sliceBounds (P := P) (w := w) true xs.length cap lo hi l u hlo hhi hlu (by omega)
  refine ⟨.slice (if cap = l then ad else ad.map (·.add (l * T.size))) (u - l) (cap - l), ?_, ?_⟩
  · simp [Instr.sliceAt, Instr.slice, run_underlying hun, hb, hte.size]
  · have hlen : ((xs.take u).drop l).length = u - l := by simp; omega
    refine ⟨_, cap - l, by rw [hlen], by rw [hlen]; omega, ?_⟩
    rcases hx with hx | ⟨b, o', c, elt, fr, rfl, hb', hc, hsz, hseg⟩
    · left
      rw [hx]; simp
    · by_cases hle : u - l = 0
      · left
        have : ((xs.take u).drop l).length = 0 := by rw [hlen]; exact hle
        exact List.length_eq_zero_iff.1 this
      · right
        have hne : ¬ cap = l := by omega
        refine ⟨b, o' + l * T.size, by rw [if_neg hne]; simp [addr_add], hb', ?_⟩
        intro i hi'
        rw [hlen] at hi'
        have hli : l + i < xs.length := by omega
        refine ⟨_, ⟨c, elt, fr, hc, ?_⟩, (by
          have : ((xs.take u).drop l)[i]'(by rw [hlen]; exact hi') = xs[l + i] := by
            rw [List.getElem_drop, List.getElem_take]
          rw [this]
          exact hseg (l + i) hli)⟩
        intro j v hj
        have h3 := seg_get _ _ _ _ _ hj
        rw [Array.getElem?_toList] at h3
        rw [← hs]
        rw [show o' + l * el.size + i * el.size + j = o' + (l + i) * el.size + j by rw [Nat.add_mul]; omega]
        exact h3

theorem op_slice_ro {o : Oper} {e : Env} {t : TypeId} {x : Operand} {lo hi : Option Operand} {T el : Ty} {xs : List el.D} {l u : Int} (ho : o.op = .slice t x lo hi none) (ht : TyOk1 P (.slice T) t false) (hs : el.size = T.size)
    (s' : St) (hst : ∀ X h μ, Inv X h μ s → Inv X h μ s' ∧ Ext X h μ s h μ s')
    (hx : ∀ X μ (w : World) (a : Act), Inv X w.heap μ s → RVs w.heap (Im X w.heap μ s) μ s e a.tmps.toList → Rep w.heap (Im X w.heap μ s') (.slice el) [a.eval x] xs)
    (hl : bnd e lo 0 = some l) (hu : bnd e hi xs.length = some u) (h0 : 0 ≤ l) (h1 : l ≤ u) (h2 : u ≤ (xs.length : Int)) : OpOk P o e s [] (.lst el ((xs.take u.toNat).drop l.toNat)) s' :=
  OpOk.of fun X μ w a inv he => by
    obtain ⟨l, rfl⟩ := Int.eq_ofNat_of_zero_le h0
    obtain ⟨u, rfl⟩ := Int.eq_ofNat_of_zero_le (show 0 ≤ u by omega)
    have hlo : (lo.map a.eval = none ∧ l = 0) ∨ ∃ k, lo.map a.eval = some (.int k l) := by
      rcases bound_run he hl with ⟨rfl, hh⟩ | ⟨y, k, rfl, hy⟩
      · exact .inl ⟨rfl, by omega⟩
      · exact .inr ⟨k, by simp [hy]⟩
    have hhi : (hi.map a.eval = none ∧ u = xs.length) ∨ ∃ k, hi.map a.eval = some (.int k u) := by
      rcases bound_run he hu with ⟨rfl, hh⟩ | ⟨y, k, rfl, hy⟩
      · exact .inl ⟨rfl, by omega⟩
      · exact .inr ⟨k, by simp [hy]⟩
    obtain ⟨i1, e1⟩ := hst X w.heap μ inv
    obtain ⟨cv, g1, g2⟩ := run_slice_ro (P := P) (w := w) ht hs (hx X μ w a inv he) hlo hhi (by omega) (by omega)
    refine ⟨cv, w, μ, ?_, i1, ?_, e1, fun _ _ _ => rfl, Calm.refl w, fun _ _ => rfl⟩
    · simp only [execOp, ho, Option.map_none, Sem.run_bind, g1, Result.andThen_ok, Sem.run_pure]
    · simp only [RV, Int.toNat_natCast]; exact g2

/-! ### kinds -/

theorem op_conv_int {o : Oper} {e : Env} {src dst : TypeId} {x : Operand} {S : Ty} {sa : Bool} {k kd : IntKind} {n : Int} (ho : o.op = .convert src dst x) (hs : TyOk1 P S src sa) (hd : TyOk1 P (.int kd) dst false)
    (hx : ev e x = .int k n) : OpQ P o e s wr (.int kd (kd.wrap n)) :=
  fun X h μ a inv he => by
    have g2 := ev_rv he x
    rw [hx] at g2
    simp only [RV] at g2
    obtain ⟨d, hu⟩ := hs.under
    have hud : P.underlying dst = some (.int kd) := by
      rcases hd with ht | ⟨hh, _⟩
      · exact ht.2.2
      · cases hh
    refine ⟨.int kd (kd.wrap n), fun w _ => ?_, by simp only [RV]⟩
    simp [execOp, ho, g2, convert, run_underlying hu, run_underlying hud, Conv.intToInt]

theorem op_conv_str {o : Oper} {e : Env} {src dst : TypeId} {x : Operand} {S : Ty} {sa : Bool} {b : ByteArray} (ho : o.op = .convert src dst x) (hs : TyOk1 P S src sa) (hd : TyOk1 P .str dst false)
    (hx : ev e x = .str b) : OpQ P o e s wr (.str b) :=
  fun X h μ a inv he => by
    have g2 := ev_rv he x
    rw [hx] at g2
    simp only [RV] at g2
    obtain ⟨d, hu⟩ := hs.under
    have hud : P.underlying dst = some .string := by
      rcases hd with ht | ⟨hh, _⟩
      · exact ht.2.2
      · cases hh
    refine ⟨.string b, fun w _ => ?_, by simp only [RV]⟩
    simp [execOp, ho, g2, convert, run_underlying hu, run_underlying hud]

theorem flat_bytes {ns : List Int} {cs : List Value} (hl : cs.length = ns.length) (hs : ∀ i (hi : i < ns.length), Rep h I (.int .u8) ((cs.drop (i * 1)).take 1) ns[i]) : cs = ns.map (Value.int .u8) := by
  apply List.ext_getElem?
  intro i
  by_cases hi : i < ns.length
  · have h1 : (cs.drop (i * 1)).take 1 = [.int .u8 ns[i]] := hs i hi
    have h2 : ((cs.drop (i * 1)).take 1)[0]? = some (.int .u8 ns[i]) := by rw [h1]; rfl
    have h3 := seg_get _ _ _ _ _ h2
    rw [Nat.mul_one, Nat.add_zero] at h3
    rw [h3]
    simp [hi]
  · rw [List.getElem?_eq_none (by omega), List.getElem?_eq_none (by simp; omega)]

theorem op_conv_bytes {o : Oper} {e : Env} {src dst : TypeId} {x : Operand} {ns : List Int} (ho : o.op = .convert src dst x) (hs : TyOk1 P (.slice (.int .u8)) src false) (hd : TyOk1 P .str dst false)
    (hx : sliceOf s (.int .u8) (ev e x) = some ns) : OpOk P o e s [] (.str (bytesOf ns)) s :=
  OpOk.of fun X μ w a inv he => by
    obtain ⟨te, ag', hu, hte⟩ := elem_of hs rfl
    have hue : P.underlying te = some (.int .u8) := hte.2.2
    have hud : P.underlying dst = some .string := by
      rcases hd with ht | ⟨hh, _⟩
      · exact ht.2.2
      · cases hh
    have hsrc : srcOf s (.int .u8) (ev e x) = some ns := by
      unfold srcOf
      split
      · rename_i hh
        rw [hh] at hx
        simp [sliceOf] at hx
      · exact hx
    obtain ⟨l1, cs, f1, c1, o1, s1⟩ := srcOf_src (P := P) inv hsrc (ev_rv he x)
    have hcs : cs = ns.map (Value.int .u8) := flat_bytes (by simpa [Ty.size] using c1) s1
    refine ⟨.string (bytesOf ns), w, μ, ?_, inv, by simp only [RV], Ext.refl _ _ _ _, fun _ _ _ => rfl, Calm.refl w, fun _ _ => rfl⟩
    have f1' := f1 w rfl
    have l1' := l1 w
    cases hv : a.eval x with
    | slice ad n cap =>
      rw [hv] at f1' l1'
      simp only [Builtin.lenOf, Sem.run_pure, Result.ok.injEq, and_true] at l1'
      have hgo : (convert src dst (.slice ad n cap)).run P w = .ok (.string (bytesOf ns)) w := by
        rw [run_convert_bytes_string w src dst te ad n cap hu hue hud]
        cases ad with
        | none =>
          simp only [Builtin.firstCells, Sem.run_pure, Result.ok.injEq, and_true] at f1'
          have : cs = [] := by simpa using f1'.symm
          rw [this] at hcs
          have hns : ns = [] := by simpa using hcs.symm
          subst hns
          rfl
        | some ad =>
          simp only [Builtin.firstCells, Ty.size, Nat.mul_one, ← l1'] at f1'
          rw [hcs] at f1'
          rw [run_bytesToString w ad n cap ns (by simpa using f1')]
          rfl
      simp only [execOp, ho, hv, Sem.run_bind, hgo, Result.andThen_ok, Sem.run_pure]
    | string b =>
      exfalso
      have := ev_rv he x
      rw [hv] at this
      revert this hx
      cases ev e x with
      | lst e' xs => intro hx this; simp only [RV] at this; obtain ⟨_, _, hh, _⟩ := this; cases hh
      | nilS => intro hx this; simp only [RV] at this; obtain ⟨_, hh⟩ := this; cases hh
      | own r =>
        intro hx this
        simp only [RV] at this
        obtain ⟨sl, _, h2⟩ := this
        cases hg : getR s r with
        | box _ => rw [hg] at h2; exact h2
        | arr _ _ => rw [hg] at h2; obtain ⟨_, hh, _⟩ := h2; cases hh
        | frz _ _ => rw [hg] at h2; obtain ⟨_, _, hh, _⟩ := h2; cases hh
        | gone => simp [sliceOf, hg] at hx
      | _ => intro hx; simp [sliceOf] at hx
    | _ => rw [hv] at l1'; simp [Builtin.lenOf] at l1'

/-! ### builtins -/

theorem lenA_rv {a : AV} {v : Value} {n : Int} (inv : Inv X h μ s) (hl : lenA s a = some n) (hv : RV h (Im X h μ s) μ s a v) :
    (∃ b : ByteArray, a = .str b ∧ v = .string b ∧ n = b.size) ∨ ((∀ b, a ≠ .str b) ∧ ∃ (ad : Option Addr) (m cap : Nat), v = .slice ad m cap ∧ n = m) := by
  unfold lenA at hl
  split at hl
  · rename_i t
    cases hl
    simp only [RV] at hv
    exact .inl ⟨t, rfl, hv, rfl⟩
  · cases hl
    simp only [RV] at hv
    obtain ⟨ad, cap, hh, _⟩ := hv
    cases hh
    exact .inr ⟨by simp, ad, _, cap, rfl, rfl⟩
  · cases hl
    simp only [RV] at hv
    obtain ⟨ad, hh⟩ := hv
    exact .inr ⟨by simp, ad, 0, 0, hh, rfl⟩
  · rename_i r
    simp only [RV] at hv
    obtain ⟨sl, _, h2⟩ := hv
    cases hg : getR s r with
    | box _ => rw [hg] at hl; cases hl
    | gone => rw [hg] at hl; cases hl
    | arr e xs =>
      rw [hg] at hl h2
      cases hl
      obtain ⟨ad, hh, _⟩ := h2
      exact .inr ⟨by simp, ad, _, _, hh, rfl⟩
    | frz e xs =>
      rw [hg] at hl h2
      cases hl
      obtain ⟨ad, cap, hh, _⟩ := h2
      cases hh
      exact .inr ⟨by simp, ad, _, cap, rfl, rfl⟩
  · cases hl

theorem args_two {e : Env} {args : Array Operand} {p q : AV} (hl : evs e args.toList = [p, q]) :
    ∃ x y, args = #[x, y] ∧ ev e x = p ∧ ev e y = q := by
  obtain ⟨l⟩ := args
  match l, hl with
  | [], hl => simp [evs] at hl
  | [x], hl => simp [evs] at hl
  | [x, y], hl =>
    simp only [evs, List.cons.injEq, and_true] at hl
    exact ⟨x, y, rfl, hl.1, hl.2⟩
  | _ :: _ :: _ :: _, hl => simp [evs] at hl

theorem args_one {e : Env} {args : Array Operand} {p : AV} (hl : evs e args.toList = [p]) : ∃ x, args = #[x] ∧ ev e x = p := by
  obtain ⟨l⟩ := args
  match l, hl with
  | [], hl => simp [evs] at hl
  | [x], hl =>
    simp only [evs, List.cons.injEq, and_true] at hl
    exact ⟨x, rfl, hl⟩
  | _ :: _ :: _, hl => simp [evs] at hl

theorem arr_one {ts : Array Nat} {t : Nat} (h : ts.toList = [t]) : ts = #[t] := by cases ts; simp at h; rw [h]
theorem arr_two {ts : Array Nat} {t t' : Nat} (h : ts.toList = [t, t']) : ts = #[t, t'] := by cases ts; simp at h; rw [h]

def tchB : Builtin → List AV → List Nat
  | .append, [d, _] => d.refs
  | _, _ => []

def quietB : Builtin → Bool
  | .len => true
  | .min => true
  | .max => true
  | _ => false

theorem op_builtin {G : Glob} (hG : TysOk P G) {o : Oper} {e : Env} {c : Call} {b : Builtin} {k : K1} {r : Res} (ho : o.op = .call c) (hcal : c.callee = .builtin b)
    (hk : builtinA G b c.argTypes.toList (evs e c.args.toList) s k = some r) : ∃ v s', k v s' = some r ∧ OpOk P o e s (tchB b (evs e c.args.toList)) v s' ∧ (quietB b = true → s' = s ∧ ∀ wr, OpQ P o e s wr v) := by
  have quiet : ∀ v tch, k v s = some r → (∀ wr, OpQ P o e s wr v) → tch = [] → ∃ v s', k v s' = some r ∧ OpOk P o e s tch v s' ∧ (quietB b = true → s' = s ∧ ∀ wr, OpQ P o e s wr v) := fun v tch h1 h2 h3 => ⟨v, s, h1, h3 ▸ (h2 []).ok, fun _ => ⟨rfl, h2⟩⟩
  unfold builtinA at hk
  split at hk
  · -- len
    rename_i t x ht hx
    obtain ⟨y, hy, hye⟩ := args_one hx
    have hts := arr_one ht
    have hrun : ∀ (w : World) (a : Act), (execOp a.eval o).run P w = ((Builtin.len_ #[t] o.type #[a.eval y]).run P w).andThen fun v w => .ok (.value v) w := by
      intro w a
      simp [execOp, ho, resolve, hcal, invoke, builtin, hy, hts]
    split at hk
    · rename_i n hty hln
      split at hk
      · rename_i bb
        refine quiet _ _ hk (fun wr X h μ a inv he => ?_) rfl
        have g := ev_rv he y
        rw [hye] at g
        rcases lenA_rv inv hln g with ⟨b', h1, h2, h3⟩ | ⟨h1, _⟩
        · have hu : P.underlying t = some .string := by
            rcases hG.ty _ _ _ hty with hh | ⟨hh, _⟩
            · exact hh.2.2
            · cases hh
          refine ⟨.int .i64 n, fun w _ => ?_, by simp only [RV]⟩
          rw [hrun, h2, h3]
          simp [Builtin.len_, run_underlying hu, goInt]
        · exact absurd rfl (h1 _)
      · cases hk
    · rename_i T n hty hln
      split at hk
      · cases hk
      · rename_i hns
        refine quiet _ _ hk (fun wr X h μ a inv he => ?_) rfl
        have g := ev_rv he y
        rw [hye] at g
        rcases lenA_rv inv hln g with ⟨b', h1, _⟩ | ⟨h1, ad, m, cap, h2, h3⟩
        · exact absurd h1 (hns b')
        · obtain ⟨te, ag', hu, _⟩ := elem_of (hG.ty _ _ _ hty) rfl
          refine ⟨.int .i64 n, fun w _ => ?_, by simp only [RV]⟩
          rw [hrun, h2, h3]
          simp [Builtin.len_, run_underlying hu, goInt]
    · cases hk
  · -- append
    rename_i t t' d x ht hx
    obtain ⟨y, z, hyz, hye, hze⟩ := args_two hx
    have hts := arr_two ht
    split at hk
    · rename_i el hty
      obtain ⟨te, ag', hu, hte⟩ := elem_of (hG.ty _ _ _ hty) rfl
      have hgo : ∀ ds : TypeDesc, P.underlying t' = some ds → (∀ k, ds ≠ .int k) → appendA s el d x k = some r → ∃ v s', k v s' = some r ∧ OpOk P o e s (tchB .append (evs e c.args.toList)) v s' ∧ (quietB .append = true → s' = s ∧ ∀ wr, OpQ P o e s wr v) := by
        intro ds hu' hd hk
        obtain ⟨s', h1, h2⟩ := appendA_sound (ty := o.type) hu hte hu' hd hk
        refine ⟨_, s', h1, OpOk.of fun X μ w a inv he => ?_, by simp [quietB]⟩
        have g1 := ev_rv he y
        rw [hye] at g1
        have g2 := ev_rv he z
        rw [hze] at g2
        obtain ⟨cv, w', μ', q1, q2, q3, q4, q5, q6, q7⟩ := h2 X μ w _ _ inv g1 g2
        refine ⟨cv, w', μ', ?_, q2, q3, q4, by rw [hx]; exact q5, q6, q7⟩
        simp [execOp, ho, resolve, hcal, invoke, builtin, hyz, hts, q1]
      split at hk
      · cases hk
      · cases hk
      · rename_i hne1 hne2
        cases hty' : G.ty t' with
        | none => exact absurd hty' hne2
        | some p =>
          obtain ⟨ag2, T2⟩ := p
          rcases hG.ty _ _ _ hty' with hh | ⟨_, _, fs, hu'⟩
          · cases T2 with
            | int k => exact absurd hty' (hne1 _ _)
            | bool => exact hgo _ hh.2.2 (by intro k hk; cases hk) hk
            | str => exact hgo _ hh.2.2 (by intro k hk; cases hk) hk
            | pair p q =>
              obtain ⟨_, _, fs, hu'⟩ := hh
              exact hgo _ hu' (by intro k hk; cases hk) hk
            | slice e' =>
              obtain ⟨_, _, te', ag3, hu', _⟩ := hh
              exact hgo _ hu' (by intro k hk; cases hk) hk
          · exact hgo _ hu' (by intro k hk; cases hk) hk
    · cases hk
  · -- min
    split at hk
    · rename_i v hv
      refine quiet _ _ hk (fun wr => ?_) rfl
      unfold minA at hv
      split at hv
      · rename_i k1 p k2 q heq
        split at hv
        · rename_i hkk
          cases hv
          subst hkk
          obtain ⟨y, z, hyz, hye, hze⟩ := args_two heq
          intro X h μ a inv he
          have g1 := ev_rv he y
          rw [hye] at g1
          have g2 := ev_rv he z
          rw [hze] at g2
          simp only [RV] at g1 g2
          refine ⟨.int k1 (if q < p then q else p), fun w _ => ?_, by simp only [RV]⟩
          simp [execOp, ho, resolve, hcal, invoke, builtin, hyz, g1, g2, Builtin.min_, Builtin.min2]
        · cases hv
      · cases hv
    · cases hk
  · -- max
    split at hk
    · rename_i v hv
      refine quiet _ _ hk (fun wr => ?_) rfl
      unfold maxA at hv
      split at hv
      · rename_i k1 p k2 q heq
        split at hv
        · rename_i hkk
          cases hv
          subst hkk
          obtain ⟨y, z, hyz, hye, hze⟩ := args_two heq
          intro X h μ a inv he
          have g1 := ev_rv he y
          rw [hye] at g1
          have g2 := ev_rv he z
          rw [hze] at g2
          simp only [RV] at g1 g2
          refine ⟨.int k1 (if q > p then q else p), fun w _ => ?_, by simp only [RV]⟩
          simp [execOp, ho, resolve, hcal, invoke, builtin, hyz, g1, g2, Builtin.max_, Builtin.max2]
        · cases hv
      · cases hv
    · cases hk
  · cases hk

/-- A call of a function of the program. -/
theorem op_call {G : Glob} (hG : GlobOk P G) {o : Oper} {e : Env} {c : Call} {f : Operand} {g : Nat} {caps : List AV} {k : K1} {r : Res} (ho : o.op = .call c) (hcal : c.callee = .value f) (hf : ev e f = .fn g caps)
    (hk : callStep G g c.argTypes.toList (evs e c.args.toList) caps s k = some r) : ∃ v s', k v s' = some r ∧ OpOk P o e s (handedOf G g c.argTypes.toList (evs e c.args.toList) caps s) v s' := by
  rcases hG.call g with hn | ⟨⟨fn, hfn, hbody, hname⟩, hc⟩
  · exfalso
    unfold callStep at hk
    have : ∀ args seen, callWith G g args seen s k = none := by
      intro args seen
      unfold callWith
      simp only
      cases meets seen (reach s 64 (refsL args) []) with
      | true => rfl
      | false => simp only [cond_false]; exact hn _ _ _
    cases hm : G.inPlace g with
    | true => rw [hm] at hk; simp only [cond_true] at hk; rw [this] at hk; cases hk
    | false =>
      rw [hm] at hk
      simp only [cond_false] at hk
      split at hk
      · cases hk
      · rw [this] at hk; cases hk
  · obtain ⟨v, s', h1, h2⟩ := callStep_sound hc hk
    refine ⟨v, s', h1, ?_⟩
    intro X μ w a inv he next Q hn
    have gf := ev_rv he f
    rw [hf] at gf
    simp only [RV] at gf
    obtain ⟨vs, hv, hcs⟩ := gf
    have hrun : (execOp a.eval o).run P w = .ok (.enter g ((c.args.toList.map a.eval) ++ vs.toList).toArray) w := by
      have harr : ((c.args.toList.map a.eval) ++ vs.toList).toArray = c.args.map a.eval ++ vs := by apply Array.ext'; simp
      rw [harr]
      simp only [execOp, ho, resolve, hcal, hv, Deferred.ofValue, Sem.run_bind, Sem.run_pure, Result.andThen_ok, invoke, callFunc, run_program, hfn, hname, Bool.false_eq_true, if_false, hbody, Array.empty_append]
    unfold Oper.wp
    rw [hrun]
    refine (h2 X μ w _ _ inv (evs_rv he _) hcs).mono ?_
    rintro e' w' ⟨cv, μ', rfl, q1, q2, q3, q5, q4, q6⟩
    exact hn cv w' μ' q1 q2 q3 q4 q5 fun r hr hc => q6 r hr (hc (by rw [ho]; simp [isCallV, hcal]))

end
end Go.VE
