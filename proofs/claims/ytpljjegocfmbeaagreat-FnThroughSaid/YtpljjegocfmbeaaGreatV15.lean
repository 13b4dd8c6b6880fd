/- What looks in, cuts, reckons. -/
import Derived.Test.YtpljjegocfmbeaaGreatV14
namespace Go.VE
set_option linter.unusedVariables false
set_option linter.unusedSimpArgs false

section
variable {P : Program} {X : Nat → Prop} {μ : List Slot} {s : St} {h : Heap} {I : Nat → Prop} {wr : List Nat}

theorem TyOk.size {T : Ty} {t : TypeId} {ag : Bool} (h : TyOk P T t ag) (w : World) : (sizeOf t).run P w = .ok T.size w := run_sizeOf h.info w

theorem run_index_slice {w : World} {t te : TypeId} {ag' : Bool} {T : Ty} {b o' : Nat} {len cap : Nat} {k : IntKind} {n : Int} (hu : P.underlying t = some (.slice te)) (hte : TyOk P T te ag') (h0 : 0 ≤ n) (h1 : n < (len : Int)) :
    (Instr.indexAt t (.slice (some ⟨b, o', none⟩) len cap) (.int k n)).run P w = .ok (.pointer (some ⟨b, o' + n.toNat * T.size, none⟩)) w := by
  have hc : (0 ≤ n ∧ n < (len : Int)) := ⟨h0, h1⟩
  simp [Instr.indexAt, run_underlying hu, asIntOf, hte.size, hc, addr_add]

/-- Into a slice that is read. -/
theorem op_index_ro {o : Oper} {e : Env} {t : TypeId} {x i : Operand} {T : Ty} {el : Ty} {xs : List el.D} {k : IntKind} {n : Int} (ho : o.op = .indexAddr t x i) (ht : TyOk1 P (.slice T) t false) (hs : el.size = T.size)
    (hx : (∀ X h μ (a : Act), Inv X h μ s → RVs h (Im X h μ s) μ s e a.tmps.toList → Rep h (Im X h μ s) (.slice el) [a.eval x] xs)) (hi : ev e i = .int k n) (h0 : 0 ≤ n) (h1 : n < (xs.length : Int)) :
    OpQ P o e s wr (.ip el (rd el.zero xs n) 0) :=
  fun X h μ a inv he => by
    obtain ⟨te, ag', hu, hte⟩ := elem_of ht rfl
    have g1 := ev_rv he i
    rw [hi] at g1
    simp only [RV] at g1
    obtain ⟨m, rfl⟩ := Int.eq_ofNat_of_zero_le h0
    have hm : m < xs.length := by omega
    obtain ⟨ad, cap, hv, hcap, hx2⟩ := slice_cells (hx X h μ a inv he)
    rcases hx2 with hx2 | ⟨b, o', c, elt, fr, rfl, hb, hc, hsz, hseg⟩
    · rw [hx2] at hm; exact absurd hm (Nat.not_lt_zero _)
    · refine ⟨.pointer (some ⟨b, o' + m * T.size, none⟩), ?_, ?_⟩
      · intro w _
        have := run_index_slice (w := w) (k := k) (b := b) (o' := o') (len := xs.length) (cap := cap) hu hte h0 h1
        simp only [Int.toNat_natCast] at this
        simp [execOp, ho, hv, g1, this]
      · simp only [RV]
        have hrd : rd el.zero xs (m : Int) = xs[m] := by
          show xs.getD m el.zero = xs[m]
          exact getD_get _ hm
        rw [hrd]
        refine ⟨b, o' + m * T.size, _, hb, ⟨c, elt, fr, hc, ?_⟩, hseg m hm, rfl⟩
        intro j v hj
        have h3 := seg_get _ _ _ _ _ hj
        rw [Array.getElem?_toList] at h3
        rw [← hs]; exact h3

theorem op_index_own {o : Oper} {e : Env} {t : TypeId} {x i : Operand} {T : Ty} {el : Ty} {xs : List el.D} {k : IntKind} {n : Int} {r : Nat} (ho : o.op = .indexAddr t x i) (ht : TyOk1 P (.slice T) t false) (hs : el.size = T.size)
    (hx : ev e x = .own r) (hg : getR s r = .arr el xs) (hi : ev e i = .int k n) (h0 : 0 ≤ n) (h1 : n < (xs.length : Int)) :
    OpQ P o e s wr (.ep r n.toNat 0) :=
  fun X h μ a inv he => by
    obtain ⟨te, ag', hu, hte⟩ := elem_of ht rfl
    have g1 := ev_rv he i
    rw [hi] at g1
    simp only [RV] at g1
    obtain ⟨m, rfl⟩ := Int.eq_ofNat_of_zero_le h0
    have hm : m < xs.length := by omega
    have g2 := ev_rv he x
    rw [hx] at g2
    obtain ⟨sl, hsl, ad, hv, had⟩ := own_value hg g2
    have hreg := inv.reg r sl hsl
    rw [hg] at hreg
    rcases hreg with ⟨_, _, hx0⟩ | ⟨k', c, elt, fr, e1, e2, e3, e4, e5, e6⟩
    · rw [hx0] at hm; exact absurd hm (Nat.not_lt_zero _)
    · rcases had with had | ⟨k2, hk2, rfl⟩
      · omega
      · rw [e1] at hk2; cases hk2
        refine ⟨.pointer (some ⟨k', 0 + m * T.size, none⟩), ?_, ?_⟩
        · intro w _
          have := run_index_slice (w := w) (k := k) (b := k') (o' := 0) (len := xs.length) (cap := sl.cap) hu hte h0 h1
          simp only [Int.toNat_natCast] at this
          simp [execOp, ho, hv, g1, this]
        · simp only [RV, Int.toNat_natCast]
          refine ⟨sl, hsl, ?_⟩
          rw [hg]
          exact ⟨hm, k', e1, by rw [hs]; simp⟩

theorem op_index_win {o : Oper} {e : Env} {t : TypeId} {x i : Operand} {T : Ty} {el : Ty} {xs : List el.D} {k : IntKind} {n : Int} {r lo : Nat} (ho : o.op = .indexAddr t x i) (ht : TyOk1 P (.slice T) t false) (hs : el.size = T.size)
    (hx : ev e x = .win r lo) (hg : getR s r = .arr el xs) (hi : ev e i = .int k n) (h0 : 0 ≤ n) (h1 : n < (xs.length : Int) - (lo : Int)) :
    OpQ P o e s wr (.ep r (lo + n.toNat) 0) :=
  fun X h μ a inv he => by
    obtain ⟨te, ag', hu, hte⟩ := elem_of ht rfl
    have g1 := ev_rv he i
    rw [hi] at g1
    simp only [RV] at g1
    obtain ⟨m, rfl⟩ := Int.eq_ofNat_of_zero_le h0
    have hm : lo + m < xs.length := by omega
    have g2 := ev_rv he x
    rw [hx] at g2
    simp only [RV] at g2
    obtain ⟨sl, hsl, g2⟩ := g2
    rw [hg] at g2
    obtain ⟨hlo, ad, hv, had⟩ := g2
    rcases had with had | ⟨k2, hk2, rfl⟩
    · omega
    · refine ⟨.pointer (some ⟨k2, lo * el.size + m * T.size, none⟩), ?_, ?_⟩
      · intro w _
        have := run_index_slice (w := w) (k := k) (b := k2) (o' := lo * el.size) (len := xs.length - lo) (cap := sl.cap - lo) hu hte h0 (by omega)
        simp only [Int.toNat_natCast] at this
        simp [execOp, ho, hv, g1, this]
      · simp only [RV, Int.toNat_natCast]
        refine ⟨sl, hsl, ?_⟩
        rw [hg]
        exact ⟨hm, k2, hk2, by rw [← hs, Nat.add_mul]; simp⟩

theorem op_index_str {o : Oper} {e : Env} {t : TypeId} {x i : Operand} {k : IntKind} {n : Int} {b : ByteArray} (ho : o.op = .index t x i) (ht : TyOk1 P .str t false)
    (hx : ev e x = .str b) (hi : ev e i = .int k n) (h0 : 0 ≤ n) (h1 : n < (b.size : Int)) : OpQ P o e s wr (.int .u8 (bt b n)) :=
  fun X h μ a inv he => by
    have g1 := ev_rv he i
    rw [hi] at g1
    simp only [RV] at g1
    have g2 := ev_rv he x
    rw [hx] at g2
    simp only [RV] at g2
    have hu : P.underlying t = some .string := by
      rcases ht with ht | ⟨hh, _⟩
      · exact ht.2.2
      · cases hh
    obtain ⟨m, rfl⟩ := Int.eq_ofNat_of_zero_le h0
    have hm : m < b.size := by omega
    refine ⟨.int .u8 (bt b m), fun w _ => ?_, by simp only [RV]⟩
    have hb : bt b (m : Int) = ((b[m]).toNat : Int) := by
      show (((b.data.getD m 0).toNat : Nat) : Int) = _
      have : b.data.getD m 0 = b[m] := by
        have hm' : m < b.data.size := hm
        show (if h : m < b.data.size then b.data[m] else 0) = b[m]
        rw [dif_pos hm']
        rfl
      rw [this]
    rw [hb]
    have hget : b[m]? = some b[m] := by simp [hm]
    simp [execOp, ho, g1, g2, Instr.index, asIntOf, run_underlying hu, hget]

theorem op_binInt {o : Oper} {e : Env} {op : BinOp} {t t' : TypeId} {x y : Operand} {k : IntKind} {a b : Int} {K : AV → Option Res} {r : Res} (ho : o.op = .binOp op t x y t') (hx : ev e x = .int k a) (hy : ev e y = .int k b)
    (hk : intOp op k a b K = some r) : ∃ v, K v = some r ∧ ∀ wr, OpQ P o e s wr v := by
  have key : ∀ (v : AV) (cv : Value), (∀ w : World, (binOp op t (.int k a) (.int k b)).run P w = .ok cv w) → (∀ (X : Nat → Prop) (h : Heap) (μ : List Slot), RV h (Im X h μ s) μ s v cv) → ∀ wr, OpQ P o e s wr v := by
    intro v cv h1 h2 wr X h μ ac inv he
    refine ⟨cv, fun w _ => ?_, h2 _ _ _⟩
    have g1 := ev_rv he x
    rw [hx] at g1
    simp only [RV] at g1
    have g2 := ev_rv he y
    rw [hy] at g2
    simp only [RV] at g2
    have hge : (eqGuard op t x y (.int k a) (.int k b)).run P w = .ok () w := by
      unfold eqGuard
      cases op <;> simp
    simp only [execOp, ho, g1, g2, Sem.run_bind, hge, Result.andThen_ok, h1, Sem.run_pure]
  unfold intOp at hk
  cases op <;> simp only at hk <;> first | (cases hk; done) | skip
  case quo =>
    split at hk
    · cases hk
    · rename_i hb
      refine ⟨_, hk, key _ (.int k (k.wrap (a.tdiv b))) (fun w => ?_) (fun _ _ _ => by simp only [RV])⟩
      simp [binOp, Op.intDiv, hb]
  case rem =>
    split at hk
    · cases hk
    · rename_i hb
      refine ⟨_, hk, key _ (.int k (a.tmod b)) (fun w => ?_) (fun _ _ _ => by simp only [RV])⟩
      simp [binOp, Op.intDiv, hb]
  case and => exact ⟨_, hk, key _ (.int k (k.wrap (BitVec.ofInt k.bits a &&& BitVec.ofInt k.bits b).toNat)) (fun w => by simp only [binOp, ne_eq, not_true_eq_false, if_false]; rfl) (fun _ _ _ => by simp only [RV])⟩
  case or => exact ⟨_, hk, key _ (.int k (k.wrap (BitVec.ofInt k.bits a ||| BitVec.ofInt k.bits b).toNat)) (fun w => by simp only [binOp, ne_eq, not_true_eq_false, if_false]; rfl) (fun _ _ _ => by simp only [RV])⟩
  case xor => exact ⟨_, hk, key _ (.int k (k.wrap (BitVec.ofInt k.bits a ^^^ BitVec.ofInt k.bits b).toNat)) (fun w => by simp only [binOp, ne_eq, not_true_eq_false, if_false]; rfl) (fun _ _ _ => by simp only [RV])⟩
  all_goals exact ⟨_, hk, key _ _ (fun w => by simp [binOp, Op.intArith, Op.intBits, Op.intCmp]; rfl) (fun _ _ _ => by simp only [RV])⟩

theorem op_binShift {o : Oper} {e : Env} {op : BinOp} {t t' : TypeId} {x y : Operand} {k k' : IntKind} {a b : Int} {K : AV → Option Res} {r : Res} (ho : o.op = .binOp op t x y t') (hx : ev e x = .int k a) (hy : ev e y = .int k' b)
    (hk : shiftOp op k a b K = some r) : ∃ v, K v = some r ∧ ∀ wr, OpQ P o e s wr v := by
  have key : ∀ (v : AV) (cv : Value), (∀ w : World, (binOp op t (.int k a) (.int k' b)).run P w = .ok cv w) → (∀ (X : Nat → Prop) (h : Heap) (μ : List Slot), RV h (Im X h μ s) μ s v cv) → ∀ wr, OpQ P o e s wr v := by
    intro v cv h1 h2 wr X h μ ac inv he
    refine ⟨cv, fun w _ => ?_, h2 _ _ _⟩
    have g1 := ev_rv he x
    rw [hx] at g1
    simp only [RV] at g1
    have g2 := ev_rv he y
    rw [hy] at g2
    simp only [RV] at g2
    have hge : (eqGuard op t x y (.int k a) (.int k' b)).run P w = .ok () w := by
      unfold eqGuard
      cases op <;> simp
    simp only [execOp, ho, g1, g2, Sem.run_bind, hge, Result.andThen_ok, h1, Sem.run_pure]
  unfold shiftOp at hk
  cases op <;> simp only at hk <;> first | (cases hk; done) | skip
  case shl =>
    split at hk
    · cases hk
    · rename_i hb
      refine ⟨_, hk, key _ (.int k (k.wrap (a * 2 ^ (min b.toNat k.bits)))) (fun w => ?_) (fun _ _ _ => by simp only [RV])⟩
      simp [binOp, Op.shift, hb]
  case shr =>
    split at hk
    · cases hk
    · rename_i hb
      refine ⟨_, hk, key _ (.int k (a.fdiv (2 ^ (min b.toNat k.bits)))) (fun w => ?_) (fun _ _ _ => by simp only [RV])⟩
      simp [binOp, Op.shift, hb]

theorem op_binStr {o : Oper} {e : Env} {op : BinOp} {t t' : TypeId} {x y : Operand} {a b : ByteArray} {K : AV → Option Res} {r : Res} (ho : o.op = .binOp op t x y t') (hx : ev e x = .str a) (hy : ev e y = .str b)
    (hk : strOp op a b K = some r) : ∃ v, K v = some r ∧ ∀ wr, OpQ P o e s wr v := by
  have key : ∀ (v : AV) (cv : Value), (∀ w : World, (binOp op t (.string a) (.string b)).run P w = .ok cv w) → (∀ (X : Nat → Prop) (h : Heap) (μ : List Slot), RV h (Im X h μ s) μ s v cv) → ∀ wr, OpQ P o e s wr v := by
    intro v cv h1 h2 wr X h μ ac inv he
    refine ⟨cv, fun w _ => ?_, h2 _ _ _⟩
    have g1 := ev_rv he x
    rw [hx] at g1
    simp only [RV] at g1
    have g2 := ev_rv he y
    rw [hy] at g2
    simp only [RV] at g2
    have hge : (eqGuard op t x y (.string a) (.string b)).run P w = .ok () w := by
      unfold eqGuard
      cases op <;> simp
    simp only [execOp, ho, g1, g2, Sem.run_bind, hge, Result.andThen_ok, h1, Sem.run_pure]
  unfold strOp at hk
  cases op <;> simp only at hk <;> first | (cases hk; done) | skip
  case add =>
    split at hk
    · rename_i hle
      have hb : ¬ (((a.size + b.size : Nat) : Int) > IntKind.i64.max) := by
        have e1 : IntKind.i64.max = 9223372036854775807 := rfl
        rw [e1]; omega
      refine ⟨_, hk, key _ (.string (a ++ b)) (fun w => ?_) (fun _ _ _ => by simp only [RV])⟩
      simp only [binOp, Op.stringOp]
      rw [if_neg hb]
      rfl
    · cases hk
  all_goals exact ⟨_, hk, key _ _ (fun w => by simp only [binOp, Op.stringOp]; rfl) (fun _ _ _ => by simp only [RV, strEq_eq, strLess_eq])⟩

theorem run_equalIn_bool {t : TypeId} (hu : P.underlying t = some .bool) (d : Nat) (a b : Bool) (w : World) : (Op.equalIn (d + 1) t (.bool a) (.bool b)).run P w = .ok (a == b) w := by
  unfold Op.equalIn
  simp only [Sem.run_bind, run_underlying hu, Result.andThen_ok, Sem.run_pure]

theorem op_binBool {o : Oper} {e : Env} {op : BinOp} {t t' : TypeId} {x y : Operand} {a b : Bool} {v : AV} (ho : o.op = .binOp op t x y t') (ht : TyOk1 P .bool t false) (hx : ev e x = .bool a) (hy : ev e y = .bool b)
    (hv : (op = .eql ∧ v = .bool (a == b)) ∨ (op = .neq ∧ v = .bool !(a == b))) : OpQ P o e s wr v :=
  fun X h μ ac inv he => by
    have g1 := ev_rv he x
    rw [hx] at g1
    simp only [RV] at g1
    have g2 := ev_rv he y
    rw [hy] at g2
    simp only [RV] at g2
    have hu : P.underlying t = some .bool := by
      rcases ht with ht | ⟨hh, _⟩
      · exact ht.2.2
      · cases hh
    have heq : ∀ w : World, (Op.equal t (.bool a) (.bool b)).run P w = .ok (a == b) w := fun w => run_equalIn_bool hu 9999 a b w
    rcases hv with ⟨rfl, rfl⟩ | ⟨rfl, rfl⟩
    · refine ⟨.bool (a == b), fun w _ => ?_, by simp only [RV]⟩
      have hge : (eqGuard .eql t x y (.bool a) (.bool b)).run P w = .ok () w := by unfold eqGuard; simp
      simp only [execOp, ho, g1, g2, Sem.run_bind, hge, Result.andThen_ok, binOp, heq, Sem.run_pure]
    · refine ⟨.bool !(a == b), fun w _ => ?_, by simp only [RV]⟩
      have hge : (eqGuard .neq t x y (.bool a) (.bool b)).run P w = .ok () w := by unfold eqGuard; simp
      simp only [execOp, ho, g1, g2, Sem.run_bind, hge, Result.andThen_ok, binOp, heq, Sem.run_pure]

theorem data_flat (inv : Inv X h μ s) {T : Ty} (hf : T.flat = true) {cs : List AV} {x : T.D} {vs : List Value} (ht : T.data s cs = some x) (hv : RVs h (Im X h μ s) μ s cs vs) : vs = valsT T x :=
  Rep.flatT hf (data_rep (I0 := fun _ => True) inv (fun _ _ => trivial) ht hv (fun _ _ _ _ _ _ _ => trivial))

theorem op_binAgg {o : Oper} {e : Env} {op : BinOp} {t t' : TypeId} {x y : Operand} {T : Ty} {l m : List AV} {a b : T.D} {v : AV} (ho : o.op = .binOp op t x y t') (ht : EqT P t T) (hf : T.flat = true) (hx : ev e x = .agg l) (hy : ev e y = .agg m)
    (hl : T.data s l = some a) (hm : T.data s m = some b) (hv : (op = .eql ∧ v = .bool (T.eqB a b)) ∨ (op = .neq ∧ v = .bool !(T.eqB a b))) : OpQ P o e s wr v :=
  fun X h μ ac inv he => by
    have g1 := ev_rv he x
    rw [hx] at g1
    simp only [RV] at g1
    obtain ⟨vs, g1, g3⟩ := g1
    have g2 := ev_rv he y
    rw [hy] at g2
    simp only [RV] at g2
    obtain ⟨ws, g2, g4⟩ := g2
    have e1 : vs = (valsT T a).toArray := by rw [← data_flat inv hf hl g3]
    have e2 : ws = (valsT T b).toArray := by rw [← data_flat inv hf hm g4]
    rw [e1] at g1
    rw [e2] at g2
    have heq := fun w => ht.2 w a b
    rcases hv with ⟨rfl, rfl⟩ | ⟨rfl, rfl⟩
    · refine ⟨.bool (T.eqB a b), fun w _ => ?_, by simp only [RV]⟩
      have hge : (eqGuard .eql t x y (.agg (valsT T a).toArray) (.agg (valsT T b).toArray)).run P w = .ok () w := by unfold eqGuard; simp [ht.1]
      simp only [execOp, ho, g1, g2, Sem.run_bind, hge, Result.andThen_ok, binOp, heq, Sem.run_pure]
    · refine ⟨.bool !(T.eqB a b), fun w _ => ?_, by simp only [RV]⟩
      have hge : (eqGuard .neq t x y (.agg (valsT T a).toArray) (.agg (valsT T b).toArray)).run P w = .ok () w := by unfold eqGuard; simp [ht.1]
      simp only [execOp, ho, g1, g2, Sem.run_bind, hge, Result.andThen_ok, binOp, heq, Sem.run_pure]

end
end Go.VE
