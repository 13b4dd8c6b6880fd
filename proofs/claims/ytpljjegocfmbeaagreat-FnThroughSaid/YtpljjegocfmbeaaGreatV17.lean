/- Every operation that is carried out is sound. -/
import Derived.Test.YtpljjegocfmbeaaGreatV16
namespace Go.VE
set_option linter.unusedVariables false
set_option linter.unusedSimpArgs false

def isQuiet (G : Glob) : Op → Bool
  | .move _ => true
  | .assign _ => true
  | .pick _ _ _ => true
  | .build _ _ => true
  | .load _ _ => true
  | .nilCheck _ => true
  | .binOp _ _ _ _ _ => true
  | .unOp _ _ _ => true
  | .makeFunc _ _ _ => true
  | .fieldAddr _ _ _ => true
  | .field _ _ _ => true
  | .indexAddr _ _ _ => true
  | .index _ _ _ => true
  | .extract _ _ => true
  | .convert src _ _ => match G.ty src with
    | some (_, .slice _) => false
    | _ => true
  | .slice t _ _ _ _ => match G.ty t with
    | some (false, .str) => true
    | _ => false
  | .call c => match c.callee with
    | .builtin b => quietB b
    | _ => false
  | _ => false

def tchOf (G : Glob) (o : Op) (e : Env) (s : St) : List Nat :=
  match o with
  | .store _ a _ => (ev e a).refs
  | .call c => match c.callee with
    | .builtin b => tchB b (evs e c.args.toList)
    | .value f => match ev e f with
      | .fn g caps => handedOf G g c.argTypes.toList (evs e c.args.toList) caps s
      | _ => []
    | _ => []
  | _ => []

def liveAll (s : St) : List Nat → Bool
  | [] => true
  | r :: l => (Nat.ble s.length r || (getR s r).live) && liveAll s l

/-- A load is told not to look at what is written beside. -/
def qFar (o : Op) (e : Env) (s : St) (wr : List Nat) : Bool :=
  match wr with
  | [] => true
  | _ => match o with
    | .load _ x => farFrom wr (ev e x) && liveAll s wr
    | _ => true

theorem liveAll_spec {s : St} : ∀ {l : List Nat}, liveAll s l = true → ∀ r ∈ l, r < s.length → (getR s r).live = true
  | [], _, r, hr, _ => by simp at hr
  | a :: l, h, r, hr, hlt => by
    simp only [liveAll, Bool.and_eq_true, Bool.or_eq_true] at h
    simp only [List.mem_cons] at hr
    rcases hr with rfl | hr
    · exact h.1.resolve_left (fun hb => by have := Nat.le_of_ble_eq_true hb; omega)
    · exact liveAll_spec h.2 r hr hlt

section
variable {P : Program} {G : Glob} {s : St}

/-- What is known of an operation that was carried out. -/
def Done (P : Program) (G : Glob) (o : Oper) (e : Env) (s : St) (k : K1) (r : Res) : Prop :=
  ∃ v s', k v s' = some r ∧ OpOk P o e s (tchOf G o.op e s) v s' ∧ (isQuiet G o.op = true → s' = s ∧ ∀ wr, qFar o.op e s wr = true → OpQ P o e s wr v)

theorem Done.quiet {o : Oper} {e : Env} {k : K1} {r : Res} {v : AV} (hk : k v s = some r) (ht : tchOf G o.op e s = []) (hq : ∀ wr, qFar o.op e s wr = true → OpQ P o e s wr v) : Done P G o e s k r :=
  ⟨v, s, hk, by rw [ht]; exact (hq [] rfl).ok, fun _ => ⟨rfl, hq⟩⟩

theorem Done.loud {o : Oper} {e : Env} {k : K1} {r : Res} {v : AV} {s' : St} (hk : k v s' = some r) (hq : isQuiet G o.op = false) (h : OpOk P o e s (tchOf G o.op e s) v s') : Done P G o e s k r :=
  ⟨v, s', hk, h, fun hh => by rw [hq] at hh; cases hh⟩

theorem bin_sound {o : Oper} {e : Env} {op : BinOp} {t t' : TypeId} {x y : Operand} {isB : Bool} {K : AV → Option Res} {r : Res} (ho : o.op = .binOp op t x y t')
    (hb : isB = true → TyOk1 P .bool t false) (hk : binA isB op (ev e x) (ev e y) K = some r) : ∃ v, K v = some r ∧ ∀ wr, OpQ P o e s wr v := by
  unfold binA at hk
  split at hk
  · rename_i k a k' b hx hy
    split at hk
    · exact op_binShift ho hx hy hk
    · exact op_binShift ho hx hy hk
    · split at hk
      · rename_i hkk
        subst hkk
        exact op_binInt ho hx hy hk
      · cases hk
  · rename_i a b hx hy
    exact op_binStr ho hx hy hk
  · rename_i a b hx hy
    split at hk
    · exact ⟨_, hk, fun wr => op_binBool ho (hb rfl) hx hy (.inl ⟨rfl, rfl⟩)⟩
    · exact ⟨_, hk, fun wr => op_binBool ho (hb rfl) hx hy (.inr ⟨rfl, rfl⟩)⟩
    · cases hk
  · cases hk

/-- How 'sliceA' reads its bounds. -/
theorem lo_bnd {e : Env} {lo : Option Operand} {d l : Int} (h : (match lo.map (ev e) with | none => some d | some (.int _ n) => some n | _ => none) = some l) : bnd e lo d = some l := by
  unfold bnd
  exact h

theorem slice_sound {o : Oper} {e : Env} {t : TypeId} {x : Operand} {lo hi : Option Operand} {T : Ty} {k : K1} {r : Res} (ho : o.op = .slice t x lo hi none) (ht : TyOk1 P T t false)
    (hk : sliceA T s (ev e x) (lo.map (ev e)) (hi.map (ev e)) k = some r) : ∃ v s', k v s' = some r ∧ OpOk P o e s [] v s' ∧ (T = .str → s' = s ∧ ∀ wr, OpQ P o e s wr v) := by
  unfold sliceA at hk
  split at hk
  · cases hk
  · rename_i l hl
    split at hk
    · rename_i b hx
      split at hk
      · cases hk
      · rename_i u hu
        split at hk
        · rename_i hc
          have hq : ∀ wr, OpQ P o e s wr _ := fun wr => op_slice_str ho ht hx hl hu hc.1 hc.2.1 hc.2.2
          exact ⟨_, _, hk, (hq []).ok, fun _ => ⟨rfl, hq⟩⟩
        · cases hk
    · rename_i T' el xs hx
      split at hk
      · rename_i hsz
        split at hk
        · cases hk
        · rename_i u hu
          split at hk
          · rename_i hc
            refine ⟨_, _, hk, op_slice_ro ho ht hsz s (fun X h μ inv => ⟨inv, Ext.refl _ _ _ _⟩) ?_ hl hu hc.1 hc.2.1 hc.2.2, fun hh => by cases hh⟩
            intro X μ w a inv he
            have g := ev_rv he x
            rw [hx] at g
            simpa only [RV] using g
          · cases hk
      · cases hk
    · rename_i T' q hx
      split at hk
      · rename_i el xs hg
        split at hk
        · rename_i hsz
          split at hk
          · rename_i hlo hhi
            split at hk
            · rename_i hc
              cases lo with
              | none => cases hlo
              | some y =>
                cases hi with
                | some z => cases hhi
                | none =>
                  have hy : ∃ kk, ev e y = .int kk l := by
                    simp only [Option.map_some] at hl
                    split at hl
                    · rename_i hh; cases hh
                    · rename_i kk n hh; cases hl; exact ⟨kk, by simpa using hh⟩
                    · cases hl
                  obtain ⟨kk, hy⟩ := hy
                  exact ⟨_, _, hk, op_slice_win ho ht hsz hx hg hy hc.1 hc.2, fun hh => by cases hh⟩
            · cases hk
          · rename_i kk u hlo hhi
            split at hk
            · rename_i hc
              cases lo with
              | some y => cases hlo
              | none =>
                cases hi with
                | none => cases hhi
                | some z =>
                  exact ⟨_, _, hk, op_slice_head ho ht hsz hx hg (by simpa using hhi) hc.1 hc.2, fun hh => by cases hh⟩
            · cases hk
          split at hk
          · cases hk
          · rename_i u hu
            split at hk
            · rename_i hc
              have hfr : freeze1 s q = setR s q (.frz el xs) := by unfold freeze1; rw [hg]
              refine ⟨_, _, hk, op_slice_ro ho ht hsz _ (fun X h μ inv => by rw [← hfr]; exact freeze1_step inv q) ?_ hl hu hc.1 hc.2.1 hc.2.2, fun hh => by cases hh⟩
              intro X μ w a inv he
              have g := ev_rv he x
              rw [hx] at g
              obtain ⟨i1, e1⟩ := freeze1_step inv q
              have g2 := e1.rv _ _ g
              rw [hfr] at g2
              simp only [RV] at g2
              obtain ⟨sl, _, h2⟩ := g2
              rw [getR_setR _ _ _ _ (lt_of_getR hg (by simp)), if_pos rfl] at h2
              exact h2
            · cases hk
        · cases hk
      · rename_i el xs hg
        split at hk
        · rename_i hsz
          split at hk
          · cases hk
          · rename_i u hu
            split at hk
            · rename_i hc
              refine ⟨_, _, hk, op_slice_ro ho ht hsz s (fun X h μ inv => ⟨inv, Ext.refl _ _ _ _⟩) ?_ hl hu hc.1 hc.2.1 hc.2.2, fun hh => by cases hh⟩
              intro X μ w a inv he
              have g := ev_rv he x
              rw [hx] at g
              simp only [RV] at g
              obtain ⟨sl, _, h2⟩ := g
              rw [hg] at h2
              exact h2
            · cases hk
        · cases hk
      · cases hk
    · rename_i T' hx
      split at hk
      · cases hk
      · rename_i u hu
        split at hk
        · rename_i hc
          exact ⟨_, _, hk, (op_slice_nil (wr := []) ho ht hx hl hu hc.1 hc.2.1 hc.2.2).ok, fun hh => by cases hh⟩
        · cases hk
    · cases hk

theorem indexAddr_sound {o : Oper} {e : Env} {t : TypeId} {x i : Operand} {T : Ty} {k : K1} {r : Res} (ho : o.op = .indexAddr t x i) (ht : TyOk1 P (.slice T) t false)
    (hk : indexAddrA T s (ev e x) (ev e i) k = some r) : ∃ v, k v s = some r ∧ ∀ wr, OpQ P o e s wr v := by
  unfold indexAddrA at hk
  split at hk
  · rename_i kd n hi
    split at hk
    · rename_i el xs hx
      split at hk
      · rename_i hsz
        split at hk
        · rename_i hc
          refine ⟨_, hk, fun wr => op_index_ro ho ht hsz ?_ hi hc.1 hc.2⟩
          intro X h μ a inv he
          have g := ev_rv he x
          rw [hx] at g
          simpa only [RV] using g
        · cases hk
      · cases hk
    · rename_i q hx
      split at hk
      · rename_i el xs hg
        split at hk
        · rename_i hsz
          split at hk
          · rename_i hc
            exact ⟨_, hk, fun wr => op_index_own ho ht hsz hx hg hi hc.1 hc.2⟩
          · cases hk
        · cases hk
      · rename_i el xs hg
        split at hk
        · rename_i hsz
          split at hk
          · rename_i hc
            refine ⟨_, hk, fun wr => op_index_ro ho ht hsz ?_ hi hc.1 hc.2⟩
            intro X h μ a inv he
            have g := ev_rv he x
            rw [hx] at g
            simp only [RV] at g
            obtain ⟨sl, _, h2⟩ := g
            rw [hg] at h2
            exact h2
          · cases hk
        · cases hk
      · cases hk
    · rename_i q lo hx
      split at hk
      · rename_i el xs hg
        split at hk
        · rename_i hsz
          split at hk
          · rename_i hc
            exact ⟨_, hk, fun wr => op_index_win ho ht hsz hx hg hi hc.1 hc.2⟩
          · cases hk
        · cases hk
      · cases hk
    · cases hk
  · cases hk

theorem convert_sound (hG : TysOk P G) {o : Oper} {e : Env} {src dst : TypeId} {x : Operand} {k : K1} {r : Res} (ho : o.op = .convert src dst x)
    (hk : convertA G src dst (ev e x) s k = some r) : Done P G o e s k r := by
  unfold convertA at hk
  split at hk
  · cases hk
  · rename_i sa S hsrc
    split at hk
    · rename_i kd hd
      split at hk
      · rename_i k' n hx
        exact Done.quiet hk (by rw [ho]; rfl) fun wr _ => op_conv_int ho (hG.ty _ _ _ hsrc) (hG.ty _ _ _ hd) hx
      · cases hk
    · rename_i hd
      split at hk
      · rename_i b hx
        exact Done.quiet hk (by rw [ho]; rfl) fun wr _ => op_conv_str ho (hG.ty _ _ _ hsrc) (hG.ty _ _ _ hd) hx
      · cases hk
      · split at hk
        · split at hk
          · rename_i ns hns
            exact Done.loud hk (by rw [ho]; simp only [isQuiet, hsrc]) (by rw [ho]; exact op_conv_bytes ho (hG.ty _ _ _ hsrc) (hG.ty _ _ _ hd) hns)
          · cases hk
        · cases hk
    · cases hk

theorem op_sound (hG : GlobOk P G) {o : Oper} {e : Env} {k : K1} {r : Res} (hk : execOp1 G o.op e s k = some r) : Done P G o e s k r := by
  unfold execOp1 at hk
  split at hk
  · rename_i x ho
    exact Done.quiet hk (by rw [ho]; rfl) fun wr _ => op_move ho
  · rename_i x ho
    exact Done.quiet hk (by rw [ho]; rfl) fun wr _ => op_assign ho
  · rename_i c a b ho
    split at hk
    · rename_i t hc
      cases t with
      | true => exact Done.quiet hk (by rw [ho]; rfl) fun wr _ => op_pick ho hc
      | false => exact Done.quiet hk (by rw [ho]; rfl) fun wr _ => op_pick ho hc
    · cases hk
  · rename_i t ho
    split at hk
    · rename_i ag T ht
      exact Done.loud hk (by rw [ho]; rfl) (by rw [ho]; exact op_alloc ho (hG.tys.ty _ _ _ ht))
    · cases h1 : G.one t with
      | false => rw [h1] at hk; cases hk
      | true =>
        rw [h1] at hk
        exact Done.loud hk (by rw [ho]; rfl) (by rw [ho]; exact op_alloc1 ho (hG.ones _ h1))
  · rename_i t x ho
    split at hk
    · rename_i cs hc
      exact Done.loud hk (by rw [ho]; rfl) (by rw [ho]; exact op_box ho hc)
    · cases hk
  · rename_i t parts ho
    split at hk
    · rename_i T ht
      split at hk
      · rename_i cs hf
        exact Done.quiet hk (by rw [ho]; rfl) fun wr _ => op_build hG.tys ho ht hf
      · cases hk
    · cases hk
  · rename_i t n parts ho
    split at hk
    · rename_i el ht
      split at hk
      · rename_i cs hf
        split at hk
        · rename_i xs hx
          split at hk
          · rename_i hn
            exact Done.loud hk (by rw [ho]; rfl) (by rw [ho]; exact op_buildSlice ho (hG.tys.ty _ _ _ ht) hf hx hn)
          · cases hk
        · cases hk
      · cases hk
    · cases hk
  · rename_i t x ho
    split at hk
    · rename_i ag T ht
      split at hk
      · rename_i cs hl
        split at hk
        · rename_i v hv
          refine Done.quiet hk (by rw [ho]; rfl) fun wr hfar => op_load ho (hG.tys.ty _ _ _ ht) hl hv ?_
          rw [ho] at hfar
          cases wr with
          | nil => exact .inl rfl
          | cons q l =>
            simp only [qFar, Bool.and_eq_true] at hfar
            exact .inr ⟨hfar.1, liveAll_spec hfar.2⟩
        · cases hk
      · cases hk
    · cases h1 : G.one t with
      | false => rw [h1] at hk; cases hk
      | true =>
        rw [h1] at hk
        simp only [cond_true] at hk
        split at hk
        · rename_i c hl
          refine Done.quiet hk (by rw [ho]; rfl) fun wr hfar => op_load1 ho (hG.ones _ h1) hl ?_
          rw [ho] at hfar
          cases wr with
          | nil => exact .inl rfl
          | cons q l =>
            simp only [qFar, Bool.and_eq_true] at hfar
            exact .inr ⟨hfar.1, liveAll_spec hfar.2⟩
        · cases hk
  · rename_i t x y ho
    split at hk
    · rename_i ag T ht
      split at hk
      · rename_i cs hc
        split at hk
        · rename_i hl
          split at hk
          · rename_i s' hs
            exact Done.loud hk (by rw [ho]; rfl) (by rw [ho]; exact op_store ho (hG.tys.ty _ _ _ ht) hc hl hs)
          · cases hk
        · cases hk
      · cases hk
    · cases h1 : G.one t with
      | false => rw [h1] at hk; cases hk
      | true =>
        rw [h1] at hk
        simp only [cond_true] at hk
        split at hk
        · rename_i c hc
          split at hk
          · rename_i s' hs
            exact Done.loud hk (by rw [ho]; rfl) (by rw [ho]; exact op_store1 ho (hG.ones _ h1) hc hs)
          · cases hk
        · cases hk
  · rename_i x ho
    split at hk
    · rename_i b off hx
      exact Done.quiet hk (by rw [ho]; rfl) fun wr _ => op_nilCheck ho hx (.inl ⟨_, _, rfl⟩)
    · rename_i q i off hx
      split at hk
      · rename_i el xs hg
        exact Done.quiet hk (by rw [ho]; rfl) fun wr _ => op_nilCheck ho hx (.inr (.inl ⟨_, _, _, _, _, rfl, hg⟩))
      · cases hk
    · rename_i T y off hx
      exact Done.quiet hk (by rw [ho]; rfl) fun wr _ => op_nilCheck ho hx (.inr (.inr (.inl ⟨_, _, _, rfl⟩)))
    · rename_i f c hx
      exact Done.quiet hk (by rw [ho]; rfl) fun wr _ => op_nilCheck ho hx (.inr (.inr (.inr ⟨_, _, rfl⟩)))
    · cases hk
  · rename_i op t x y t' ho
    split at hk
    · cases hk
    · rename_i T ht
      cases hq : (G.eqt t && T.flat) with
      | true =>
        rw [hq] at hk
        simp only [Bool.and_eq_true] at hq
        simp only [cond_true] at hk
        have hE := hG.eqs t T hq.1 ht hq.2
        unfold eqA at hk
        split at hk
        · rename_i l m hx hy
          split at hk
          · rename_i a b ha hb
            split at hk
            · exact Done.quiet hk (by rw [ho]; rfl) fun wr _ => op_binAgg ho hE hq.2 hx hy ha hb (.inl ⟨rfl, rfl⟩)
            · exact Done.quiet hk (by rw [ho]; rfl) fun wr _ => op_binAgg ho hE hq.2 hx hy ha hb (.inr ⟨rfl, rfl⟩)
            · cases hk
          · cases hk
        · cases hk
      | false => rw [hq] at hk; cases hk
    · rename_i ht
      split at hk
      · cases hk
      · rename_i hna
        obtain ⟨v, h1, h2⟩ := bin_sound ho (fun _ => hG.tys.ty _ _ _ ht) hk
        exact Done.quiet h1 (by rw [ho]; rfl) fun wr _ => h2 wr
    · cases hk
    · cases hk
    · split at hk
      · cases hk
      · rename_i hna
        obtain ⟨v, h1, h2⟩ := bin_sound ho (by simp) hk
        exact Done.quiet h1 (by rw [ho]; rfl) fun wr _ => h2 wr
  · rename_i op t x ho
    split at hk
    · rename_i b hx
      exact Done.quiet hk (by rw [ho]; rfl) fun wr _ => op_unOp ho (.inl ⟨b, rfl, hx, rfl⟩)
    · rename_i kd n hx
      exact Done.quiet hk (by rw [ho]; rfl) fun wr _ => op_unOp ho (.inr ⟨kd, n, rfl, hx, rfl⟩)
    · cases hk
  · rename_i src dst x ho
    exact convert_sound hG.tys ho hk
  · rename_i fn first caps ho
    split at hk
    · rename_i f hf
      exact Done.quiet hk (by rw [ho]; rfl) fun wr _ => op_makeFunc ho hf
    · cases hk
  · rename_i t l c ho
    split at hk
    · rename_i el n m ht hl hc
      split at hk
      · rename_i hh
        exact Done.loud hk (by rw [ho]; rfl) (by rw [ho]; exact op_makeSlice ho (hG.tys.ty _ _ _ ht) hl hc hh.1 hh.2.1 hh.2.2)
      · cases hk
    · cases hk
  · rename_i t x lo hi mx ho
    split at hk
    · rename_i T ht
      obtain ⟨v, s', h1, h2, h3⟩ := slice_sound ho (hG.tys.ty _ _ _ ht) hk
      refine ⟨v, s', h1, by rw [ho]; exact h2, fun hq => ?_⟩
      have hT : T = .str := by
        rw [ho] at hq
        simp only [isQuiet, ht] at hq
        cases T <;> first | rfl | (simp at hq)
      exact ⟨(h3 hT).1, fun wr _ => (h3 hT).2 wr⟩
    · cases hk
  · rename_i t x f ho
    split at hk
    · rename_i off ag T hf
      split at hk
      · rename_i b p hx
        exact Done.quiet hk (by rw [ho]; rfl) fun wr _ => op_fieldAddr ho (hG.tys.fld _ _ _ _ _ hf) (.inl ⟨_, _, hx, rfl⟩)
      · rename_i q i p hx
        split at hk
        · rename_i el xs hg
          exact Done.quiet hk (by rw [ho]; rfl) fun wr _ => op_fieldAddr ho (hG.tys.fld _ _ _ _ _ hf) (.inr (.inl ⟨_, _, _, _, _, hx, hg, rfl⟩))
        · cases hk
      · rename_i S y p hx
        exact Done.quiet hk (by rw [ho]; rfl) fun wr _ => op_fieldAddr ho (hG.tys.fld _ _ _ _ _ hf) (.inr (.inr ⟨_, _, _, hx, rfl⟩))
      · cases hk
    · cases hk
  · rename_i t x f ho
    split at hk
    · rename_i off ag T hf
      split at hk
      · rename_i cs hx
        split at hk
        · rename_i c hc
          split at hk
          · rename_i v hv
            exact Done.quiet hk (by rw [ho]; rfl) fun wr _ => op_field ho (hG.tys.fld _ _ _ _ _ hf) hx hc hv
          · cases hk
        · cases hk
      · cases hk
    · cases hk
  · rename_i t x i ho
    split at hk
    · rename_i T ht
      obtain ⟨v, h1, h2⟩ := indexAddr_sound ho (hG.tys.ty _ _ _ ht) hk
      exact Done.quiet h1 (by rw [ho]; rfl) fun wr _ => h2 wr
    · cases hk
  · rename_i t x i ho
    split at hk
    · rename_i ht
      split at hk
      · rename_i b kd n hx hi
        split at hk
        · rename_i hc
          exact Done.quiet hk (by rw [ho]; rfl) fun wr _ => op_index_str ho (hG.tys.ty _ _ _ ht) hx hi hc.1 hc.2
        · cases hk
      · cases hk
    · cases hk
  · rename_i x i ho
    split at hk
    · rename_i vs hx
      split at hk
      · rename_i hi
        exact Done.quiet hk (by rw [ho]; rfl) fun wr _ => op_extract ho hx hi
      · cases hk
    · cases hk
  · rename_i c ho
    split at hk
    · rename_i b hc
      obtain ⟨v, s', h1, h2, h3⟩ := op_builtin hG.tys ho hc hk
      refine ⟨v, s', h1, by rw [ho]; simp only [tchOf, hc]; exact h2, fun hq => ?_⟩
      rw [ho] at hq
      simp only [isQuiet, hc] at hq
      exact ⟨(h3 hq).1, fun wr _ => (h3 hq).2 wr⟩
    · rename_i f hc
      split at hk
      · rename_i g caps hf
        obtain ⟨v, s', h1, h2⟩ := op_call hG ho hc hf hk
        exact Done.loud h1 (by rw [ho]; simp only [isQuiet, hc]) (by rw [ho]; simp only [tchOf, hc, hf]; exact h2)
      · cases hk
    · cases hk
  · cases hk

end
end Go.VE
