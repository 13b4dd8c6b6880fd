/- Plain laws: bases that are read from text. -/
import Derived.Test.YtpmahbmokfaflaaReadBaseR26
namespace Go.VE
noncomputable section
set_option linter.unusedVariables false
set_option linter.unusedSimpArgs false
set_option maxRecDepth 100000
/-- Rounds that end in another way where one goes bad. -/
theorem vrm {α β γ : Type} {R : Int → Bool → α × Int × Bool} {wt : α → Nat} {N : Int} (hR : StpR R wt N) {n : Nat} {body : β → (β ⊕ γ → Option Res) → Option Res} {σ : Int → Int → List α → β} {fin : Int → Int → List α → γ} {Bad : γ → Prop}
    (hgo : ∀ (i : Nat) (a : Int) (l : List α), i < n → 0 ≤ a → a ≤ N → l.length ≤ 3000000 → (R a false).2.2 = false → ∀ K, body (σ (i : Int) a l) K = K (.inl (σ ((i + 1 : Nat) : Int) (R a false).2.1 (l ++ [(R a false).1]))))
    (hbad : ∀ (i : Nat) (a : Int) (l : List α), i < n → 0 ≤ a → a ≤ N → l.length ≤ 3000000 → (R a false).2.2 = true → ∀ q, ∃ z, Bad z ∧ ∀ K, vai body (q + 2) (σ (i : Int) a l) K = K z)
    (hstop : ∀ (a : Int) (l : List α) (K), body (σ (n : Int) a l) K = K (.inr (fin (n : Int) a l))) :
    ∀ (d m i : Nat) (a : Int) (l : List α) (q : Nat), i + m = n → 0 ≤ a → a ≤ N → N - a < (d : Int) → d + 2 < q → l.length + d ≤ 3000000 →
      ((vbs R m a false l).2.1 = false ∧ ∀ K, vai body q (σ (i : Int) a l) K = K (fin (n : Int) (vbs R m a false l).1 (vbs R m a false l).2.2)) ∨ ((vbs R m a false l).2.1 = true ∧ ∃ z, Bad z ∧ ∀ K, vai body q (σ (i : Int) a l) K = K z) := by
  intro d
  induction d with
  | zero => intro m i a l q hi h0 h1 hb hq hl; omega
  | succ d ih =>
    intro m i a l q hi h0 h1 hb hq hl
    cases m with
    | zero =>
      obtain ⟨q, rfl⟩ : ∃ q', q = q' + 1 := ⟨q - 1, by omega⟩
      obtain rfl : i = n := by omega
      exact .inl ⟨rfl, fun K => by simp only [vai, hstop, vbs, Sum.elim_inr]⟩
    | succ m =>
      cases hb2 : (R a false).2.2 with
      | true =>
        obtain ⟨q, rfl⟩ : ∃ q', q = q' + 2 := ⟨q - 2, by omega⟩
        refine .inr ⟨?_, hbad i a l (by omega) h0 h1 (by omega) hb2 q⟩
        simp only [vbs, cond_false, hb2, viq]
      | false =>
        obtain ⟨q, rfl⟩ : ∃ q', q = q' + 1 := ⟨q - 1, by omega⟩
        have hs := hR a false hb2
        have hi' := ih m (i + 1) (R a false).2.1 (l ++ [(R a false).1]) q (by omega) (by omega) (by omega) (by omega) (by omega) (by rw [List.length_append, List.length_singleton]; omega)
        simp only [vbs, cond_false, hb2]
        rcases hi' with ⟨e1, e2⟩ | ⟨e1, z, e2, e3⟩
        · refine .inl ⟨e1, fun K => ?_⟩
          simp only [vai, hgo i a l (by omega) h0 h1 (by omega) hb2, Sum.elim_inl]
          exact e2 K
        · refine .inr ⟨e1, z, e2, fun K => ?_⟩
          simp only [vai, hgo i a l (by omega) h0 h1 (by omega) hb2, Sum.elim_inl]
          exact e3 K
def vrB1 (s : ByteArray) (y : ByteArray × ByteArray) (z : Bool × Int × Bool) : tVersion.D × Int × Bool :=
  ((y.1, (y.2, (z.1, (numB s z.2.1 z.2.2).1))), (numB s z.2.1 z.2.2).2.1, (numB s z.2.1 z.2.2).2.2)
def vrB (s : ByteArray) (a : Int) (b : Bool) : tVersion.D × Int × Bool :=
  vrB1 s ((vbe s a b).1, (vbe s (vbe s a b).2.1 (vbe s a b).2.2).1) (vb1 s (vbe s (vbe s a b).2.1 (vbe s a b).2.2).2.1 (vbe s (vbe s a b).2.1 (vbe s a b).2.2).2.2)
theorem whh (s : ByteArray) : StpR (vrB s) tVersion.wt (s.size : Int) := by
  intro a b h
  unfold vrB vrB1 at h ⊢
  have h4 := vgh h
  have h3 := vvv h4.1
  have h2 := vjc h3.1
  have h1 := vjc h2.1
  refine ⟨h1.1, h1.2.1, ?_, h4.2.2.2⟩
  rw [vxv]
  simp only
  push_cast
  omega
theorem v2l {s : ByteArray} (hs : s.size ≤ 1048576) (a : Int) (b : Bool) (u3 u4 : Int) (k) :
    v10 s a b u3 u4 k = k (s, (vbs (vrB s) (numB s a b).1.toNat (numB s a b).2.1 (numB s a b).2.2 []).1, (vbs (vrB s) (numB s a b).1.toNat (numB s a b).2.1 (numB s a b).2.2 []).2.1, u3, u4, (vbs (vrB s) (numB s a b).1.toNat (numB s a b).2.1 (numB s a b).2.2 []).2.2) := by
  rw [wja]
  unfold wb0
  simp only [vkf hs]
  obtain ⟨n, hn, hn2⟩ := vle s a b
  have hat := fun h => vfr (s := s) (a := a) (b := b) h
  rw [hn]
  generalize (numB s a b).2.1 = a' at *
  generalize (numB s a b).2.2 = b' at *
  obtain ⟨j, hj⟩ := vig (whh s) (n := n) (body := vmz) (σ := fun i a b l => ((n : Int), i, s, a, b, u3, u4, l))
    (fun i a l K hi h0 h1 hl => by
      have hw : IntKind.wrap .i64 ((i : Int) + 1) = ((i + 1 : Nat) : Int) := vbl (by omega)
      simp only [vmz, veb, show (i : Int) < (n : Int) by omega, decide_true, cond_true, Bool.not_false, wl8, we3, vxa hs, v5l hs, vkf hs, List.length_singleton, vd7 hl, if_true, hw]
      rfl)
    (fun i a b l K h => by
      simp only [vmz]
      rcases h with rfl | rfl
      · simp only [show ¬ ((i : Int) < (i : Int)) by omega, decide_false, cond_false]
      · cases decide ((i : Int) < (n : Int)) <;> rfl)
    1048580 n 0 a' b' [] Fuel (by omega) (fun h => by have := hat h; omega) (Nat.lt_of_lt_of_le (by omega) vbq) (by simp)
  simp only [Int.toNat_natCast]
  exact hj _
theorem v3h {s : ByteArray} (hs : s.size ≤ 1048576) {n : Nat} (hn : n ≤ 1000000000) {a : Int} {b : Bool} (hb : b = false → 0 ≤ a ∧ a ≤ (s.size : Int)) {v1 v2 u3 u4 : Int} : ∃ j : Int, ∀ K,
    vai vke Fuel ((n : Int), (0 : Int), v1, v2, s, a, b, u3, u4, ([] : List vac)) K = K ((n : Int), j, v1, v2, s, (vbs (vrB s) (min n 130) a b []).1, (vbs (vrB s) (min n 130) a b []).2.1, u3, u4, (vbs (vrB s) (min n 130) a b []).2.2) :=
  vig (whh s) (n := min n 130) (body := vke) (σ := fun i a b l => ((n : Int), i, v1, v2, s, a, b, u3, u4, l))
    (fun i a l K hi h0 h1 hl => by
      have hw : IntKind.wrap .i64 ((i : Int) + 1) = ((i + 1 : Nat) : Int) := vbl (by omega)
      have hat : (vbe s (vbe s a false).2.1 (vbe s a false).2.2).2.2 = false → 0 ≤ (vbe s (vbe s a false).2.1 (vbe s a false).2.2).2.1 ∧ (vbe s (vbe s a false).2.1 (vbe s a false).2.2).2.1 ≤ (s.size : Int) := fun h => by
        have := vjc h; omega
      simp only [vke, veq, show (i : Int) < (n : Int) by omega, show (i : Int) < 130 by omega, decide_true, cond_true, Bool.not_false, v3w hs, v8g hs hat, vyc hs, List.length_singleton, vd7 hl, if_true, hw]
      rfl)
    (fun i a b l K h => by
      simp only [vke]
      rcases h with rfl | rfl
      · by_cases h10 : n ≤ 130
        · simp only [show ¬ (((min n 130 : Nat) : Int) < (n : Int)) by omega, decide_false, cond_false]
        · simp only [show (((min n 130 : Nat) : Int) < (n : Int)) by omega, show ¬ (((min n 130 : Nat) : Int) < 130) by omega, decide_true, decide_false, cond_true, cond_false]
      · cases decide ((i : Int) < (n : Int)) <;> cases decide ((i : Int) < 130) <;> rfl)
    1048580 (min n 130) 0 a b [] Fuel (by omega) (fun h => by have := hb h; omega) (Nat.lt_of_lt_of_le (by omega) vbq) (by simp)
def txOf (r : dRT) : tTxn.D := (r.1, (r.2.1, (r.2.2.1, (r.2.2.2.1, (r.2.2.2.2.2.2.2.2.1, (r.2.2.2.2.2.2.2.2.2, (r.2.2.2.2.1, r.2.2.2.2.2.1)))))))
def txAt (r : dRT) : Int := r.2.2.2.2.2.2.1
def txOk (r : dRT) : Bool := r.2.2.2.2.2.2.2.1
def txR (s : ByteArray) (a : Int) (b : Bool) : tTxn.D × Int × Bool := (txOf (va4 id s a), txAt (va4 id s a), b || !txOk (va4 id s a))
theorem wwk (s : ByteArray) (a : Int) (h : txOk (va4 id s a) = true) : 0 ≤ a ∧ a + 1 + (tTxn.wt (txOf (va4 id s a)) : Int) ≤ txAt (va4 id s a) ∧ txAt (va4 id s a) ≤ (s.size : Int) := by
  unfold va4 at h ⊢
  generalize hp1 : numB s a false = p1 at *
  generalize hp2 : nx s p1 = p2 at *
  generalize hp3 : nx s p2 = p3 at *
  generalize hp4 : nx s p3 = p4 at *
  unfold tx0 at h ⊢
  generalize he1 : rsE id s p4 = e1 at *
  generalize he2 : wsE id s e1 = e2 at *
  unfold tx2 tx3 at h ⊢
  cases hx : (vbe s (vb1 s e2.1 e2.2.1).2.1 (vb1 s e2.1 e2.2.1).2.2).2.2
  · rw [hx] at h
    simp only [cond_false] at h ⊢
    cases ho : vc4 (p1.1, (p2.1, (p3.1, (p4.1, (e1.2.2, (e2.2.2, ((vb1 s e2.1 e2.2.1).1, (vbe s (vb1 s e2.1 e2.2.1).2.1 (vb1 s e2.1 e2.2.1).2.2).1)))))))
    · rw [ho] at h
      simp only [Bool.not_false, cond_true] at h
      exact absurd h (by decide)
    · simp only [Bool.not_true, cond_false]
      show 0 ≤ a ∧ a + 1 + ((tTxn.wt (p1.1, (p2.1, (p3.1, (p4.1, (e1.2.2, (e2.2.2, ((vb1 s e2.1 e2.2.1).1, (vbe s (vb1 s e2.1 e2.2.1).2.1 (vb1 s e2.1 e2.2.1).2.2).1))))))) : Nat) : Int) ≤ (vbe s (vb1 s e2.1 e2.2.1).2.1 (vb1 s e2.1 e2.2.1).2.2).2.1 ∧ (vbe s (vb1 s e2.1 e2.2.1).2.1 (vb1 s e2.1 e2.2.1).2.2).2.1 ≤ (s.size : Int)
      rw [v9m]
      have h1 := vjc hx
      have h2 := vvv h1.1
      have h3 := h2.1
      rw [← he2] at h3
      unfold wsE at h3
      have h4 := ve0 (v07 s) _ _ _ _ (fun h => vfr h) h3
      have h5 := vgh h4.1
      have h5' := h5.1
      rw [← he1] at h5'
      unfold rsE at h5'
      have h6 := ve0 (v0x s) _ _ _ _ (fun h => vfr h) h5'
      have h7 := vgh h6.1
      have g4 := h7.1
      rw [← hp4] at g4
      have g4s := vgh (s := s) (a := p3.2.1) (b := p3.2.2) g4
      have g3 := g4s.1
      rw [← hp3] at g3
      have g3s := vgh (s := s) (a := p2.2.1) (b := p2.2.2) g3
      have g2 := g3s.1
      rw [← hp2] at g2
      have g2s := vgh (s := s) (a := p1.2.1) (b := p1.2.2) g2
      have g1 := g2s.1
      rw [← hp1] at g1
      have g1s := vgh g1
      have a4 : (numB s p3.2.1 p3.2.2).2.1 = p4.2.1 := by rw [← hp4]; rfl
      have a3 : (numB s p2.2.1 p2.2.2).2.1 = p3.2.1 := by rw [← hp3]; rfl
      have a2 : (numB s p1.2.1 p1.2.2).2.1 = p2.2.1 := by rw [← hp2]; rfl
      have a1 : (numB s a false).2.1 = p1.2.1 := by rw [← hp1]
      rw [show vbs (wrB s) (id (numB s e1.1 e1.2.1).1.toNat) (numB s e1.1 e1.2.1).2.1 (numB s e1.1 e1.2.1).2.2 [] = e2 from he2] at h4
      rw [show vbs (rgB s) (id (numB s p4.2.1 p4.2.2).1.toNat) (numB s p4.2.1 p4.2.2).2.1 (numB s p4.2.1 p4.2.2).2.2 [] = e1 from he1] at h6
      have h4' := h4.2.2.2.2
      have h6' := h6.2.2.2.2
      have e3 : (Ty.slice tRange).wt e1.2.2 = e1.2.2.length + (e1.2.2.map tRange.wt).sum := rfl
      have e4 : (Ty.slice tWrite).wt e2.2.2 = e2.2.2.length + (e2.2.2.map tWrite.wt).sum := rfl
      simp only [List.length_nil, List.map_nil, List.sum_nil] at h4' h6'
      simp only
      rw [e3, e4]
      omega
  · rw [hx] at h
    simp only [cond_true] at h
    exact absurd h (by decide)
theorem v4t (s : ByteArray) : StpR (txR s) tTxn.wt (s.size : Int) := by
  intro a b h
  unfold txR at h ⊢
  simp only [Bool.or_eq_false_iff, Bool.not_eq_false'] at h
  have := wwk s a h.2
  exact ⟨h.1, this.1, this.2.1, this.2.2⟩
theorem wj3 {s : ByteArray} (hs : s.size ≤ 1048576) (a : Int) (h : txOk (va4 id s a) = true) (k) :
    vof s a false k = k ((va4 id s a).1, (va4 id s a).2.1, (va4 id s a).2.2.1, (va4 id s a).2.2.2.1, (va4 id s a).2.2.2.2.1, (va4 id s a).2.2.2.2.2.1, s, txAt (va4 id s a), false, (va4 id s a).2.2.2.2.2.2.2.2.1, (va4 id s a).2.2.2.2.2.2.2.2.2) := by
  rw [wd6]
  unfold v5r
  simp only [vkf hs, vst hs, vr7 hs, v5l hs, vxa hs]
  unfold va4 tx0 at h ⊢
  generalize hp1 : numB s a false = p1 at *
  rw [show numB s p1.2.1 p1.2.2 = nx s p1 from rfl]
  generalize hp2 : nx s p1 = p2 at *
  rw [show numB s p2.2.1 p2.2.2 = nx s p2 from rfl]
  generalize hp3 : nx s p2 = p3 at *
  rw [show numB s p3.2.1 p3.2.2 = nx s p3 from rfl]
  generalize hp4 : nx s p3 = p4 at *
  rw [show vbs (rgB s) (numB s p4.2.1 p4.2.2).1.toNat (numB s p4.2.1 p4.2.2).2.1 (numB s p4.2.1 p4.2.2).2.2 [] = rsE id s p4 from rfl]
  rw [show vbs (wrB s) (numB s (rsE id s p4).1 (rsE id s p4).2.1).1.toNat (numB s (rsE id s p4).1 (rsE id s p4).2.1).2.1 (numB s (rsE id s p4).1 (rsE id s p4).2.1).2.2 [] = wsE id s (rsE id s p4) from rfl]
  unfold tx2 tx3 at h ⊢
  cases hx : (vbe s (vb1 s (wsE id s (rsE id s p4)).1 (wsE id s (rsE id s p4)).2.1).2.1 (vb1 s (wsE id s (rsE id s p4)).1 (wsE id s (rsE id s p4)).2.1).2.2).2.2
  · rw [hx] at h
    simp only [cond_false] at h ⊢
    rw [v3v (wvj hs id (i1 := p1.1) (i2 := p2.1) (i3 := p3.1) (i4 := p4.1) rfl hx)]
    cases ho : vc4 (p1.1, (p2.1, (p3.1, (p4.1, ((rsE id s p4).2.2, ((wsE id s (rsE id s p4)).2.2, ((vb1 s (wsE id s (rsE id s p4)).1 (wsE id s (rsE id s p4)).2.1).1, (vbe s (vb1 s (wsE id s (rsE id s p4)).1 (wsE id s (rsE id s p4)).2.1).2.1 (vb1 s (wsE id s (rsE id s p4)).1 (wsE id s (rsE id s p4)).2.1).2.2).1)))))))
    · rw [ho] at h
      exact absurd h (by simp only [Bool.not_false, cond_true]; decide)
    · rfl
  · rw [hx] at h
    exact absurd h (by simp only [cond_true]; decide)
theorem wee {s : ByteArray} (hs : s.size ≤ 1048576) (a : Int) (h : txOk (va4 id s a) = false) :
    ∃ x : tTxn.D, ∃ p : Int, ∀ k, vof s a false k = k (x.1, x.2.1, x.2.2.1, x.2.2.2.1, x.2.2.2.2.2.2.1, x.2.2.2.2.2.2.2, s, p, true, x.2.2.2.2.1, x.2.2.2.2.2.1) := by
  rw [wd6]
  unfold v5r
  simp only [vkf hs, vst hs, vr7 hs, v5l hs, vxa hs]
  unfold va4 tx0 at h
  generalize hp1 : numB s a false = p1 at *
  rw [show numB s p1.2.1 p1.2.2 = nx s p1 from rfl]
  generalize hp2 : nx s p1 = p2 at *
  rw [show numB s p2.2.1 p2.2.2 = nx s p2 from rfl]
  generalize hp3 : nx s p2 = p3 at *
  rw [show numB s p3.2.1 p3.2.2 = nx s p3 from rfl]
  generalize hp4 : nx s p3 = p4 at *
  rw [show vbs (rgB s) (numB s p4.2.1 p4.2.2).1.toNat (numB s p4.2.1 p4.2.2).2.1 (numB s p4.2.1 p4.2.2).2.2 [] = rsE id s p4 from rfl]
  rw [show vbs (wrB s) (numB s (rsE id s p4).1 (rsE id s p4).2.1).1.toNat (numB s (rsE id s p4).1 (rsE id s p4).2.1).2.1 (numB s (rsE id s p4).1 (rsE id s p4).2.1).2.2 [] = wsE id s (rsE id s p4) from rfl]
  unfold tx2 tx3 at h
  refine ⟨(p1.1, (p2.1, (p3.1, (p4.1, ((rsE id s p4).2.2, ((wsE id s (rsE id s p4)).2.2, ((vb1 s (wsE id s (rsE id s p4)).1 (wsE id s (rsE id s p4)).2.1).1, (vbe s (vb1 s (wsE id s (rsE id s p4)).1 (wsE id s (rsE id s p4)).2.1).2.1 (vb1 s (wsE id s (rsE id s p4)).1 (wsE id s (rsE id s p4)).2.1).2.2).1))))))), (vbe s (vb1 s (wsE id s (rsE id s p4)).1 (wsE id s (rsE id s p4)).2.1).2.1 (vb1 s (wsE id s (rsE id s p4)).1 (wsE id s (rsE id s p4)).2.1).2.2).2.1, fun k => ?_⟩
  cases hx : (vbe s (vb1 s (wsE id s (rsE id s p4)).1 (wsE id s (rsE id s p4)).2.1).2.1 (vb1 s (wsE id s (rsE id s p4)).1 (wsE id s (rsE id s p4)).2.1).2.2).2.2
  · rw [hx] at h
    simp only [cond_false] at h ⊢
    rw [v3v (wvj hs id (i1 := p1.1) (i2 := p2.1) (i3 := p3.1) (i4 := p4.1) rfl hx)]
    cases ho : vc4 (p1.1, (p2.1, (p3.1, (p4.1, ((rsE id s p4).2.2, ((wsE id s (rsE id s p4)).2.2, ((vb1 s (wsE id s (rsE id s p4)).1 (wsE id s (rsE id s p4)).2.1).1, (vbe s (vb1 s (wsE id s (rsE id s p4)).1 (wsE id s (rsE id s p4)).2.1).2.1 (vb1 s (wsE id s (rsE id s p4)).1 (wsE id s (rsE id s p4)).2.1).2.2).1)))))))
    · rfl
    · rw [ho] at h
      have h' : true = false := h
      cases h'
  · rfl
/-- Transactions that stand one after the other, with their count ahead. -/
def txsB (f : Nat → Nat) (s : ByteArray) (p : Int × Bool) : Int × Bool × List tTxn.D :=
  vbs (txR s) (f (numB s p.1 p.2).1.toNat) (numB s p.1 p.2).2.1 (numB s p.1 p.2).2.2 []
theorem v5g {s : ByteArray} (hs : s.size ≤ 1048576) (a : Int) (b : Bool) (u3 u4 : Int) (u5 : List vac) :
    ((txsB id s (a, b)).2.1 = false ∧ ∀ k, vxh s a b u3 u4 u5 k = k (s, (txsB id s (a, b)).1, false, u3, u4, u5, (txsB id s (a, b)).2.2)) ∨
    ((txsB id s (a, b)).2.1 = true ∧ ∃ p l, ∀ k, vxh s a b u3 u4 u5 k = k (s, p, true, u3, u4, u5, l)) := by
  unfold txsB
  simp only [wjo]
  unfold wgb
  simp only [vkf hs]
  obtain ⟨n, hn, hn2⟩ := vle s a b
  have hat := fun h => vfr (s := s) (a := a) (b := b) h
  rw [hn]
  generalize (numB s a b).2.1 = a' at *
  generalize (numB s a b).2.2 = b' at *
  have hbadK : ∀ (i : Nat) (p : Int) (l : List dTxn) (q : Nat) (K), vai vik (q + 1) ((n : Int), (i : Int), s, p, true, u3, u4, u5, l) K = K ((n : Int), (i : Int), s, p, true, u3, u4, u5, l) := fun i p l q K => by
    simp only [vai, vik]
    cases decide ((i : Int) < (n : Int)) <;> rfl
  cases b'
  · have ha := hat rfl
    obtain ⟨f, hf⟩ : ∃ f, Fuel = f + 1 := vmy
    rcases vrm (v4t s) (n := n) (body := vik) (σ := fun i a l => ((n : Int), i, s, a, false, u3, u4, u5, l)) (fin := fun i a l => ((n : Int), i, s, a, false, u3, u4, u5, l))
      (Bad := fun z => ∃ j p l, z = ((n : Int), j, s, p, true, u3, u4, u5, l))
      (fun i a l hi h0 h1 hl ho K => by
        have hw : IntKind.wrap .i64 ((i : Int) + 1) = ((i + 1 : Nat) : Int) := vbl (by omega)
        have ho' : txOk (va4 id s a) = true := by simpa [txR] using ho
        simp only [vik, vdc, show (i : Int) < (n : Int) by omega, decide_true, cond_true, Bool.not_false, wej, v5u, wj3 hs a ho', List.length_singleton, vd7 hl, if_true, hw]
        rfl)
      (fun i a l hi h0 h1 hl ho q => by
        have hw : IntKind.wrap .i64 ((i : Int) + 1) = ((i + 1 : Nat) : Int) := vbl (by omega)
        have ho' : txOk (va4 id s a) = false := by simpa [txR] using ho
        obtain ⟨x, p, hx⟩ := wee hs a ho'
        refine ⟨((n : Int), ((i + 1 : Nat) : Int), s, p, true, u3, u4, u5, l ++ [x]), ⟨_, _, _, rfl⟩, fun K => ?_⟩
        rw [vai]
        simp only [vik, vdc, show (i : Int) < (n : Int) by omega, decide_true, cond_true, Bool.not_false, wej, v5u, hx, List.length_singleton, vd7 hl, if_true, hw, Sum.elim_inl]
        exact hbadK (i + 1) p (l ++ [x]) q K)
      (fun a l K => by
        simp only [vik, show ¬ ((n : Int) < (n : Int)) by omega, decide_false, cond_false])
      1048580 n 0 a' [] Fuel (by omega) (by omega) (by omega) (by omega) (Nat.lt_of_lt_of_le (by omega) vbq) (by simp) with ⟨e1, e2⟩ | ⟨e1, z, ⟨j, p, l, rfl⟩, e3⟩
    · exact .inl ⟨e1, fun k => (e2 _).trans rfl⟩
    · exact .inr ⟨e1, p, l, fun k => e3 _⟩
  · obtain ⟨f, hf⟩ : ∃ f, Fuel = f + 1 := vmy
    exact .inr ⟨by simp only [id, viq], a', [], fun k => by rw [hf]; exact hbadK 0 a' [] f _⟩
theorem vsr {s : ByteArray} (hs : s.size ≤ 1048576) (a : Int) (b : Bool) (u3 u4 : Int) (u5 : List vac) (u6 : List dTxn) :
    ((txsB id s (a, b)).2.1 = false ∧ ∀ k, vv7 s a b u3 u4 u5 u6 k = k (s, (txsB id s (a, b)).1, false, u3, u4, u5, u6, (txsB id s (a, b)).2.2)) ∨
    ((txsB id s (a, b)).2.1 = true ∧ ∃ p l, ∀ k, vv7 s a b u3 u4 u5 u6 k = k (s, p, true, u3, u4, u5, u6, l)) := by
  unfold txsB
  simp only [wkn]
  unfold wd4
  simp only [vkf hs]
  obtain ⟨n, hn, hn2⟩ := vle s a b
  have hat := fun h => vfr (s := s) (a := a) (b := b) h
  rw [hn]
  generalize (numB s a b).2.1 = a' at *
  generalize (numB s a b).2.2 = b' at *
  have hbadK : ∀ (i : Nat) (p : Int) (l : List dTxn) (q : Nat) (K), vai vio (q + 1) ((n : Int), (i : Int), s, p, true, u3, u4, u5, u6, l) K = K ((n : Int), (i : Int), s, p, true, u3, u4, u5, u6, l) := fun i p l q K => by
    simp only [vai, vio]
    cases decide ((i : Int) < (n : Int)) <;> rfl
  cases b'
  · have ha := hat rfl
    obtain ⟨f, hf⟩ : ∃ f, Fuel = f + 1 := vmy
    rcases vrm (v4t s) (n := n) (body := vio) (σ := fun i a l => ((n : Int), i, s, a, false, u3, u4, u5, u6, l)) (fin := fun i a l => ((n : Int), i, s, a, false, u3, u4, u5, u6, l))
      (Bad := fun z => ∃ j p l, z = ((n : Int), j, s, p, true, u3, u4, u5, u6, l))
      (fun i a l hi h0 h1 hl ho K => by
        have hw : IntKind.wrap .i64 ((i : Int) + 1) = ((i + 1 : Nat) : Int) := vbl (by omega)
        have ho' : txOk (va4 id s a) = true := by simpa [txR] using ho
        simp only [vio, vdk, show (i : Int) < (n : Int) by omega, decide_true, cond_true, Bool.not_false, wcx, v54, wj3 hs a ho', List.length_singleton, vd7 hl, if_true, hw]
        rfl)
      (fun i a l hi h0 h1 hl ho q => by
        have hw : IntKind.wrap .i64 ((i : Int) + 1) = ((i + 1 : Nat) : Int) := vbl (by omega)
        have ho' : txOk (va4 id s a) = false := by simpa [txR] using ho
        obtain ⟨x, p, hx⟩ := wee hs a ho'
        refine ⟨((n : Int), ((i + 1 : Nat) : Int), s, p, true, u3, u4, u5, u6, l ++ [x]), ⟨_, _, _, rfl⟩, fun K => ?_⟩
        rw [vai]
        simp only [vio, vdk, show (i : Int) < (n : Int) by omega, decide_true, cond_true, Bool.not_false, wcx, v54, hx, List.length_singleton, vd7 hl, if_true, hw, Sum.elim_inl]
        exact hbadK (i + 1) p (l ++ [x]) q K)
      (fun a l K => by
        simp only [vio, show ¬ ((n : Int) < (n : Int)) by omega, decide_false, cond_false])
      1048580 n 0 a' [] Fuel (by omega) (by omega) (by omega) (by omega) (Nat.lt_of_lt_of_le (by omega) vbq) (by simp) with ⟨e1, e2⟩ | ⟨e1, z, ⟨j, p, l, rfl⟩, e3⟩
    · exact .inl ⟨e1, fun k => (e2 _).trans rfl⟩
    · exact .inr ⟨e1, p, l, fun k => e3 _⟩
  · obtain ⟨f, hf⟩ : ∃ f, Fuel = f + 1 := vmy
    exact .inr ⟨by simp only [id, viq], a', [], fun k => by rw [hf]; exact hbadK 0 a' [] f _⟩
theorem v8w {s : ByteArray} (hs : s.size ≤ 1048576) (m : Nat) (hm : m ≤ 100) (a : Int) (b : Bool) :
    ((txsB (fun n => min n (m + 1)) s (a, b)).2.1 = false ∧ ∀ k, vuv (m : Int) s a b k = k (s, (txsB (fun n => min n (m + 1)) s (a, b)).1, false, (txsB (fun n => min n (m + 1)) s (a, b)).2.2)) ∨
    ((txsB (fun n => min n (m + 1)) s (a, b)).2.1 = true ∧ ∃ p l, ∀ k, vuv (m : Int) s a b k = k (s, p, true, l)) := by
  unfold txsB
  simp only [wjs]
  unfold wfh
  simp only [vyc hs]
  obtain ⟨n, hn, hn2⟩ := vle s a b
  have hat := fun h => vfr (s := s) (a := a) (b := b) h
  rw [hn]
  generalize (numB s a b).2.1 = a' at *
  generalize (numB s a b).2.2 = b' at *
  cases b'
  · have ha := hat rfl
    rcases vrm (v4t s) (n := min n (m + 1)) (body := viz) (σ := fun i a l => ((m : Int), (n : Int), i, s, a, false, ([] : List dTxn), l)) (fin := fun i a l => .inl ((m : Int), (n : Int), i, s, a, false, ([] : List dTxn), l))
      (Bad := fun z => ∃ i p l, z = .inr ((m : Int), (n : Int), i, s, p, true, l))
      (fun i a l hi h0 h1 hl ho K => by
        have hw : IntKind.wrap .i64 ((i : Int) + 1) = ((i + 1 : Nat) : Int) := vbl (by omega)
        have ho' : txOk (va4 id s a) = true := by simpa [txR] using ho
        have ho2 : (va4 id s a).2.2.2.2.2.2.2.1 = true := ho'
        simp only [viz, vdg, show (i : Int) < (n : Int) by omega, show (i : Int) ≤ (m : Int) by omega, decide_true, cond_true, Bool.not_false, wkp hs, vyd, ho2, Bool.not_true, cond_false, List.length_singleton, vd7 hl, if_true, hw]
        rfl)
      (fun i a l hi h0 h1 hl ho q => by
        have ho' : txOk (va4 id s a) = false := by simpa [txR] using ho
        have ho2 : (va4 id s a).2.2.2.2.2.2.2.1 = false := ho'
        refine ⟨.inr ((m : Int), (n : Int), (i : Int), s, a, true, l), ⟨_, _, _, rfl⟩, fun K => ?_⟩
        rw [vai]
        simp only [viz, vdg, show (i : Int) < (n : Int) by omega, show (i : Int) ≤ (m : Int) by omega, decide_true, cond_true, Bool.not_false, wkp hs, vyd, ho2, Sum.elim_inr])
      (fun a l K => by
        by_cases h10 : n ≤ m + 1
        · simp only [viz, show ¬ (((min n (m + 1) : Nat) : Int) < (n : Int)) by omega, decide_false, cond_false]
        · simp only [viz, show (((min n (m + 1) : Nat) : Int) < (n : Int)) by omega, show ¬ (((min n (m + 1) : Nat) : Int) ≤ (m : Int)) by omega, decide_true, decide_false, cond_true, cond_false])
      1048580 (min n (m + 1)) 0 a' [] Fuel (by omega) (by omega) (by omega) (by omega) (Nat.lt_of_lt_of_le (by omega) vbq) (by simp) with ⟨e1, e2⟩ | ⟨e1, z, ⟨i, p, l, rfl⟩, e3⟩
    · exact .inl ⟨e1, fun k => (e2 _).trans rfl⟩
    · exact .inr ⟨e1, p, l, fun k => (e3 _).trans rfl⟩
  · obtain ⟨f, hf⟩ : ∃ f, Fuel = f + 1 := vmy
    refine .inr ⟨by simp only [viq], a', [], fun k => ?_⟩
    rw [hf]
    simp only [vai, viz]
    cases decide ((0 : Int) < (n : Int)) <;> cases decide ((0 : Int) ≤ (m : Int)) <;> rfl
end
end Go.VE
