/- Plain laws: ReadBase. -/
import Derived.Test.YtpmahbmokfaflaaReadBaseR29
namespace Go.VE
noncomputable section
set_option linter.unusedVariables false
set_option linter.unusedSimpArgs false
set_option maxRecDepth 100000
abbrev dRB := Int × Int × Int × Bool × List vac × List dTxn × List dTxn
def zRB : dRB := ((0 : Int), (0 : Int), (0 : Int), false, ([] : List vac), ([] : List dTxn), ([] : List dTxn))
def rbV (f : Nat → Nat) (s : ByteArray) (p : Int × Int × Bool) : Int × Bool × List vac :=
  vbs (vrB s) (f (nx s p).1.toNat) (nx s p).2.1 (nx s p).2.2 []
def vyo (c n : Int) (V : List vac) (P : List dTxn) (R : Int × Bool × List dTxn) : dRB :=
  bif R.2.1 then zRB else bif !vip (V, (P, (R.2.2, (c, n)))) then zRB else (c, n, R.1, true, V, P, R.2.2)
def rb3 (f3 : Nat → Nat) (s : ByteArray) (c n : Int) (V : List vac) (P : Int × Bool × List dTxn) : dRB := vyo c n V P.2.2 (txsB f3 s (P.1, P.2.1))
def rb2 (f2 f3 : Nat → Nat) (s : ByteArray) (c n : Int) (V : Int × Bool × List vac) : dRB := rb3 f3 s c n V.2.2 (txsB f2 s (V.1, V.2.1))
def rb1 (f1 f2 f3 : Nat → Nat) (s : ByteArray) (p1 p2 : Int × Int × Bool) : dRB := rb2 f2 f3 s p1.1 p2.1 (rbV f1 s p2)
def vci (f1 f2 f3 : Nat → Nat) (s : ByteArray) (a : Int) : dRB := rb1 f1 f2 f3 s (numB s a false) (nx s (numB s a false))
theorem v4x (f : Nat → Nat) (s : ByteArray) (a : Int) : (txsB f s (a, true)).2.1 = true := by
  unfold txsB
  rw [show (numB s (a, true).1 (a, true).2).2.2 = true from rfl, viq]
theorem wml {f : Nat → Nat} {s : ByteArray} {a : Int} {b : Bool} (h : (txsB f s (a, b)).2.1 = false) :
    b = false ∧ 0 ≤ a ∧ (txsB f s (a, b)).1 ≤ (s.size : Int) ∧ (txsB f s (a, b)).2.2.length = f (numB s a b).1.toNat ∧ (((Ty.slice tTxn).wt (txsB f s (a, b)).2.2 : Nat) : Int) + a ≤ (txsB f s (a, b)).1 := by
  have h1 := ve0 (v4t s) _ _ _ _ (fun h => vfr h) h
  have h2 := vgh h1.1
  have h3 := h1.2.2.2.2
  have e3 : (Ty.slice tTxn).wt (txsB f s (a, b)).2.2 = (txsB f s (a, b)).2.2.length + ((txsB f s (a, b)).2.2.map tTxn.wt).sum := rfl
  have h4 := h1.2.2.1
  have h5 := h1.2.2.2.1
  rw [show vbs (txR s) (f (numB s (a, b).1 (a, b).2).1.toNat) (numB s (a, b).1 (a, b).2).2.1 (numB s (a, b).1 (a, b).2).2.2 [] = txsB f s (a, b) from rfl] at h3 h4 h5
  simp only [List.length_nil, List.map_nil, List.sum_nil, Nat.zero_add] at h3 h5
  refine ⟨h2.1, h2.2.1, h4, h5, ?_⟩
  rw [e3]
  have := h2.2.2.1
  have e7 : (numB s (a, b).1 (a, b).2).2.1 = (numB s a b).2.1 := rfl
  have e8 : (a, b).1 = a := rfl
  omega
theorem wvw {f : Nat → Nat} {s : ByteArray} {p : Int × Int × Bool} (h : (rbV f s p).2.1 = false) :
    p.2.2 = false ∧ 0 ≤ p.2.1 ∧ (rbV f s p).1 ≤ (s.size : Int) ∧ (rbV f s p).2.2.length = f (nx s p).1.toNat ∧ (((Ty.slice tVersion).wt (rbV f s p).2.2 : Nat) : Int) + p.2.1 ≤ (rbV f s p).1 := by
  have h1 := ve0 (whh s) _ _ _ _ (fun h => vfr h) h
  have h2 := vgh h1.1
  have h3 := h1.2.2.2.2
  have e3 : (Ty.slice tVersion).wt (rbV f s p).2.2 = (rbV f s p).2.2.length + ((rbV f s p).2.2.map tVersion.wt).sum := rfl
  have h4 := h1.2.2.1
  have h5 := h1.2.2.2.1
  rw [show vbs (vrB s) (f (nx s p).1.toNat) (numB s p.2.1 p.2.2).2.1 (numB s p.2.1 p.2.2).2.2 [] = rbV f s p from rfl] at h3 h4 h5
  simp only [List.length_nil, List.map_nil, List.sum_nil, Nat.zero_add] at h3 h5
  refine ⟨h2.1, h2.2.1, h4, h5, ?_⟩
  rw [e3]
  have := h2.2.2.1
  omega
theorem wkc {f1 f2 f3 : Nat → Nat} {s : ByteArray} (hs : s.size ≤ 1048576) {p2 : Int × Int × Bool} {V : Int × Bool × List vac} {P R : Int × Bool × List dTxn} (hV : rbV f1 s p2 = V) (hP : txsB f2 s (V.1, V.2.1) = P) (hR : txsB f3 s (P.1, P.2.1) = R) (h : R.2.1 = false) (c n : Int) :
    tBase.wt (V.2.2, (P.2.2, (R.2.2, (c, n)))) ≤ 1048576 ∧ V.2.1 = false ∧ P.2.1 = false ∧ V.2.2.length = f1 (nx s p2).1.toNat ∧ P.2.2.length = f2 (numB s V.1 V.2.1).1.toNat ∧ R.2.2.length = f3 (numB s P.1 P.2.1).1.toNat := by
  subst hR
  have h3 := wml h
  have h2 := h3.1
  subst hP
  have h2s := wml h2
  have h1 := h2s.1
  subst hV
  have h1s := wvw h1
  refine ⟨?_, h1, h2, h1s.2.2.2.1, h2s.2.2.2.1, h3.2.2.2.1⟩
  rw [v55]
  simp only
  omega
theorem wgq {c n : Int} {V : List vac} {P : List dTxn} {R : Int × Bool × List dTxn} (hw : R.2.1 = false → tBase.wt (V, (P, (R.2.2, (c, n)))) ≤ 1048576) (h : R.2.1 = true ∨ V.length > 120 ∨ P.length > 12 ∨ R.2.2.length > 3) : vyo c n V P R = zRB := by
  unfold vyo
  cases hR : R.2.1
  · cases hb : vip (V, (P, (R.2.2, (c, n))))
    · rfl
    · have := v7h (hw hR) hb
      have h1 := this.2.2.1
      have h2 := this.2.2.2.2.1
      have h3 := this.2.2.2.2.2.2.1
      simp only at h1 h2 h3
      rcases h with h | h | h | h
      · rw [hR] at h; cases h
      · omega
      · omega
      · omega
  · rfl
theorem vn2 {f1 f2 f3 : Nat → Nat} {s : ByteArray} (hs : s.size ≤ 1048576) {p1 p2 : Int × Int × Bool}
    (h : f1 (nx s p2).1.toNat > 120 ∨ f2 (numB s (rbV f1 s p2).1 (rbV f1 s p2).2.1).1.toNat > 12 ∨
      f3 (numB s (txsB f2 s ((rbV f1 s p2).1, (rbV f1 s p2).2.1)).1 (txsB f2 s ((rbV f1 s p2).1, (rbV f1 s p2).2.1)).2.1).1.toNat > 3) : rb1 f1 f2 f3 s p1 p2 = zRB := by
  unfold rb1 rb2 rb3
  apply wgq
  · intro hR; exact (wkc hs rfl rfl rfl hR p1.1 p2.1).1
  · cases hR : (txsB f3 s ((txsB f2 s ((rbV f1 s p2).1, (rbV f1 s p2).2.1)).1, (txsB f2 s ((rbV f1 s p2).1, (rbV f1 s p2).2.1)).2.1)).2.1
    · obtain ⟨_, _, _, e1, e2, e3⟩ := wkc hs rfl rfl rfl hR p1.1 p2.1
      right
      rw [e1, e2, e3]
      exact h
    · exact .inl rfl
theorem wbc {s : ByteArray} (hs : s.size ≤ 1048576) (a : Int) : vci (fun n => min n 130) (fun n => min n 13) (fun n => min n 4) s a = vci id id id s a := by
  unfold vci
  generalize numB s a false = p1
  generalize nx s p1 = p2
  by_cases h1 : (nx s p2).1.toNat ≤ 120
  · have e1 : rbV (fun n => min n 130) s p2 = rbV id s p2 := by
      unfold rbV; rw [show (fun n => min n 130) (nx s p2).1.toNat = id (nx s p2).1.toNat by simp; omega]
    by_cases h2 : (numB s (rbV id s p2).1 (rbV id s p2).2.1).1.toNat ≤ 12
    · have e2 : txsB (fun n => min n 13) s ((rbV id s p2).1, (rbV id s p2).2.1) = txsB id s ((rbV id s p2).1, (rbV id s p2).2.1) := by
        unfold txsB; rw [show (fun n => min n 13) (numB s (rbV id s p2).1 (rbV id s p2).2.1).1.toNat = id (numB s (rbV id s p2).1 (rbV id s p2).2.1).1.toNat by simp; omega]
      by_cases h3 : (numB s (txsB id s ((rbV id s p2).1, (rbV id s p2).2.1)).1 (txsB id s ((rbV id s p2).1, (rbV id s p2).2.1)).2.1).1.toNat ≤ 3
      · unfold rb1 rb2 rb3
        rw [e1, e2]
        generalize txsB id s ((rbV id s p2).1, (rbV id s p2).2.1) = P at *
        have e3 : txsB (fun n => min n 4) s (P.1, P.2.1) = txsB id s (P.1, P.2.1) := by
          unfold txsB; rw [show (fun n => min n 4) (numB s P.1 P.2.1).1.toNat = id (numB s P.1 P.2.1).1.toNat by simp; omega]
        rw [e3]
      · rw [vn2 hs (.inr (.inr (by rw [e1, e2]; simp; omega))), vn2 hs (.inr (.inr (by simp; omega)))]
    · rw [vn2 hs (.inr (.inl (by rw [e1]; simp; omega))), vn2 hs (.inr (.inl (by simp; omega)))]
  · rw [vn2 hs (.inl (by simp; omega)), vn2 hs (.inl (by simp; omega))]
theorem wvd {s : ByteArray} (hs : s.size ≤ 1048576) (a : Int) (k) : vnq s a k = k (vci id id id s a) := by
  rw [wk3]
  unfold wdc
  rw [wha]
  unfold wdr
  simp only [vkf hs, v2l hs]
  unfold vci
  generalize hp1 : numB s a false = p1
  rw [show numB s p1.2.1 p1.2.2 = nx s p1 from rfl]
  generalize hp2 : nx s p1 = p2
  rw [show numB s p2.2.1 p2.2.2 = nx s p2 from rfl]
  unfold rb1
  rw [show vbs (vrB s) (nx s p2).1.toNat (nx s p2).2.1 (nx s p2).2.2 [] = rbV id s p2 from rfl]
  generalize hV : rbV id s p2 = V
  unfold rb2 rb3
  rcases v5g hs V.1 V.2.1 p1.1 p2.1 V.2.2 with ⟨b2, q2⟩ | ⟨b2, x, l, q2⟩
  · rw [q2]
    simp only
    generalize hP : txsB id s (V.1, V.2.1) = P at *
    rcases vsr hs P.1 false p1.1 p2.1 V.2.2 P.2.2 with ⟨b3, q3⟩ | ⟨b3, x, l, q3⟩
    · rw [q3]
      simp only [cond_false]
      rw [b2]
      have hw := (wkc hs hV hP (R := txsB id s (P.1, false)) (by rw [b2]) b3 p1.1 p2.1).1
      rw [wvs hw]
      unfold vyo
      rw [b3]
      cases vip (V.2.2, (P.2.2, ((txsB id s (P.1, false)).2.2, (p1.1, p2.1)))) <;> rfl
    · rw [q3]
      unfold vyo
      rw [b2, b3]
      rfl
  · rw [q2]
    simp only
    rcases vsr hs x true p1.1 p2.1 V.2.2 l with ⟨b3, q3⟩ | ⟨b3, x', l', q3⟩
    · rw [v4x] at b3; cases b3
    · rw [q3]
      unfold vyo
      rw [b2, v4x]
      rfl
theorem wuv {s : ByteArray} (hs : s.size ≤ 1048576) (a : Int) : ∃ y, (y = .inl (vci id id id s a) ∨ y = .inr (vci id id id s a)) ∧ ∀ k, vx9 s a k = k y := by
  rw [← wbc hs a]
  simp only [wne]
  unfold wfq
  simp only [vyc hs]
  unfold vci
  generalize hp1 : numB s a false = p1
  rw [show numB s p1.2.1 p1.2.2 = nx s p1 from rfl]
  generalize hp2 : nx s p1 = p2
  rw [show numB s p2.2.1 p2.2.2 = nx s p2 from rfl]
  obtain ⟨n, hn, hn2⟩ := vle s p2.2.1 p2.2.2
  have hn' : (nx s p2).1 = (n : Int) := hn
  obtain ⟨j, hj⟩ := v3h hs hn2 (a := (nx s p2).2.1) (b := (nx s p2).2.2) (fun h => vfr h) (v1 := 0) (v2 := 0) (u3 := p1.1) (u4 := p2.1)
  have hVe : vbs (vrB s) (min n 130) (nx s p2).2.1 (nx s p2).2.2 [] = rbV (fun n => min n 130) s p2 := by
    unfold rbV; rw [hn', Int.toNat_natCast]
  rw [hn']
  simp only [hj, hVe]
  unfold rb1
  generalize hV : rbV (fun n => min n 130) s p2 = V
  unfold rb2 rb3
  rcases v8w hs 12 (by omega) V.1 V.2.1 with ⟨b2, q2⟩ | ⟨b2, x, l, q2⟩
  · simp only [show ((12 : Nat) : Int) = 12 from rfl] at q2
    simp only [q2]
    generalize hP : txsB (fun n => min n (12 + 1)) s (V.1, V.2.1) = P at *
    have hP' : txsB (fun n => min n 13) s (V.1, V.2.1) = P := hP
    try rw [hP']
    rcases v8w hs 3 (by omega) P.1 false with ⟨b3, q3⟩ | ⟨b3, x, l, q3⟩
    · simp only [show ((3 : Nat) : Int) = 3 from rfl] at q3
      simp only [q3, cond_false]
      rw [b2]
      have b3' : (txsB (fun n => min n 4) s (P.1, false)).2.1 = false := b3
      have hw := (wkc hs hV hP (f3 := fun n => min n 4) (R := txsB (fun n => min n 4) s (P.1, false)) (by rw [b2]) b3' p1.1 p2.1).1
      have hB := fun k => wu2 hw k
      simp only [show txsB (fun n => min n (3 + 1)) s (P.1, false) = txsB (fun n => min n 4) s (P.1, false) from rfl]
      simp only [hB]
      unfold vyo
      rw [b3']
      cases vip (V.2.2, (P.2.2, ((txsB (fun n => min n 4) s (P.1, false)).2.2, (p1.1, p2.1))))
      · exact ⟨_, .inl rfl, fun k => rfl⟩
      · exact ⟨_, .inr rfl, fun k => rfl⟩
    · simp only [show ((3 : Nat) : Int) = 3 from rfl] at q3
      simp only [q3]
      unfold vyo
      rw [b2, show (txsB (fun n => min n 4) s (P.1, false)).2.1 = true from b3]
      exact ⟨_, .inl rfl, fun k => rfl⟩
  · simp only [show ((12 : Nat) : Int) = 12 from rfl] at q2
    simp only [q2]
    rcases v8w hs 3 (by omega) x true with ⟨b3, q3⟩ | ⟨b3, x', l', q3⟩
    · rw [v4x] at b3; cases b3
    · simp only [show ((3 : Nat) : Int) = 3 from rfl] at q3
      simp only [q3]
      unfold vyo
      rw [show (txsB (fun n => min n 13) s (V.1, V.2.1)).2.1 = true from b2, v4x]
      exact ⟨_, .inl rfl, fun k => rfl⟩
theorem v8f {s : ByteArray} (hs : s.size ≤ 1048576) (a : Int) : tBase.wt ((vci id id id s a).2.2.2.2.1, ((vci id id id s a).2.2.2.2.2.1, ((vci id id id s a).2.2.2.2.2.2, ((vci id id id s a).1, (vci id id id s a).2.1)))) ≤ 1048576 := by
  unfold vci
  generalize numB s a false = p1
  generalize nx s p1 = p2
  unfold rb1 rb2 rb3
  generalize hV : rbV id s p2 = V
  generalize hP : txsB id s (V.1, V.2.1) = P
  generalize hR : txsB id s (P.1, P.2.1) = R
  have hz : tBase.wt (zRB.2.2.2.2.1, (zRB.2.2.2.2.2.1, (zRB.2.2.2.2.2.2, (zRB.1, zRB.2.1)))) ≤ 1048576 := by decide
  unfold vyo
  cases hb : R.2.1
  · cases vip (V.2.2, (P.2.2, (R.2.2, (p1.1, p2.1))))
    · exact hz
    · exact (wkc hs hV hP hR hb p1.1 p2.1).1
  · exact hz
end
end Go.VE
