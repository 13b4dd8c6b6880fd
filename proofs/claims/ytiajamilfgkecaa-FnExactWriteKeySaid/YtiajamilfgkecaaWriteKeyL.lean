/- Plain laws of the helpers of all laws: sizes, copies, comparisons; written by plib.py. -/
import Derived.Test.YtiajamilfgkecaaWriteKeyW
import Derived.Test.YtiajamilfgkecaaP2
namespace Go.VE
set_option linter.unusedVariables false
set_option linter.unusedSimpArgs false
set_option maxRecDepth 100000
theorem vsz (x : tRange.D) : tRange.wt x = x.1.size + x.2.size := by
  simp only [tRange, Ty.wt] <;> omega
theorem vzu {x : tRange.D} (hx : tRange.wf x) {a : Int} (h0 : 0 ≤ a) (h1 : a ≤ 1048576) : vwj (vqq x a) a (tRange.wt x) := by
  rw [v1m]
  unfold vym
  rw [vnv (n := x.1.size) h0 h1 hx.1]
  by_cases c0 : a - (x.1.size : Int) < 0
  · exact ⟨-1, fun k => by simp [c0], .inl (by omega)⟩
  simp only [c0, decide_false, cond_false]
  rw [vnv (n := x.2.size) (by omega) (by omega) hx.2]
  by_cases c1 : (a - (x.1.size : Int)) - (x.2.size : Int) < 0
  · exact ⟨-1, fun k => by simp [c1], .inl (by omega)⟩
  simp only [c1, decide_false, cond_false]
  exact ⟨((a - (x.1.size : Int)) - (x.2.size : Int)), fun k => rfl, .inr ⟨by omega, by rw [vsz] <;> (push_cast; omega)⟩⟩
theorem vk5 {u0 : List tRange.D} {u2 : Int} : ∀ (l : List tRange.D) (s : Int) (i : Nat), (∀ y ∈ l, tRange.wf y) → 0 ≤ s → s ≤ 1048576 →
    ∃ e, (∀ k, vj3 u0 u2 l s i k = k e) ∧ ((∃ z, e = .inl z ∧ z.2.1 < 0) ∨ ∃ z, e = .inr z ∧ 0 ≤ z.1 ∧ z.1 = s - (wtL tRange l : Int))
  | [], s, i, _, h0, h1 => ⟨.inr (s, (i : Int)), fun k => rfl, .inr ⟨_, rfl, h0, by simp [wtL]⟩⟩
  | y :: l, s, i, hl, h0, h1 => by
    obtain ⟨r, q, p⟩ := vzu (hl y (by simp)) h0 h1
    simp only [vj3, q]
    rcases p with p | ⟨p, e⟩
    · exact ⟨.inl (r, (-1 : Int), (i : Int)), fun k => by simp only [p, decide_true, cond_true], .inl ⟨_, rfl, by simp⟩⟩
    · have c : ¬ r < 0 := by omega
      simp only [c, decide_false, cond_false]
      obtain ⟨e', q', p'⟩ := vk5 l r (i + 1) (fun y hy => hl y (by simp [hy])) p (by omega)
      exact ⟨e', q', p'.imp id fun ⟨z, z1, z2, z3⟩ => ⟨z, z1, z2, by rw [z3, e]; simp only [wtL]; push_cast; omega⟩⟩
theorem vwn {x : List tRange.D} (hx : (Ty.slice tRange).wf x) {a : Int} (h0 : 0 ≤ a) (h1 : a ≤ 1048576) : vwj (vtv x a) a ((Ty.slice tRange).wt x) := by
  rw [v18]
  unfold vwj
  simp only [vw5]
  rw [vnv (n := x.length) h0 h1 hx.1]
  by_cases c0 : a - (x.length : Int) < 0
  · exact ⟨-1, fun k => by simp [c0], .inl (by omega)⟩
  simp only [c0, decide_false, cond_false]
  have hlen : x.length < 9223372036854775807 := by omega
  simp only [v35 hlen]
  obtain ⟨e, q, p⟩ := vk5 (u0 := x) (u2 := 0) x (a - (x.length : Int)) 0 hx.2 (by omega) (by omega)
  simp only [q]
  rcases p with ⟨z, rfl, p⟩ | ⟨z, rfl, p, e⟩
  · exact ⟨z.2.1, fun k => rfl, .inl p⟩
  · exact ⟨z.1, fun k => rfl, .inr ⟨p, by rw [e]; simp only [Ty.wt_slice]; push_cast; omega⟩⟩
theorem vz8 (x : tRange.D) (k) : vrp x k = k x := by
  rw [v0w]; rfl
theorem vk7 {u0 : List tRange.D} (z : tRange.D) : ∀ (l : List tRange.D) (i : Nat), u0.drop i = l → ∀ K : List tRange.D → Option Res, vfg u0 l (u0.take i ++ List.replicate (u0.length - i) z) i (fun z => K z.2) = K u0
  | [], i, h, K => by
    have : u0.length ≤ i := by have := congrArg List.length h; simp at this; omega
    simp [vfg, show u0.length - i = 0 by omega, List.take_of_length_le this]
  | y :: l, i, h, K => by
    have hlt := vhg h
    have hg : u0[i] = y := by have := vmo h; rw [List.getElem?_eq_getElem hlt] at this; simpa using this
    have hrec := vk7 z l (i + 1) (ven h) K
    have hsp := vpy u0 z i hlt
    rw [hg] at hsp
    simp only [vfg, vz8, Int.toNat_natCast]
    rw [if_pos ⟨by omega, by simp; omega⟩]
    exact (congrArg (fun q => vfg u0 l q (i + 1) (fun z => K z.2)) hsp).trans hrec
theorem vvs {x : List tRange.D} (hl : x.length ≤ 1048576) (k) : vq6 x k = k x := by
  rw [v8c (by omega)]
  simp only [v0r, Int.toNat_natCast]
  rw [if_pos ⟨by omega, by omega, by have : ((VE.maxLen : Nat) : Int) = 4294967296 := rfl; omega⟩]
  have := vk7 (u0 := x) (Ty.zero tRange) x 0 rfl k
  simpa using this
theorem vva (x : tRange.D) (k) : vqd x x k = k true := by
  rw [v0j]
  simp [vw8, ved]
theorem vkk {u0 : List tRange.D} {u2 : Bool} : ∀ (l : List tRange.D) (i : Nat), u0.drop i = l → ∃ z, ∀ k, vhe u0 u0 u2 l i k = k (.inr z)
  | [], i, h => ⟨_, fun k => rfl⟩
  | y :: l, i, h => by
    have hlt := vhg h
    obtain ⟨z, hz⟩ := vkk (u2 := u2) l (i + 1) (ven h)
    have hy := (vby h).1
    refine ⟨z, fun k => ?_⟩
    simp only [vhe]
    rw [if_pos ⟨by omega, by omega⟩]
    simp only [hy, vva, Bool.not_true, cond_false, hz]
theorem vsc {x : List tRange.D} (hl : x.length ≤ 1048576) (k) : vq4 x x k = k true := by
  rw [v77 (by omega)]
  obtain ⟨z, hz⟩ := vkk (u0 := x) (u2 := false) x 0 rfl
  simp [v02, hz]
theorem vta (x : tWrite.D) : tWrite.wt x = x.1.size + x.2.1.size := by
  simp only [tWrite, Ty.wt] <;> omega
theorem vqr {x : tWrite.D} (hx : tWrite.wf x) {a : Int} (h0 : 0 ≤ a) (h1 : a ≤ 1048576) : vwj (vl3 x a) a (tWrite.wt x) := by
  rw [v27]
  unfold vxv
  rw [vnv (n := x.1.size) h0 h1 hx.1]
  by_cases c0 : a - (x.1.size : Int) < 0
  · exact ⟨-1, fun k => by simp [c0], .inl (by omega)⟩
  simp only [c0, decide_false, cond_false]
  rw [vnv (n := x.2.1.size) (by omega) (by omega) hx.2.1]
  by_cases c1 : (a - (x.1.size : Int)) - (x.2.1.size : Int) < 0
  · exact ⟨-1, fun k => by simp [c1], .inl (by omega)⟩
  simp only [c1, decide_false, cond_false]
  exact ⟨((a - (x.1.size : Int)) - (x.2.1.size : Int)), fun k => rfl, .inr ⟨by omega, by rw [vta] <;> (push_cast; omega)⟩⟩
theorem vkn {u0 : List tWrite.D} {u2 : Int} : ∀ (l : List tWrite.D) (s : Int) (i : Nat), (∀ y ∈ l, tWrite.wf y) → 0 ≤ s → s ≤ 1048576 →
    ∃ e, (∀ k, vjo u0 u2 l s i k = k e) ∧ ((∃ z, e = .inl z ∧ z.2.1 < 0) ∨ ∃ z, e = .inr z ∧ 0 ≤ z.1 ∧ z.1 = s - (wtL tWrite l : Int))
  | [], s, i, _, h0, h1 => ⟨.inr (s, (i : Int)), fun k => rfl, .inr ⟨_, rfl, h0, by simp [wtL]⟩⟩
  | y :: l, s, i, hl, h0, h1 => by
    obtain ⟨r, q, p⟩ := vqr (hl y (by simp)) h0 h1
    simp only [vjo, q]
    rcases p with p | ⟨p, e⟩
    · exact ⟨.inl (r, (-1 : Int), (i : Int)), fun k => by simp only [p, decide_true, cond_true], .inl ⟨_, rfl, by simp⟩⟩
    · have c : ¬ r < 0 := by omega
      simp only [c, decide_false, cond_false]
      obtain ⟨e', q', p'⟩ := vkn l r (i + 1) (fun y hy => hl y (by simp [hy])) p (by omega)
      exact ⟨e', q', p'.imp id fun ⟨z, z1, z2, z3⟩ => ⟨z, z1, z2, by rw [z3, e]; simp only [wtL]; push_cast; omega⟩⟩
theorem vvx {x : List tWrite.D} (hx : (Ty.slice tWrite).wf x) {a : Int} (h0 : 0 ≤ a) (h1 : a ≤ 1048576) : vwj (vvi x a) a ((Ty.slice tWrite).wt x) := by
  rw [v0n]
  unfold vwj
  simp only [vxb]
  rw [vnv (n := x.length) h0 h1 hx.1]
  by_cases c0 : a - (x.length : Int) < 0
  · exact ⟨-1, fun k => by simp [c0], .inl (by omega)⟩
  simp only [c0, decide_false, cond_false]
  have hlen : x.length < 9223372036854775807 := by omega
  simp only [v38 hlen]
  obtain ⟨e, q, p⟩ := vkn (u0 := x) (u2 := 0) x (a - (x.length : Int)) 0 hx.2 (by omega) (by omega)
  simp only [q]
  rcases p with ⟨z, rfl, p⟩ | ⟨z, rfl, p, e⟩
  · exact ⟨z.2.1, fun k => rfl, .inl p⟩
  · exact ⟨z.1, fun k => rfl, .inr ⟨p, by rw [e]; simp only [Ty.wt_slice]; push_cast; omega⟩⟩
theorem vqg (x : tWrite.D) (k) : vg2 x k = k x := by
  rw [v2a]; rfl
theorem vkp {u0 : List tWrite.D} (z : tWrite.D) : ∀ (l : List tWrite.D) (i : Nat), u0.drop i = l → ∀ K : List tWrite.D → Option Res, ve1 u0 l (u0.take i ++ List.replicate (u0.length - i) z) i (fun z => K z.2) = K u0
  | [], i, h, K => by
    have : u0.length ≤ i := by have := congrArg List.length h; simp at this; omega
    simp [ve1, show u0.length - i = 0 by omega, List.take_of_length_le this]
  | y :: l, i, h, K => by
    have hlt := vhg h
    have hg : u0[i] = y := by have := vmo h; rw [List.getElem?_eq_getElem hlt] at this; simpa using this
    have hrec := vkp z l (i + 1) (ven h) K
    have hsp := vpy u0 z i hlt
    rw [hg] at hsp
    simp only [ve1, vqg, Int.toNat_natCast]
    rw [if_pos ⟨by omega, by simp; omega⟩]
    exact (congrArg (fun q => ve1 u0 l q (i + 1) (fun z => K z.2)) hsp).trans hrec
theorem vwv {x : List tWrite.D} (hl : x.length ≤ 1048576) (k) : vp1 x k = k x := by
  rw [v9j (by omega)]
  simp only [v0l, Int.toNat_natCast]
  rw [if_pos ⟨by omega, by omega, by have : ((VE.maxLen : Nat) : Int) = 4294967296 := rfl; omega⟩]
  have := vkp (u0 := x) (Ty.zero tWrite) x 0 rfl k
  simpa using this
theorem vtm (x : tWrite.D) (k) : vq9 x x k = k true := by
  rw [v1w]
  simp [vw7, ved]
theorem vkm {u0 : List tWrite.D} {u2 : Bool} : ∀ (l : List tWrite.D) (i : Nat), u0.drop i = l → ∃ z, ∀ k, vh5 u0 u0 u2 l i k = k (.inr z)
  | [], i, h => ⟨_, fun k => rfl⟩
  | y :: l, i, h => by
    have hlt := vhg h
    obtain ⟨z, hz⟩ := vkm (u2 := u2) l (i + 1) (ven h)
    have hy := (vby h).1
    refine ⟨z, fun k => ?_⟩
    simp only [vh5]
    rw [if_pos ⟨by omega, by omega⟩]
    simp only [hy, vtm, Bool.not_true, cond_false, hz]
theorem vse {x : List tWrite.D} (hl : x.length ≤ 1048576) (k) : vp4 x x k = k true := by
  rw [v9i (by omega)]
  obtain ⟨z, hz⟩ := vkm (u0 := x) (u2 := false) x 0 rfl
  simp [v0k, hz]
theorem vvl (x : tTxn.D) : tTxn.wt x = (Ty.slice tRange).wt x.2.2.2.2.1 + (Ty.slice tWrite).wt x.2.2.2.2.2.1 + x.2.2.2.2.2.2.2.size := by
  simp only [tTxn, Ty.wt] <;> omega
theorem v32 {x : tTxn.D} (hx : tTxn.wf x) {a : Int} (h0 : 0 ≤ a) (h1 : a ≤ 1048576) : vwj (vro x a) a (tTxn.wt x) := by
  rw [v2y]
  unfold vxp
  obtain ⟨r0, q0, p0⟩ := vwn (x := x.2.2.2.2.1) hx.2.2.2.2.1 (a := a) h0 h1
  simp only [q0]
  rcases p0 with p0 | ⟨p0, e0⟩
  · exact ⟨-1, fun k => by simp [p0], .inl (by omega)⟩
  have c0 : ¬ r0 < 0 := by omega
  simp only [c0, decide_false, cond_false]
  obtain ⟨r1, q1, p1⟩ := vvx (x := x.2.2.2.2.2.1) hx.2.2.2.2.2.1 (a := r0) p0 (by omega)
  simp only [q1]
  rcases p1 with p1 | ⟨p1, e1⟩
  · exact ⟨-1, fun k => by simp [p1], .inl (by omega)⟩
  have c1 : ¬ r1 < 0 := by omega
  simp only [c1, decide_false, cond_false]
  rw [vnv (n := x.2.2.2.2.2.2.2.size) p1 (by omega) hx.2.2.2.2.2.2.2]
  by_cases c2 : r1 - (x.2.2.2.2.2.2.2.size : Int) < 0
  · exact ⟨-1, fun k => by simp [c2], .inl (by omega)⟩
  simp only [c2, decide_false, cond_false]
  exact ⟨(r1 - (x.2.2.2.2.2.2.2.size : Int)), fun k => rfl, .inr ⟨by omega, by rw [vvl] <;> (push_cast; omega)⟩⟩
theorem v3z (x : tTxn.D) (h4 : x.2.2.2.2.1.length ≤ 1048576) (h5 : x.2.2.2.2.2.1.length ≤ 1048576) (k) : vgc x k = k (x.1, x.2.1, x.2.2.1, x.2.2.2.1, x.2.2.2.2.2.2.1, x.2.2.2.2.2.2.2, x.2.2.2.2.1, x.2.2.2.2.2.1) := by
  rw [v1l]
  simp only [vxh, vvs h4, vwv h5]
theorem v7o {x : tTxn.D} (h : tTxn.wt x ≤ 1048576) (k) : vgc x k = k (x.1, x.2.1, x.2.2.1, x.2.2.2.1, x.2.2.2.2.2.2.1, x.2.2.2.2.2.2.2, x.2.2.2.2.1, x.2.2.2.2.2.1) := by
  rw [vvl] at h
  exact v3z x (vg3 (T := tRange) (by omega)) (vg3 (T := tWrite) (by omega)) k
theorem vq3 (x : tTxn.D) (h4 : x.2.2.2.2.1.length ≤ 1048576) (h5 : x.2.2.2.2.2.1.length ≤ 1048576) (k) : vfw x x k = k true := by
  rw [v0b]
  simp [vyr, ved, vsc h4, vse h5]
theorem v71 {x : tTxn.D} (h : tTxn.wt x ≤ 1048576) (k) : vfw x x k = k true := by
  rw [vvl] at h
  exact vq3 x (vg3 (T := tRange) (by omega)) (vg3 (T := tWrite) (by omega)) k
end Go.VE
