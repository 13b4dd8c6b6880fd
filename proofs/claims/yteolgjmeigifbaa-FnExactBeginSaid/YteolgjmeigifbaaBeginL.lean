/- Plain laws of the helpers of all laws: sizes, copies, comparisons; written by plib.py. -/
import Derived.Test.YteolgjmeigifbaaBeginW
import Derived.Test.YteolgjmeigifbaaP2
namespace Go.VE
set_option linter.unusedVariables false
set_option linter.unusedSimpArgs false
set_option maxRecDepth 100000
theorem v9y (x : tRange.D) : tRange.wt x = x.1.size + x.2.size := by
  simp only [tRange, Ty.wt] <;> omega
theorem wfn {x : tRange.D} (hx : tRange.wf x) {a : Int} (h0 : 0 ≤ a) (h1 : a ≤ 1048576) : vqk (vw8 x a) a (tRange.wt x) := by
  rw [wmg]
  unfold wc4
  rw [vlt (n := x.1.size) h0 h1 hx.1]
  by_cases c0 : a - (x.1.size : Int) < 0
  · exact ⟨-1, fun k => by simp [c0], .inl (by omega)⟩
  simp only [c0, decide_false, cond_false]
  rw [vlt (n := x.2.size) (by omega) (by omega) hx.2]
  by_cases c1 : (a - (x.1.size : Int)) - (x.2.size : Int) < 0
  · exact ⟨-1, fun k => by simp [c1], .inl (by omega)⟩
  simp only [c1, decide_false, cond_false]
  exact ⟨((a - (x.1.size : Int)) - (x.2.size : Int)), fun k => rfl, .inr ⟨by omega, by rw [v9y] <;> (push_cast; omega)⟩⟩
theorem vq5 {u0 : List tRange.D} {u2 : Int} : ∀ (l : List tRange.D) (s : Int) (i : Nat), (∀ y ∈ l, tRange.wf y) → 0 ≤ s → s ≤ 1048576 →
    ∃ e, (∀ k, vp3 u0 u2 l s i k = k e) ∧ ((∃ z, e = .inl z ∧ z.2.1 < 0) ∨ ∃ z, e = .inr z ∧ 0 ≤ z.1 ∧ z.1 = s - (wtL tRange l : Int))
  | [], s, i, _, h0, h1 => ⟨.inr (s, (i : Int)), fun k => rfl, .inr ⟨_, rfl, h0, by simp [wtL]⟩⟩
  | y :: l, s, i, hl, h0, h1 => by
    obtain ⟨r, q, p⟩ := wfn (hl y (by simp)) h0 h1
    simp only [vp3, q]
    rcases p with p | ⟨p, e⟩
    · exact ⟨.inl (r, (-1 : Int), (i : Int)), fun k => by simp only [p, decide_true, cond_true], .inl ⟨_, rfl, by simp⟩⟩
    · have c : ¬ r < 0 := by omega
      simp only [c, decide_false, cond_false]
      obtain ⟨e', q', p'⟩ := vq5 l r (i + 1) (fun y hy => hl y (by simp [hy])) p (by omega)
      exact ⟨e', q', p'.imp id fun ⟨z, z1, z2, z3⟩ => ⟨z, z1, z2, by rw [z3, e]; simp only [wtL]; push_cast; omega⟩⟩
theorem v94 {x : List tRange.D} (hx : (Ty.slice tRange).wf x) {a : Int} (h0 : 0 ≤ a) (h1 : a ≤ 1048576) : vqk (vzo x a) a ((Ty.slice tRange).wt x) := by
  rw [whj]
  unfold vqk
  simp only [wca]
  rw [vlt (n := x.length) h0 h1 hx.1]
  by_cases c0 : a - (x.length : Int) < 0
  · exact ⟨-1, fun k => by simp [c0], .inl (by omega)⟩
  simp only [c0, decide_false, cond_false]
  have hlen : x.length < 9223372036854775807 := by omega
  simp only [wn8 hlen]
  obtain ⟨e, q, p⟩ := vq5 (u0 := x) (u2 := 0) x (a - (x.length : Int)) 0 hx.2 (by omega) (by omega)
  simp only [q]
  rcases p with ⟨z, rfl, p⟩ | ⟨z, rfl, p, e⟩
  · exact ⟨z.2.1, fun k => rfl, .inl p⟩
  · exact ⟨z.1, fun k => rfl, .inr ⟨p, by rw [e]; simp only [Ty.wt_slice]; push_cast; omega⟩⟩
theorem wfm (x : tRange.D) (k) : vxd x k = k x := by
  rw [wf2]; rfl
theorem vq7 {u0 : List tRange.D} (z : tRange.D) : ∀ (l : List tRange.D) (i : Nat), u0.drop i = l → ∀ K : List tRange.D → Option Res, vix u0 l (u0.take i ++ List.replicate (u0.length - i) z) i (fun z => K z.2) = K u0
  | [], i, h, K => by
    have : u0.length ≤ i := by have := congrArg List.length h; simp at this; omega
    simp [vix, show u0.length - i = 0 by omega, List.take_of_length_le this]
  | y :: l, i, h, K => by
    have hlt := vca h
    have hg : u0[i] = y := by have := vh9 h; rw [List.getElem?_eq_getElem hlt] at this; simpa using this
    have hrec := vq7 z l (i + 1) (vbj h) K
    have hsp := vm1 u0 z i hlt
    rw [hg] at hsp
    simp only [vix, wfm, Int.toNat_natCast]
    rw [if_pos ⟨by omega, by simp; omega⟩]
    exact (congrArg (fun q => vix u0 l q (i + 1) (fun z => K z.2)) hsp).trans hrec
theorem v9z {x : List tRange.D} (hl : x.length ≤ 1048576) (k) : vwz x k = k x := by
  rw [w3k (by omega)]
  simp only [wf9, Int.toNat_natCast]
  rw [if_pos ⟨by omega, by omega, by have : ((VE.maxLen : Nat) : Int) = 4294967296 := rfl; omega⟩]
  have := vq7 (u0 := x) (Ty.zero tRange) x 0 rfl k
  simpa using this
theorem v4n (x : tRange.D) (k) : vxb x x k = k true := by
  rw [wi7]
  simp [wag, vct]
theorem vqe {u0 : List tRange.D} {u2 : Bool} : ∀ (l : List tRange.D) (i : Nat), u0.drop i = l → ∃ z, ∀ k, vlz u0 u0 u2 l i k = k (.inr z)
  | [], i, h => ⟨_, fun k => rfl⟩
  | y :: l, i, h => by
    have hlt := vca h
    obtain ⟨z, hz⟩ := vqe (u2 := u2) l (i + 1) (vbj h)
    have hy := (vaw h).1
    refine ⟨z, fun k => ?_⟩
    simp only [vlz]
    rw [if_pos ⟨by omega, by omega⟩]
    simp only [hy, v4n, Bool.not_true, cond_false, hz]
theorem v2v {x : List tRange.D} (hl : x.length ≤ 1048576) (k) : vwm x x k = k true := by
  rw [w3c (by omega)]
  obtain ⟨z, hz⟩ := vqe (u0 := x) (u2 := false) x 0 rfl
  simp [wh1, hz]
theorem v6i (x : tWrite.D) : tWrite.wt x = x.1.size + x.2.1.size := by
  simp only [tWrite, Ty.wt] <;> omega
theorem wfb {x : tWrite.D} (hx : tWrite.wf x) {a : Int} (h0 : 0 ≤ a) (h1 : a ≤ 1048576) : vqk (vv1 x a) a (tWrite.wt x) := by
  rw [wjb]
  unfold wam
  rw [vlt (n := x.1.size) h0 h1 hx.1]
  by_cases c0 : a - (x.1.size : Int) < 0
  · exact ⟨-1, fun k => by simp [c0], .inl (by omega)⟩
  simp only [c0, decide_false, cond_false]
  rw [vlt (n := x.2.1.size) (by omega) (by omega) hx.2.1]
  by_cases c1 : (a - (x.1.size : Int)) - (x.2.1.size : Int) < 0
  · exact ⟨-1, fun k => by simp [c1], .inl (by omega)⟩
  simp only [c1, decide_false, cond_false]
  exact ⟨((a - (x.1.size : Int)) - (x.2.1.size : Int)), fun k => rfl, .inr ⟨by omega, by rw [v6i] <;> (push_cast; omega)⟩⟩
theorem vqi {u0 : List tWrite.D} {u2 : Int} : ∀ (l : List tWrite.D) (s : Int) (i : Nat), (∀ y ∈ l, tWrite.wf y) → 0 ≤ s → s ≤ 1048576 →
    ∃ e, (∀ k, vpx u0 u2 l s i k = k e) ∧ ((∃ z, e = .inl z ∧ z.2.1 < 0) ∨ ∃ z, e = .inr z ∧ 0 ≤ z.1 ∧ z.1 = s - (wtL tWrite l : Int))
  | [], s, i, _, h0, h1 => ⟨.inr (s, (i : Int)), fun k => rfl, .inr ⟨_, rfl, h0, by simp [wtL]⟩⟩
  | y :: l, s, i, hl, h0, h1 => by
    obtain ⟨r, q, p⟩ := wfb (hl y (by simp)) h0 h1
    simp only [vpx, q]
    rcases p with p | ⟨p, e⟩
    · exact ⟨.inl (r, (-1 : Int), (i : Int)), fun k => by simp only [p, decide_true, cond_true], .inl ⟨_, rfl, by simp⟩⟩
    · have c : ¬ r < 0 := by omega
      simp only [c, decide_false, cond_false]
      obtain ⟨e', q', p'⟩ := vqi l r (i + 1) (fun y hy => hl y (by simp [hy])) p (by omega)
      exact ⟨e', q', p'.imp id fun ⟨z, z1, z2, z3⟩ => ⟨z, z1, z2, by rw [z3, e]; simp only [wtL]; push_cast; omega⟩⟩
theorem v6r {x : List tWrite.D} (hx : (Ty.slice tWrite).wf x) {a : Int} (h0 : 0 ≤ a) (h1 : a ≤ 1048576) : vqk (v0x x a) a ((Ty.slice tWrite).wt x) := by
  rw [wlh]
  unfold vqk
  simp only [wdb]
  rw [vlt (n := x.length) h0 h1 hx.1]
  by_cases c0 : a - (x.length : Int) < 0
  · exact ⟨-1, fun k => by simp [c0], .inl (by omega)⟩
  simp only [c0, decide_false, cond_false]
  have hlen : x.length < 9223372036854775807 := by omega
  simp only [wo3 hlen]
  obtain ⟨e, q, p⟩ := vqi (u0 := x) (u2 := 0) x (a - (x.length : Int)) 0 hx.2 (by omega) (by omega)
  simp only [q]
  rcases p with ⟨z, rfl, p⟩ | ⟨z, rfl, p, e⟩
  · exact ⟨z.2.1, fun k => rfl, .inl p⟩
  · exact ⟨z.1, fun k => rfl, .inr ⟨p, by rw [e]; simp only [Ty.wt_slice]; push_cast; omega⟩⟩
theorem wfe (x : tWrite.D) (k) : vu0 x k = k x := by
  rw [wmi]; rfl
theorem vqm {u0 : List tWrite.D} (z : tWrite.D) : ∀ (l : List tWrite.D) (i : Nat), u0.drop i = l → ∀ K : List tWrite.D → Option Res, vih u0 l (u0.take i ++ List.replicate (u0.length - i) z) i (fun z => K z.2) = K u0
  | [], i, h, K => by
    have : u0.length ≤ i := by have := congrArg List.length h; simp at this; omega
    simp [vih, show u0.length - i = 0 by omega, List.take_of_length_le this]
  | y :: l, i, h, K => by
    have hlt := vca h
    have hg : u0[i] = y := by have := vh9 h; rw [List.getElem?_eq_getElem hlt] at this; simpa using this
    have hrec := vqm z l (i + 1) (vbj h) K
    have hsp := vm1 u0 z i hlt
    rw [hg] at hsp
    simp only [vih, wfe, Int.toNat_natCast]
    rw [if_pos ⟨by omega, by simp; omega⟩]
    exact (congrArg (fun q => vih u0 l q (i + 1) (fun z => K z.2)) hsp).trans hrec
theorem v65 {x : List tWrite.D} (hl : x.length ≤ 1048576) (k) : vvl x k = k x := by
  rw [w2f (by omega)]
  simp only [wka, Int.toNat_natCast]
  rw [if_pos ⟨by omega, by omega, by have : ((VE.maxLen : Nat) : Int) = 4294967296 := rfl; omega⟩]
  have := vqm (u0 := x) (Ty.zero tWrite) x 0 rfl k
  simpa using this
theorem v5g (x : tWrite.D) (k) : vuw x x k = k true := by
  rw [wik]
  simp [wep, vct]
theorem vqd {u0 : List tWrite.D} {u2 : Bool} : ∀ (l : List tWrite.D) (i : Nat), u0.drop i = l → ∃ z, ∀ k, vmt u0 u0 u2 l i k = k (.inr z)
  | [], i, h => ⟨_, fun k => rfl⟩
  | y :: l, i, h => by
    have hlt := vca h
    obtain ⟨z, hz⟩ := vqd (u2 := u2) l (i + 1) (vbj h)
    have hy := (vaw h).1
    refine ⟨z, fun k => ?_⟩
    simp only [vmt]
    rw [if_pos ⟨by omega, by omega⟩]
    simp only [hy, v5g, Bool.not_true, cond_false, hz]
theorem v06 {x : List tWrite.D} (hl : x.length ≤ 1048576) (k) : vvj x x k = k true := by
  rw [wv7 (by omega)]
  obtain ⟨z, hz⟩ := vqd (u0 := x) (u2 := false) x 0 rfl
  simp [wh0, hz]
theorem vvz (x : tVersion.D) : tVersion.wt x = x.1.size + x.2.1.size := by
  simp only [tVersion, Ty.wt] <;> omega
theorem v42 {x : tVersion.D} (hx : tVersion.wf x) {a : Int} (h0 : 0 ≤ a) (h1 : a ≤ 1048576) : vqk (vw0 x a) a (tVersion.wt x) := by
  rw [wgi]
  unfold wbm
  rw [vlt (n := x.1.size) h0 h1 hx.1]
  by_cases c0 : a - (x.1.size : Int) < 0
  · exact ⟨-1, fun k => by simp [c0], .inl (by omega)⟩
  simp only [c0, decide_false, cond_false]
  rw [vlt (n := x.2.1.size) (by omega) (by omega) hx.2.1]
  by_cases c1 : (a - (x.1.size : Int)) - (x.2.1.size : Int) < 0
  · exact ⟨-1, fun k => by simp [c1], .inl (by omega)⟩
  simp only [c1, decide_false, cond_false]
  exact ⟨((a - (x.1.size : Int)) - (x.2.1.size : Int)), fun k => rfl, .inr ⟨by omega, by rw [vvz] <;> (push_cast; omega)⟩⟩
theorem vmg {u0 : List tVersion.D} {u2 : Int} : ∀ (l : List tVersion.D) (s : Int) (i : Nat), (∀ y ∈ l, tVersion.wf y) → 0 ≤ s → s ≤ 1048576 →
    ∃ e, (∀ k, vpg u0 u2 l s i k = k e) ∧ ((∃ z, e = .inl z ∧ z.2.1 < 0) ∨ ∃ z, e = .inr z ∧ 0 ≤ z.1 ∧ z.1 = s - (wtL tVersion l : Int))
  | [], s, i, _, h0, h1 => ⟨.inr (s, (i : Int)), fun k => rfl, .inr ⟨_, rfl, h0, by simp [wtL]⟩⟩
  | y :: l, s, i, hl, h0, h1 => by
    obtain ⟨r, q, p⟩ := v42 (hl y (by simp)) h0 h1
    simp only [vpg, q]
    rcases p with p | ⟨p, e⟩
    · exact ⟨.inl (r, (-1 : Int), (i : Int)), fun k => by simp only [p, decide_true, cond_true], .inl ⟨_, rfl, by simp⟩⟩
    · have c : ¬ r < 0 := by omega
      simp only [c, decide_false, cond_false]
      obtain ⟨e', q', p'⟩ := vmg l r (i + 1) (fun y hy => hl y (by simp [hy])) p (by omega)
      exact ⟨e', q', p'.imp id fun ⟨z, z1, z2, z3⟩ => ⟨z, z1, z2, by rw [z3, e]; simp only [wtL]; push_cast; omega⟩⟩
theorem v1z {x : List tVersion.D} (hx : (Ty.slice tVersion).wf x) {a : Int} (h0 : 0 ≤ a) (h1 : a ≤ 1048576) : vqk (vzm x a) a ((Ty.slice tVersion).wt x) := by
  rw [wg9]
  unfold vqk
  simp only [wb9]
  rw [vlt (n := x.length) h0 h1 hx.1]
  by_cases c0 : a - (x.length : Int) < 0
  · exact ⟨-1, fun k => by simp [c0], .inl (by omega)⟩
  simp only [c0, decide_false, cond_false]
  have hlen : x.length < 9223372036854775807 := by omega
  simp only [wo0 hlen]
  obtain ⟨e, q, p⟩ := vmg (u0 := x) (u2 := 0) x (a - (x.length : Int)) 0 hx.2 (by omega) (by omega)
  simp only [q]
  rcases p with ⟨z, rfl, p⟩ | ⟨z, rfl, p, e⟩
  · exact ⟨z.2.1, fun k => rfl, .inl p⟩
  · exact ⟨z.1, fun k => rfl, .inr ⟨p, by rw [e]; simp only [Ty.wt_slice]; push_cast; omega⟩⟩
theorem v5e (x : tVersion.D) (k) : vwe x k = k x := by
  rw [wmb]; rfl
theorem vlr {u0 : List tVersion.D} (z : tVersion.D) : ∀ (l : List tVersion.D) (i : Nat), u0.drop i = l → ∀ K : List tVersion.D → Option Res, vij u0 l (u0.take i ++ List.replicate (u0.length - i) z) i (fun z => K z.2) = K u0
  | [], i, h, K => by
    have : u0.length ≤ i := by have := congrArg List.length h; simp at this; omega
    simp [vij, show u0.length - i = 0 by omega, List.take_of_length_le this]
  | y :: l, i, h, K => by
    have hlt := vca h
    have hg : u0[i] = y := by have := vh9 h; rw [List.getElem?_eq_getElem hlt] at this; simpa using this
    have hrec := vlr z l (i + 1) (vbj h) K
    have hsp := vm1 u0 z i hlt
    rw [hg] at hsp
    simp only [vij, v5e, Int.toNat_natCast]
    rw [if_pos ⟨by omega, by simp; omega⟩]
    exact (congrArg (fun q => vij u0 l q (i + 1) (fun z => K z.2)) hsp).trans hrec
theorem v33 {x : List tVersion.D} (hl : x.length ≤ 1048576) (k) : vws x k = k x := by
  rw [ww1 (by omega)]
  simp only [wlp, Int.toNat_natCast]
  rw [if_pos ⟨by omega, by omega, by have : ((VE.maxLen : Nat) : Int) = 4294967296 := rfl; omega⟩]
  have := vlr (u0 := x) (Ty.zero tVersion) x 0 rfl k
  simpa using this
theorem vyc (x : tVersion.D) (k) : vwy x x k = k true := by
  rw [wih]
  simp [wev, vct]
theorem vl1 {u0 : List tVersion.D} {u2 : Bool} : ∀ (l : List tVersion.D) (i : Nat), u0.drop i = l → ∃ z, ∀ k, vmc u0 u0 u2 l i k = k (.inr z)
  | [], i, h => ⟨_, fun k => rfl⟩
  | y :: l, i, h => by
    have hlt := vca h
    obtain ⟨z, hz⟩ := vl1 (u2 := u2) l (i + 1) (vbj h)
    have hy := (vaw h).1
    refine ⟨z, fun k => ?_⟩
    simp only [vmc]
    rw [if_pos ⟨by omega, by omega⟩]
    simp only [hy, vyc, Bool.not_true, cond_false, hz]
theorem vl4 {x : List tVersion.D} (hl : x.length ≤ 1048576) (k) : vw3 x x k = k true := by
  rw [w1p (by omega)]
  obtain ⟨z, hz⟩ := vl1 (u0 := x) (u2 := false) x 0 rfl
  simp [wga, hz]
theorem v70 (x : tTxn.D) : tTxn.wt x = (Ty.slice tRange).wt x.2.2.2.2.1 + (Ty.slice tWrite).wt x.2.2.2.2.2.1 + x.2.2.2.2.2.2.2.size := by
  simp only [tTxn, Ty.wt] <;> omega
theorem wp3 {x : tTxn.D} (hx : tTxn.wf x) {a : Int} (h0 : 0 ≤ a) (h1 : a ≤ 1048576) : vqk (vwh x a) a (tTxn.wt x) := by
  rw [wgu]
  unfold wa0
  obtain ⟨r0, q0, p0⟩ := v94 (x := x.2.2.2.2.1) hx.2.2.2.2.1 (a := a) h0 h1
  simp only [q0]
  rcases p0 with p0 | ⟨p0, e0⟩
  · exact ⟨-1, fun k => by simp [p0], .inl (by omega)⟩
  have c0 : ¬ r0 < 0 := by omega
  simp only [c0, decide_false, cond_false]
  obtain ⟨r1, q1, p1⟩ := v6r (x := x.2.2.2.2.2.1) hx.2.2.2.2.2.1 (a := r0) p0 (by omega)
  simp only [q1]
  rcases p1 with p1 | ⟨p1, e1⟩
  · exact ⟨-1, fun k => by simp [p1], .inl (by omega)⟩
  have c1 : ¬ r1 < 0 := by omega
  simp only [c1, decide_false, cond_false]
  rw [vlt (n := x.2.2.2.2.2.2.2.size) p1 (by omega) hx.2.2.2.2.2.2.2]
  by_cases c2 : r1 - (x.2.2.2.2.2.2.2.size : Int) < 0
  · exact ⟨-1, fun k => by simp [c2], .inl (by omega)⟩
  simp only [c2, decide_false, cond_false]
  exact ⟨(r1 - (x.2.2.2.2.2.2.2.size : Int)), fun k => rfl, .inr ⟨by omega, by rw [v70] <;> (push_cast; omega)⟩⟩
theorem vuv {u0 : List tTxn.D} {u2 : Int} : ∀ (l : List tTxn.D) (s : Int) (i : Nat), (∀ y ∈ l, tTxn.wf y) → 0 ≤ s → s ≤ 1048576 →
    ∃ e, (∀ k, vp0 u0 u2 l s i k = k e) ∧ ((∃ z, e = .inl z ∧ z.2.1 < 0) ∨ ∃ z, e = .inr z ∧ 0 ≤ z.1 ∧ z.1 = s - (wtL tTxn l : Int))
  | [], s, i, _, h0, h1 => ⟨.inr (s, (i : Int)), fun k => rfl, .inr ⟨_, rfl, h0, by simp [wtL]⟩⟩
  | y :: l, s, i, hl, h0, h1 => by
    obtain ⟨r, q, p⟩ := wp3 (hl y (by simp)) h0 h1
    simp only [vp0, q]
    rcases p with p | ⟨p, e⟩
    · exact ⟨.inl (r, (-1 : Int), (i : Int)), fun k => by simp only [p, decide_true, cond_true], .inl ⟨_, rfl, by simp⟩⟩
    · have c : ¬ r < 0 := by omega
      simp only [c, decide_false, cond_false]
      obtain ⟨e', q', p'⟩ := vuv l r (i + 1) (fun y hy => hl y (by simp [hy])) p (by omega)
      exact ⟨e', q', p'.imp id fun ⟨z, z1, z2, z3⟩ => ⟨z, z1, z2, by rw [z3, e]; simp only [wtL]; push_cast; omega⟩⟩
theorem vul {x : List tTxn.D} (hx : (Ty.slice tTxn).wf x) {a : Int} (h0 : 0 ≤ a) (h1 : a ≤ 1048576) : vqk (vti x a) a ((Ty.slice tTxn).wt x) := by
  rw [wlt]
  unfold vqk
  simp only [wde]
  rw [vlt (n := x.length) h0 h1 hx.1]
  by_cases c0 : a - (x.length : Int) < 0
  · exact ⟨-1, fun k => by simp [c0], .inl (by omega)⟩
  simp only [c0, decide_false, cond_false]
  have hlen : x.length < 9223372036854775807 := by omega
  simp only [wok hlen]
  obtain ⟨e, q, p⟩ := vuv (u0 := x) (u2 := 0) x (a - (x.length : Int)) 0 hx.2 (by omega) (by omega)
  simp only [q]
  rcases p with ⟨z, rfl, p⟩ | ⟨z, rfl, p, e⟩
  · exact ⟨z.2.1, fun k => rfl, .inl p⟩
  · exact ⟨z.1, fun k => rfl, .inr ⟨p, by rw [e]; simp only [Ty.wt_slice]; push_cast; omega⟩⟩
theorem wn0 (x : tTxn.D) (h4 : x.2.2.2.2.1.length ≤ 1048576) (h5 : x.2.2.2.2.2.1.length ≤ 1048576) (k) : vt1 x k = k (x.1, x.2.1, x.2.2.1, x.2.2.2.1, x.2.2.2.2.2.2.1, x.2.2.2.2.2.2.2, x.2.2.2.2.1, x.2.2.2.2.2.1) := by
  rw [wln]
  simp only [wdw, v9z h4, v65 h5]
theorem wvo {x : tTxn.D} (h : tTxn.wt x ≤ 1048576) (k) : vt1 x k = k (x.1, x.2.1, x.2.2.1, x.2.2.2.1, x.2.2.2.2.2.2.1, x.2.2.2.2.2.2.2, x.2.2.2.2.1, x.2.2.2.2.2.1) := by
  rw [v70] at h
  exact wn0 x (vb1 (T := tRange) (by omega)) (vb1 (T := tWrite) (by omega)) k
theorem vv9 {u0 : List tTxn.D} (hu : ∀ y ∈ u0, tTxn.wt y ≤ 1048576) (z : tTxn.D) : ∀ (l : List tTxn.D) (i : Nat), u0.drop i = l → ∀ K : List tTxn.D → Option Res, vir u0 l (u0.take i ++ List.replicate (u0.length - i) z) i (fun z => K z.2) = K u0
  | [], i, h, K => by
    have : u0.length ≤ i := by have := congrArg List.length h; simp at this; omega
    simp [vir, show u0.length - i = 0 by omega, List.take_of_length_le this]
  | y :: l, i, h, K => by
    have hlt := vca h
    have hg : u0[i] = y := by have := vh9 h; rw [List.getElem?_eq_getElem hlt] at this; simpa using this
    have hrec := vv9 hu z l (i + 1) (vbj h) K
    have hsp := vm1 u0 z i hlt
    rw [hg] at hsp
    simp only [vir, wvo (hu y (vbx h)), Int.toNat_natCast]
    rw [if_pos ⟨by omega, by simp; omega⟩]
    exact (congrArg (fun q => vir u0 l q (i + 1) (fun z => K z.2)) hsp).trans hrec
theorem vut {x : List tTxn.D} (hl : x.length ≤ 1048576) (hu : ∀ y ∈ x, tTxn.wt y ≤ 1048576) (k) : vq0 x k = k x := by
  rw [wwd (by omega)]
  simp only [wig, Int.toNat_natCast]
  rw [if_pos ⟨by omega, by omega, by have : ((VE.maxLen : Nat) : Int) = 4294967296 := rfl; omega⟩]
  have := vv9 (u0 := x) hu (Ty.zero tTxn) x 0 rfl k
  simpa using this
theorem v0z (x : tTxn.D) (h4 : x.2.2.2.2.1.length ≤ 1048576) (h5 : x.2.2.2.2.2.1.length ≤ 1048576) (k) : vtb x x k = k true := by
  rw [whv]
  simp [wdj, vct, v2v h4, v06 h5]
theorem wu1 {x : tTxn.D} (h : tTxn.wt x ≤ 1048576) (k) : vtb x x k = k true := by
  rw [v70] at h
  exact v0z x (vb1 (T := tRange) (by omega)) (vb1 (T := tWrite) (by omega)) k
theorem vvg {u0 : List tTxn.D} (hu : ∀ y ∈ u0, tTxn.wt y ≤ 1048576) {u2 : Bool} : ∀ (l : List tTxn.D) (i : Nat), u0.drop i = l → ∃ z, ∀ k, vip u0 u0 u2 l i k = k (.inr z)
  | [], i, h => ⟨_, fun k => rfl⟩
  | y :: l, i, h => by
    have hlt := vca h
    obtain ⟨z, hz⟩ := vvg hu (u2 := u2) l (i + 1) (vbj h)
    have hy := (vaw h).1
    refine ⟨z, fun k => ?_⟩
    simp only [vip]
    rw [if_pos ⟨by omega, by omega⟩]
    simp only [hy, wu1 (hu y (vbx h)), Bool.not_true, cond_false, hz]
theorem vp6 {x : List tTxn.D} (hl : x.length ≤ 1048576) (hu : ∀ y ∈ x, tTxn.wt y ≤ 1048576) (k) : vo6 x x k = k true := by
  rw [wsv (by omega)]
  obtain ⟨z, hz⟩ := vvg (u0 := x) hu (u2 := false) x 0 rfl
  simp [wdp, hz]
theorem vxa (x : tBase.D) : tBase.wt x = (Ty.slice tVersion).wt x.1 + (Ty.slice tTxn).wt x.2.1 + (Ty.slice tTxn).wt x.2.2.1 := by
  simp only [tBase, Ty.wt] <;> omega
theorem wgq {x : tBase.D} (hx : tBase.wf x) {a : Int} (h0 : 0 ≤ a) (h1 : a ≤ 1048576) : vqk (v0p x a) a (tBase.wt x) := by
  rw [wj1]
  unfold wer
  obtain ⟨r0, q0, p0⟩ := v1z (x := x.1) hx.1 (a := a) h0 h1
  simp only [q0]
  rcases p0 with p0 | ⟨p0, e0⟩
  · exact ⟨-1, fun k => by simp [p0], .inl (by omega)⟩
  have c0 : ¬ r0 < 0 := by omega
  simp only [c0, decide_false, cond_false]
  obtain ⟨r1, q1, p1⟩ := vul (x := x.2.1) hx.2.1 (a := r0) p0 (by omega)
  simp only [q1]
  rcases p1 with p1 | ⟨p1, e1⟩
  · exact ⟨-1, fun k => by simp [p1], .inl (by omega)⟩
  have c1 : ¬ r1 < 0 := by omega
  simp only [c1, decide_false, cond_false]
  obtain ⟨r2, q2, p2⟩ := vul (x := x.2.2.1) hx.2.2.1 (a := r1) p1 (by omega)
  simp only [q2]
  rcases p2 with p2 | ⟨p2, e2⟩
  · exact ⟨-1, fun k => by simp [p2], .inl (by omega)⟩
  have c2 : ¬ r2 < 0 := by omega
  simp only [c2, decide_false, cond_false]
  exact ⟨r2, fun k => rfl, .inr ⟨by omega, by rw [vxa] <;> (push_cast; omega)⟩⟩
theorem wko (x : tBase.D) (h0 : x.1.length ≤ 1048576) (h1 : x.2.1.length ≤ 1048576) (g1 : ∀ y ∈ x.2.1, tTxn.wt y ≤ 1048576) (h2 : x.2.2.1.length ≤ 1048576) (g2 : ∀ y ∈ x.2.2.1, tTxn.wt y ≤ 1048576) (k) : vw1 x k = k (x.2.2.2.1, x.2.2.2.2, x.1, x.2.1, x.2.2.1) := by
  rw [wk0]
  simp only [wdu, v33 h0, vut h1 g1, vut h2 g2]
theorem wrh {x : tBase.D} (h : tBase.wt x ≤ 1048576) (k) : vw1 x k = k (x.2.2.2.1, x.2.2.2.2, x.1, x.2.1, x.2.2.1) := by
  rw [vxa] at h
  exact wko x (vb1 (T := tVersion) (by omega)) (vb1 (T := tTxn) (by omega)) (fun y hy => vbt hy (by omega)) (vb1 (T := tTxn) (by omega)) (fun y hy => vbt hy (by omega)) k
theorem v83 (x : tBase.D) (h0 : x.1.length ≤ 1048576) (h1 : x.2.1.length ≤ 1048576) (g1 : ∀ y ∈ x.2.1, tTxn.wt y ≤ 1048576) (h2 : x.2.2.1.length ≤ 1048576) (g2 : ∀ y ∈ x.2.2.1, tTxn.wt y ≤ 1048576) (k) : vvm x x k = k true := by
  rw [wav]
  simp [v5z, vct, vl4 h0, vp6 h1 g1, vp6 h2 g2]
theorem wsh {x : tBase.D} (h : tBase.wt x ≤ 1048576) (k) : vvm x x k = k true := by
  rw [vxa] at h
  exact v83 x (vb1 (T := tVersion) (by omega)) (vb1 (T := tTxn) (by omega)) (fun y hy => vbt hy (by omega)) (vb1 (T := tTxn) (by omega)) (fun y hy => vbt hy (by omega)) k
theorem vkb (x : tEngine.D) : tEngine.wt x = tBase.wt x.1 + (Ty.slice tTxn).wt x.2 := by
  simp only [tEngine, Ty.wt] <;> omega
theorem v7n {x : tEngine.D} (hx : tEngine.wf x) {a : Int} (h0 : 0 ≤ a) (h1 : a ≤ 1048576) : vqk (vun x a) a (tEngine.wt x) := by
  rw [wj9]
  unfold wd0
  obtain ⟨r0, q0, p0⟩ := wgq (x := x.1) hx.1 (a := a) h0 h1
  simp only [q0]
  rcases p0 with p0 | ⟨p0, e0⟩
  · exact ⟨-1, fun k => by simp [p0], .inl (by omega)⟩
  have c0 : ¬ r0 < 0 := by omega
  simp only [c0, decide_false, cond_false]
  obtain ⟨r1, q1, p1⟩ := vul (x := x.2) hx.2 (a := r0) p0 (by omega)
  simp only [q1]
  rcases p1 with p1 | ⟨p1, e1⟩
  · exact ⟨-1, fun k => by simp [p1], .inl (by omega)⟩
  have c1 : ¬ r1 < 0 := by omega
  simp only [c1, decide_false, cond_false]
  exact ⟨r1, fun k => rfl, .inr ⟨by omega, by rw [vkb] <;> (push_cast; omega)⟩⟩
theorem v72 (x : tEngine.D) (h0 : tBase.wt x.1 ≤ 1048576) (h1 : x.2.length ≤ 1048576) (g1 : ∀ y ∈ x.2, tTxn.wt y ≤ 1048576) (k) : via x k = k (x.1.2.2.2.1, x.1.2.2.2.2, x.1.1, x.1.2.1, x.1.2.2.1, x.2) := by
  rw [wj7]
  simp only [wet, wrh h0, vut h1 g1]
theorem wfs {x : tEngine.D} (h : tEngine.wt x ≤ 1048576) (k) : via x k = k (x.1.2.2.2.1, x.1.2.2.2.2, x.1.1, x.1.2.1, x.1.2.2.1, x.2) := by
  rw [vkb] at h
  exact v72 x (by omega) (vb1 (T := tTxn) (by omega)) (fun y hy => vbt hy (by omega)) k
theorem v3u (x : tEngine.D) (h0 : tBase.wt x.1 ≤ 1048576) (h1 : x.2.length ≤ 1048576) (g1 : ∀ y ∈ x.2, tTxn.wt y ≤ 1048576) (k) : vhq x x k = k true := by
  rw [wc1]
  simp [v5t, vct, wsh h0, vp6 h1 g1]
theorem wfk {x : tEngine.D} (h : tEngine.wt x ≤ 1048576) (k) : vhq x x k = k true := by
  rw [vkb] at h
  exact v3u x (by omega) (vb1 (T := tTxn) (by omega)) (fun y hy => vbt hy (by omega)) k
end Go.VE
