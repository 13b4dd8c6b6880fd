/- Plain laws of the helpers of all laws: sizes, copies, comparisons; written by plib.py. -/
import Derived.Test.YteolgjmeigifbaaPutKeyW
import Derived.Test.YteolgjmeigifbaaP2
namespace Go.VE
set_option linter.unusedVariables false
set_option linter.unusedSimpArgs false
set_option maxRecDepth 100000
theorem vws (x : tRange.D) : tRange.wt x = x.1.size + x.2.size := by
  simp only [tRange, Ty.wt] <;> omega
theorem v6o {x : tRange.D} (hx : tRange.wf x) {a : Int} (h0 : 0 ≤ a) (h1 : a ≤ 1048576) : vmr (vtm x a) a (tRange.wt x) := by
  rw [v8j]
  unfold v4k
  rw [vjl (n := x.1.size) h0 h1 hx.1]
  by_cases c0 : a - (x.1.size : Int) < 0
  · exact ⟨-1, fun k => by simp [c0], .inl (by omega)⟩
  simp only [c0, decide_false, cond_false]
  rw [vjl (n := x.2.size) (by omega) (by omega) hx.2]
  by_cases c1 : (a - (x.1.size : Int)) - (x.2.size : Int) < 0
  · exact ⟨-1, fun k => by simp [c1], .inl (by omega)⟩
  simp only [c1, decide_false, cond_false]
  exact ⟨((a - (x.1.size : Int)) - (x.2.size : Int)), fun k => rfl, .inr ⟨by omega, by rw [vws] <;> (push_cast; omega)⟩⟩
theorem vmw {u0 : List tRange.D} {u2 : Int} : ∀ (l : List tRange.D) (s : Int) (i : Nat), (∀ y ∈ l, tRange.wf y) → 0 ≤ s → s ≤ 1048576 →
    ∃ e, (∀ k, vln u0 u2 l s i k = k e) ∧ ((∃ z, e = .inl z ∧ z.2.1 < 0) ∨ ∃ z, e = .inr z ∧ 0 ≤ z.1 ∧ z.1 = s - (wtL tRange l : Int))
  | [], s, i, _, h0, h1 => ⟨.inr (s, (i : Int)), fun k => rfl, .inr ⟨_, rfl, h0, by simp [wtL]⟩⟩
  | y :: l, s, i, hl, h0, h1 => by
    obtain ⟨r, q, p⟩ := v6o (hl y (by simp)) h0 h1
    simp only [vln, q]
    rcases p with p | ⟨p, e⟩
    · exact ⟨.inl (r, (-1 : Int), (i : Int)), fun k => by simp only [p, decide_true, cond_true], .inl ⟨_, rfl, by simp⟩⟩
    · have c : ¬ r < 0 := by omega
      simp only [c, decide_false, cond_false]
      obtain ⟨e', q', p'⟩ := vmw l r (i + 1) (fun y hy => hl y (by simp [hy])) p (by omega)
      exact ⟨e', q', p'.imp id fun ⟨z, z1, z2, z3⟩ => ⟨z, z1, z2, by rw [z3, e]; simp only [wtL]; push_cast; omega⟩⟩
theorem v1a {x : List tRange.D} (hx : (Ty.slice tRange).wf x) {a : Int} (h0 : 0 ≤ a) (h1 : a ≤ 1048576) : vmr (vx9 x a) a ((Ty.slice tRange).wt x) := by
  rw [v7u]
  unfold vmr
  simp only [v4q]
  rw [vjl (n := x.length) h0 h1 hx.1]
  by_cases c0 : a - (x.length : Int) < 0
  · exact ⟨-1, fun k => by simp [c0], .inl (by omega)⟩
  simp only [c0, decide_false, cond_false]
  have hlen : x.length < 9223372036854775807 := by omega
  simp only [wca hlen]
  obtain ⟨e, q, p⟩ := vmw (u0 := x) (u2 := 0) x (a - (x.length : Int)) 0 hx.2 (by omega) (by omega)
  simp only [q]
  rcases p with ⟨z, rfl, p⟩ | ⟨z, rfl, p, e⟩
  · exact ⟨z.2.1, fun k => rfl, .inl p⟩
  · exact ⟨z.1, fun k => rfl, .inr ⟨p, by rw [e]; simp only [Ty.wt_slice]; push_cast; omega⟩⟩
theorem v6t (x : tRange.D) (k) : vv2 x k = k x := by
  rw [v7o]; rfl
theorem vmp {u0 : List tRange.D} (z : tRange.D) : ∀ (l : List tRange.D) (i : Nat), u0.drop i = l → ∀ K : List tRange.D → Option Res, vgg u0 l (u0.take i ++ List.replicate (u0.length - i) z) i (fun z => K z.2) = K u0
  | [], i, h, K => by
    have : u0.length ≤ i := by have := congrArg List.length h; simp at this; omega
    simp [vgg, show u0.length - i = 0 by omega, List.take_of_length_le this]
  | y :: l, i, h, K => by
    have hlt := vdx h
    have hg : u0[i] = y := by have := vks h; rw [List.getElem?_eq_getElem hlt] at this; simpa using this
    have hrec := vmp z l (i + 1) (vce h) K
    have hsp := vkp u0 z i hlt
    rw [hg] at hsp
    simp only [vgg, v6t, Int.toNat_natCast]
    rw [if_pos ⟨by omega, by simp; omega⟩]
    exact (congrArg (fun q => vgg u0 l q (i + 1) (fun z => K z.2)) hsp).trans hrec
theorem v1l {x : List tRange.D} (hl : x.length ≤ 1048576) (k) : vtx x k = k x := by
  rw [wj9 (by omega)]
  simp only [wao, Int.toNat_natCast]
  rw [if_pos ⟨by omega, by omega, by have : ((VE.maxLen : Nat) : Int) = 4294967296 := rfl; omega⟩]
  have := vmp (u0 := x) (Ty.zero tRange) x 0 rfl k
  simpa using this
theorem vyd (x : tRange.D) (k) : vu8 x x k = k true := by
  rw [v70]
  simp [v3v, vb8]
theorem vnc {u0 : List tRange.D} {u2 : Bool} : ∀ (l : List tRange.D) (i : Nat), u0.drop i = l → ∃ z, ∀ k, vit u0 u0 u2 l i k = k (.inr z)
  | [], i, h => ⟨_, fun k => rfl⟩
  | y :: l, i, h => by
    have hlt := vdx h
    obtain ⟨z, hz⟩ := vnc (u2 := u2) l (i + 1) (vce h)
    have hy := (vat h).1
    refine ⟨z, fun k => ?_⟩
    simp only [vit]
    rw [if_pos ⟨by omega, by omega⟩]
    simp only [hy, vyd, Bool.not_true, cond_false, hz]
theorem vxn {x : List tRange.D} (hl : x.length ≤ 1048576) (k) : vtt x x k = k true := by
  rw [wk2 (by omega)]
  obtain ⟨z, hz⟩ := vnc (u0 := x) (u2 := false) x 0 rfl
  simp [v9b, hz]
theorem vwr (x : tWrite.D) : tWrite.wt x = x.1.size + x.2.1.size := by
  simp only [tWrite, Ty.wt] <;> omega
theorem vt1 {x : tWrite.D} (hx : tWrite.wf x) {a : Int} (h0 : 0 ≤ a) (h1 : a ≤ 1048576) : vmr (vod x a) a (tWrite.wt x) := by
  rw [v9w]
  unfold v4l
  rw [vjl (n := x.1.size) h0 h1 hx.1]
  by_cases c0 : a - (x.1.size : Int) < 0
  · exact ⟨-1, fun k => by simp [c0], .inl (by omega)⟩
  simp only [c0, decide_false, cond_false]
  rw [vjl (n := x.2.1.size) (by omega) (by omega) hx.2.1]
  by_cases c1 : (a - (x.1.size : Int)) - (x.2.1.size : Int) < 0
  · exact ⟨-1, fun k => by simp [c1], .inl (by omega)⟩
  simp only [c1, decide_false, cond_false]
  exact ⟨((a - (x.1.size : Int)) - (x.2.1.size : Int)), fun k => rfl, .inr ⟨by omega, by rw [vwr] <;> (push_cast; omega)⟩⟩
theorem vnn {u0 : List tWrite.D} {u2 : Int} : ∀ (l : List tWrite.D) (s : Int) (i : Nat), (∀ y ∈ l, tWrite.wf y) → 0 ≤ s → s ≤ 1048576 →
    ∃ e, (∀ k, vlx u0 u2 l s i k = k e) ∧ ((∃ z, e = .inl z ∧ z.2.1 < 0) ∨ ∃ z, e = .inr z ∧ 0 ≤ z.1 ∧ z.1 = s - (wtL tWrite l : Int))
  | [], s, i, _, h0, h1 => ⟨.inr (s, (i : Int)), fun k => rfl, .inr ⟨_, rfl, h0, by simp [wtL]⟩⟩
  | y :: l, s, i, hl, h0, h1 => by
    obtain ⟨r, q, p⟩ := vt1 (hl y (by simp)) h0 h1
    simp only [vlx, q]
    rcases p with p | ⟨p, e⟩
    · exact ⟨.inl (r, (-1 : Int), (i : Int)), fun k => by simp only [p, decide_true, cond_true], .inl ⟨_, rfl, by simp⟩⟩
    · have c : ¬ r < 0 := by omega
      simp only [c, decide_false, cond_false]
      obtain ⟨e', q', p'⟩ := vnn l r (i + 1) (fun y hy => hl y (by simp [hy])) p (by omega)
      exact ⟨e', q', p'.imp id fun ⟨z, z1, z2, z3⟩ => ⟨z, z1, z2, by rw [z3, e]; simp only [wtL]; push_cast; omega⟩⟩
theorem v00 {x : List tWrite.D} (hx : (Ty.slice tWrite).wf x) {a : Int} (h0 : 0 ≤ a) (h1 : a ≤ 1048576) : vmr (vys x a) a ((Ty.slice tWrite).wt x) := by
  rw [v9r]
  unfold vmr
  simp only [v35]
  rw [vjl (n := x.length) h0 h1 hx.1]
  by_cases c0 : a - (x.length : Int) < 0
  · exact ⟨-1, fun k => by simp [c0], .inl (by omega)⟩
  simp only [c0, decide_false, cond_false]
  have hlen : x.length < 9223372036854775807 := by omega
  simp only [wdj hlen]
  obtain ⟨e, q, p⟩ := vnn (u0 := x) (u2 := 0) x (a - (x.length : Int)) 0 hx.2 (by omega) (by omega)
  simp only [q]
  rcases p with ⟨z, rfl, p⟩ | ⟨z, rfl, p, e⟩
  · exact ⟨z.2.1, fun k => rfl, .inl p⟩
  · exact ⟨z.1, fun k => rfl, .inr ⟨p, by rw [e]; simp only [Ty.wt_slice]; push_cast; omega⟩⟩
theorem vtr (x : tWrite.D) (k) : vig x k = k x := by
  rw [wbo]; rfl
theorem vmo {u0 : List tWrite.D} (z : tWrite.D) : ∀ (l : List tWrite.D) (i : Nat), u0.drop i = l → ∀ K : List tWrite.D → Option Res, vfw u0 l (u0.take i ++ List.replicate (u0.length - i) z) i (fun z => K z.2) = K u0
  | [], i, h, K => by
    have : u0.length ≤ i := by have := congrArg List.length h; simp at this; omega
    simp [vfw, show u0.length - i = 0 by omega, List.take_of_length_le this]
  | y :: l, i, h, K => by
    have hlt := vdx h
    have hg : u0[i] = y := by have := vks h; rw [List.getElem?_eq_getElem hlt] at this; simpa using this
    have hrec := vmo z l (i + 1) (vce h) K
    have hsp := vkp u0 z i hlt
    rw [hg] at hsp
    simp only [vfw, vtr, Int.toNat_natCast]
    rw [if_pos ⟨by omega, by simp; omega⟩]
    exact (congrArg (fun q => vfw u0 l q (i + 1) (fun z => K z.2)) hsp).trans hrec
theorem v0z {x : List tWrite.D} (hl : x.length ≤ 1048576) (k) : vum x k = k x := by
  rw [wjl (by omega)]
  simp only [wa3, Int.toNat_natCast]
  rw [if_pos ⟨by omega, by omega, by have : ((VE.maxLen : Nat) : Int) = 4294967296 := rfl; omega⟩]
  have := vmo (u0 := x) (Ty.zero tWrite) x 0 rfl k
  simpa using this
theorem vye (x : tWrite.D) (k) : vuo x x k = k true := by
  rw [v7w]
  simp [v5h, vb8]
theorem vmu {u0 : List tWrite.D} {u2 : Bool} : ∀ (l : List tWrite.D) (i : Nat), u0.drop i = l → ∃ z, ∀ k, vjw u0 u0 u2 l i k = k (.inr z)
  | [], i, h => ⟨_, fun k => rfl⟩
  | y :: l, i, h => by
    have hlt := vdx h
    obtain ⟨z, hz⟩ := vmu (u2 := u2) l (i + 1) (vce h)
    have hy := (vat h).1
    refine ⟨z, fun k => ?_⟩
    simp only [vjw]
    rw [if_pos ⟨by omega, by omega⟩]
    simp only [hy, vye, Bool.not_true, cond_false, hz]
theorem vx5 {x : List tWrite.D} (hl : x.length ≤ 1048576) (k) : vvk x x k = k true := by
  rw [wlr (by omega)]
  obtain ⟨z, hz⟩ := vmu (u0 := x) (u2 := false) x 0 rfl
  simp [v77, hz]
theorem wau (x : tVersion.D) : tVersion.wt x = x.1.size + x.2.1.size := by
  simp only [tVersion, Ty.wt] <;> omega
theorem vy5 {x : tVersion.D} (hx : tVersion.wf x) {a : Int} (h0 : 0 ≤ a) (h1 : a ≤ 1048576) : vmr (vv1 x a) a (tVersion.wt x) := by
  rw [v81]
  unfold v4m
  rw [vjl (n := x.1.size) h0 h1 hx.1]
  by_cases c0 : a - (x.1.size : Int) < 0
  · exact ⟨-1, fun k => by simp [c0], .inl (by omega)⟩
  simp only [c0, decide_false, cond_false]
  rw [vjl (n := x.2.1.size) (by omega) (by omega) hx.2.1]
  by_cases c1 : (a - (x.1.size : Int)) - (x.2.1.size : Int) < 0
  · exact ⟨-1, fun k => by simp [c1], .inl (by omega)⟩
  simp only [c1, decide_false, cond_false]
  exact ⟨((a - (x.1.size : Int)) - (x.2.1.size : Int)), fun k => rfl, .inr ⟨by omega, by rw [wau] <;> (push_cast; omega)⟩⟩
theorem vi2 {u0 : List tVersion.D} {u2 : Int} : ∀ (l : List tVersion.D) (s : Int) (i : Nat), (∀ y ∈ l, tVersion.wf y) → 0 ≤ s → s ≤ 1048576 →
    ∃ e, (∀ k, vl3 u0 u2 l s i k = k e) ∧ ((∃ z, e = .inl z ∧ z.2.1 < 0) ∨ ∃ z, e = .inr z ∧ 0 ≤ z.1 ∧ z.1 = s - (wtL tVersion l : Int))
  | [], s, i, _, h0, h1 => ⟨.inr (s, (i : Int)), fun k => rfl, .inr ⟨_, rfl, h0, by simp [wtL]⟩⟩
  | y :: l, s, i, hl, h0, h1 => by
    obtain ⟨r, q, p⟩ := vy5 (hl y (by simp)) h0 h1
    simp only [vl3, q]
    rcases p with p | ⟨p, e⟩
    · exact ⟨.inl (r, (-1 : Int), (i : Int)), fun k => by simp only [p, decide_true, cond_true], .inl ⟨_, rfl, by simp⟩⟩
    · have c : ¬ r < 0 := by omega
      simp only [c, decide_false, cond_false]
      obtain ⟨e', q', p'⟩ := vi2 l r (i + 1) (fun y hy => hl y (by simp [hy])) p (by omega)
      exact ⟨e', q', p'.imp id fun ⟨z, z1, z2, z3⟩ => ⟨z, z1, z2, by rw [z3, e]; simp only [wtL]; push_cast; omega⟩⟩
theorem vw0 {x : List tVersion.D} (hx : (Ty.slice tVersion).wf x) {a : Int} (h0 : 0 ≤ a) (h1 : a ≤ 1048576) : vmr (vyk x a) a ((Ty.slice tVersion).wt x) := by
  rw [v7p]
  unfold vmr
  simp only [v5c]
  rw [vjl (n := x.length) h0 h1 hx.1]
  by_cases c0 : a - (x.length : Int) < 0
  · exact ⟨-1, fun k => by simp [c0], .inl (by omega)⟩
  simp only [c0, decide_false, cond_false]
  have hlen : x.length < 9223372036854775807 := by omega
  simp only [wc1 hlen]
  obtain ⟨e, q, p⟩ := vi2 (u0 := x) (u2 := 0) x (a - (x.length : Int)) 0 hx.2 (by omega) (by omega)
  simp only [q]
  rcases p with ⟨z, rfl, p⟩ | ⟨z, rfl, p, e⟩
  · exact ⟨z.2.1, fun k => rfl, .inl p⟩
  · exact ⟨z.1, fun k => rfl, .inr ⟨p, by rw [e]; simp only [Ty.wt_slice]; push_cast; omega⟩⟩
theorem vz0 (x : tVersion.D) (k) : vux x k = k x := by
  rw [v9o]; rfl
theorem vkb {u0 : List tVersion.D} (z : tVersion.D) : ∀ (l : List tVersion.D) (i : Nat), u0.drop i = l → ∀ K : List tVersion.D → Option Res, vfu u0 l (u0.take i ++ List.replicate (u0.length - i) z) i (fun z => K z.2) = K u0
  | [], i, h, K => by
    have : u0.length ≤ i := by have := congrArg List.length h; simp at this; omega
    simp [vfu, show u0.length - i = 0 by omega, List.take_of_length_le this]
  | y :: l, i, h, K => by
    have hlt := vdx h
    have hg : u0[i] = y := by have := vks h; rw [List.getElem?_eq_getElem hlt] at this; simpa using this
    have hrec := vkb z l (i + 1) (vce h) K
    have hsp := vkp u0 z i hlt
    rw [hg] at hsp
    simp only [vfu, vz0, Int.toNat_natCast]
    rw [if_pos ⟨by omega, by simp; omega⟩]
    exact (congrArg (fun q => vfu u0 l q (i + 1) (fun z => K z.2)) hsp).trans hrec
theorem vv5 {x : List tVersion.D} (hl : x.length ≤ 1048576) (k) : vub x k = k x := by
  rw [wjm (by omega)]
  simp only [v8d, Int.toNat_natCast]
  rw [if_pos ⟨by omega, by omega, by have : ((VE.maxLen : Nat) : Int) = 4294967296 := rfl; omega⟩]
  have := vkb (u0 := x) (Ty.zero tVersion) x 0 rfl k
  simpa using this
theorem vtf (x : tVersion.D) (k) : vvu x x k = k true := by
  rw [wbu]
  simp [v25, vb8]
theorem vi4 {u0 : List tVersion.D} {u2 : Bool} : ∀ (l : List tVersion.D) (i : Nat), u0.drop i = l → ∃ z, ∀ k, viu u0 u0 u2 l i k = k (.inr z)
  | [], i, h => ⟨_, fun k => rfl⟩
  | y :: l, i, h => by
    have hlt := vdx h
    obtain ⟨z, hz⟩ := vi4 (u2 := u2) l (i + 1) (vce h)
    have hy := (vat h).1
    refine ⟨z, fun k => ?_⟩
    simp only [viu]
    rw [if_pos ⟨by omega, by omega⟩]
    simp only [hy, vtf, Bool.not_true, cond_false, hz]
theorem vi9 {x : List tVersion.D} (hl : x.length ≤ 1048576) (k) : vva x x k = k true := by
  rw [wln (by omega)]
  obtain ⟨z, hz⟩ := vi4 (u0 := x) (u2 := false) x 0 rfl
  simp [wb0, hz]
theorem vwn (x : tTxn.D) : tTxn.wt x = (Ty.slice tRange).wt x.2.2.2.2.1 + (Ty.slice tWrite).wt x.2.2.2.2.2.1 + x.2.2.2.2.2.2.2.size := by
  simp only [tTxn, Ty.wt] <;> omega
theorem wet {x : tTxn.D} (hx : tTxn.wf x) {a : Int} (h0 : 0 ≤ a) (h1 : a ≤ 1048576) : vmr (vv3 x a) a (tTxn.wt x) := by
  rw [v8m]
  unfold v5l
  obtain ⟨r0, q0, p0⟩ := v1a (x := x.2.2.2.2.1) hx.2.2.2.2.1 (a := a) h0 h1
  simp only [q0]
  rcases p0 with p0 | ⟨p0, e0⟩
  · exact ⟨-1, fun k => by simp [p0], .inl (by omega)⟩
  have c0 : ¬ r0 < 0 := by omega
  simp only [c0, decide_false, cond_false]
  obtain ⟨r1, q1, p1⟩ := v00 (x := x.2.2.2.2.2.1) hx.2.2.2.2.2.1 (a := r0) p0 (by omega)
  simp only [q1]
  rcases p1 with p1 | ⟨p1, e1⟩
  · exact ⟨-1, fun k => by simp [p1], .inl (by omega)⟩
  have c1 : ¬ r1 < 0 := by omega
  simp only [c1, decide_false, cond_false]
  rw [vjl (n := x.2.2.2.2.2.2.2.size) p1 (by omega) hx.2.2.2.2.2.2.2]
  by_cases c2 : r1 - (x.2.2.2.2.2.2.2.size : Int) < 0
  · exact ⟨-1, fun k => by simp [c2], .inl (by omega)⟩
  simp only [c2, decide_false, cond_false]
  exact ⟨(r1 - (x.2.2.2.2.2.2.2.size : Int)), fun k => rfl, .inr ⟨by omega, by rw [vwn] <;> (push_cast; omega)⟩⟩
theorem vp2 {u0 : List tTxn.D} {u2 : Int} : ∀ (l : List tTxn.D) (s : Int) (i : Nat), (∀ y ∈ l, tTxn.wf y) → 0 ≤ s → s ≤ 1048576 →
    ∃ e, (∀ k, vl1 u0 u2 l s i k = k e) ∧ ((∃ z, e = .inl z ∧ z.2.1 < 0) ∨ ∃ z, e = .inr z ∧ 0 ≤ z.1 ∧ z.1 = s - (wtL tTxn l : Int))
  | [], s, i, _, h0, h1 => ⟨.inr (s, (i : Int)), fun k => rfl, .inr ⟨_, rfl, h0, by simp [wtL]⟩⟩
  | y :: l, s, i, hl, h0, h1 => by
    obtain ⟨r, q, p⟩ := wet (hl y (by simp)) h0 h1
    simp only [vl1, q]
    rcases p with p | ⟨p, e⟩
    · exact ⟨.inl (r, (-1 : Int), (i : Int)), fun k => by simp only [p, decide_true, cond_true], .inl ⟨_, rfl, by simp⟩⟩
    · have c : ¬ r < 0 := by omega
      simp only [c, decide_false, cond_false]
      obtain ⟨e', q', p'⟩ := vp2 l r (i + 1) (fun y hy => hl y (by simp [hy])) p (by omega)
      exact ⟨e', q', p'.imp id fun ⟨z, z1, z2, z3⟩ => ⟨z, z1, z2, by rw [z3, e]; simp only [wtL]; push_cast; omega⟩⟩
theorem vri {x : List tTxn.D} (hx : (Ty.slice tTxn).wf x) {a : Int} (h0 : 0 ≤ a) (h1 : a ≤ 1048576) : vmr (vrj x a) a ((Ty.slice tTxn).wt x) := by
  rw [wac]
  unfold vmr
  simp only [v36]
  rw [vjl (n := x.length) h0 h1 hx.1]
  by_cases c0 : a - (x.length : Int) < 0
  · exact ⟨-1, fun k => by simp [c0], .inl (by omega)⟩
  simp only [c0, decide_false, cond_false]
  have hlen : x.length < 9223372036854775807 := by omega
  simp only [wez hlen]
  obtain ⟨e, q, p⟩ := vp2 (u0 := x) (u2 := 0) x (a - (x.length : Int)) 0 hx.2 (by omega) (by omega)
  simp only [q]
  rcases p with ⟨z, rfl, p⟩ | ⟨z, rfl, p, e⟩
  · exact ⟨z.2.1, fun k => rfl, .inl p⟩
  · exact ⟨z.1, fun k => rfl, .inr ⟨p, by rw [e]; simp only [Ty.wt_slice]; push_cast; omega⟩⟩
theorem wd1 (x : tTxn.D) (h4 : x.2.2.2.2.1.length ≤ 1048576) (h5 : x.2.2.2.2.2.1.length ≤ 1048576) (k) : vrt x k = k (x.1, x.2.1, x.2.2.1, x.2.2.2.1, x.2.2.2.2.2.2.1, x.2.2.2.2.2.2.2, x.2.2.2.2.1, x.2.2.2.2.2.1) := by
  rw [v8k]
  simp only [v47, v1l h4, v0z h5]
theorem whx {x : tTxn.D} (h : tTxn.wt x ≤ 1048576) (k) : vrt x k = k (x.1, x.2.1, x.2.2.1, x.2.2.2.1, x.2.2.2.2.2.2.1, x.2.2.2.2.2.2.2, x.2.2.2.2.1, x.2.2.2.2.2.1) := by
  rw [vwn] at h
  exact wd1 x (vck (T := tRange) (by omega)) (vck (T := tWrite) (by omega)) k
theorem vr6 {u0 : List tTxn.D} (hu : ∀ y ∈ u0, tTxn.wt y ≤ 1048576) (z : tTxn.D) : ∀ (l : List tTxn.D) (i : Nat), u0.drop i = l → ∀ K : List tTxn.D → Option Res, vfy u0 l (u0.take i ++ List.replicate (u0.length - i) z) i (fun z => K z.2) = K u0
  | [], i, h, K => by
    have : u0.length ≤ i := by have := congrArg List.length h; simp at this; omega
    simp [vfy, show u0.length - i = 0 by omega, List.take_of_length_le this]
  | y :: l, i, h, K => by
    have hlt := vdx h
    have hg : u0[i] = y := by have := vks h; rw [List.getElem?_eq_getElem hlt] at this; simpa using this
    have hrec := vr6 hu z l (i + 1) (vce h) K
    have hsp := vkp u0 z i hlt
    rw [hg] at hsp
    simp only [vfy, whx (hu y (ve2 h)), Int.toNat_natCast]
    rw [if_pos ⟨by omega, by simp; omega⟩]
    exact (congrArg (fun q => vfy u0 l q (i + 1) (fun z => K z.2)) hsp).trans hrec
theorem vsa {x : List tTxn.D} (hl : x.length ≤ 1048576) (hu : ∀ y ∈ x, tTxn.wt y ≤ 1048576) (k) : voy x k = k x := by
  rw [wk0 (by omega)]
  simp only [v94, Int.toNat_natCast]
  rw [if_pos ⟨by omega, by omega, by have : ((VE.maxLen : Nat) : Int) = 4294967296 := rfl; omega⟩]
  have := vr6 (u0 := x) hu (Ty.zero tTxn) x 0 rfl k
  simpa using this
theorem vup (x : tTxn.D) (h4 : x.2.2.2.2.1.length ≤ 1048576) (h5 : x.2.2.2.2.2.1.length ≤ 1048576) (k) : vrg x x k = k true := by
  rw [wb2]
  simp [v2s, vb8, vxn h4, vx5 h5]
theorem wip {x : tTxn.D} (h : tTxn.wt x ≤ 1048576) (k) : vrg x x k = k true := by
  rw [vwn] at h
  exact vup x (vck (T := tRange) (by omega)) (vck (T := tWrite) (by omega)) k
theorem vqh {u0 : List tTxn.D} (hu : ∀ y ∈ u0, tTxn.wt y ≤ 1048576) {u2 : Bool} : ∀ (l : List tTxn.D) (i : Nat), u0.drop i = l → ∃ z, ∀ k, vga u0 u0 u2 l i k = k (.inr z)
  | [], i, h => ⟨_, fun k => rfl⟩
  | y :: l, i, h => by
    have hlt := vdx h
    obtain ⟨z, hz⟩ := vqh hu (u2 := u2) l (i + 1) (vce h)
    have hy := (vat h).1
    refine ⟨z, fun k => ?_⟩
    simp only [vga]
    rw [if_pos ⟨by omega, by omega⟩]
    simp only [hy, wip (hu y (ve2 h)), Bool.not_true, cond_false, hz]
theorem vlz {x : List tTxn.D} (hl : x.length ≤ 1048576) (hu : ∀ y ∈ x, tTxn.wt y ≤ 1048576) (k) : vm6 x x k = k true := by
  rw [whf (by omega)]
  obtain ⟨z, hz⟩ := vqh (u0 := x) hu (u2 := false) x 0 rfl
  simp [v3x, hz]
theorem vx7 (x : tBase.D) : tBase.wt x = (Ty.slice tVersion).wt x.1 + (Ty.slice tTxn).wt x.2.1 + (Ty.slice tTxn).wt x.2.2.1 := by
  simp only [tBase, Ty.wt] <;> omega
theorem war {x : tBase.D} (hx : tBase.wf x) {a : Int} (h0 : 0 ≤ a) (h1 : a ≤ 1048576) : vmr (vz6 x a) a (tBase.wt x) := by
  rw [v78]
  unfold v5e
  obtain ⟨r0, q0, p0⟩ := vw0 (x := x.1) hx.1 (a := a) h0 h1
  simp only [q0]
  rcases p0 with p0 | ⟨p0, e0⟩
  · exact ⟨-1, fun k => by simp [p0], .inl (by omega)⟩
  have c0 : ¬ r0 < 0 := by omega
  simp only [c0, decide_false, cond_false]
  obtain ⟨r1, q1, p1⟩ := vri (x := x.2.1) hx.2.1 (a := r0) p0 (by omega)
  simp only [q1]
  rcases p1 with p1 | ⟨p1, e1⟩
  · exact ⟨-1, fun k => by simp [p1], .inl (by omega)⟩
  have c1 : ¬ r1 < 0 := by omega
  simp only [c1, decide_false, cond_false]
  obtain ⟨r2, q2, p2⟩ := vri (x := x.2.2.1) hx.2.2.1 (a := r1) p1 (by omega)
  simp only [q2]
  rcases p2 with p2 | ⟨p2, e2⟩
  · exact ⟨-1, fun k => by simp [p2], .inl (by omega)⟩
  have c2 : ¬ r2 < 0 := by omega
  simp only [c2, decide_false, cond_false]
  exact ⟨r2, fun k => rfl, .inr ⟨by omega, by rw [vx7] <;> (push_cast; omega)⟩⟩
theorem wbx (x : tBase.D) (h0 : x.1.length ≤ 1048576) (h1 : x.2.1.length ≤ 1048576) (g1 : ∀ y ∈ x.2.1, tTxn.wt y ≤ 1048576) (h2 : x.2.2.1.length ≤ 1048576) (g2 : ∀ y ∈ x.2.2.1, tTxn.wt y ≤ 1048576) (k) : vt3 x k = k (x.2.2.2.1, x.2.2.2.2, x.1, x.2.1, x.2.2.1) := by
  rw [wba]
  simp only [v34, vv5 h0, vsa h1 g1, vsa h2 g2]
theorem wdf {x : tBase.D} (h : tBase.wt x ≤ 1048576) (k) : vt3 x k = k (x.2.2.2.1, x.2.2.2.2, x.1, x.2.1, x.2.2.1) := by
  rw [vx7] at h
  exact wbx x (vck (T := tVersion) (by omega)) (vck (T := tTxn) (by omega)) (fun y hy => vb0 hy (by omega)) (vck (T := tTxn) (by omega)) (fun y hy => vb0 hy (by omega)) k
theorem v0m (x : tBase.D) (h0 : x.1.length ≤ 1048576) (h1 : x.2.1.length ≤ 1048576) (g1 : ∀ y ∈ x.2.1, tTxn.wt y ≤ 1048576) (h2 : x.2.2.1.length ≤ 1048576) (g2 : ∀ y ∈ x.2.2.1, tTxn.wt y ≤ 1048576) (k) : vt5 x x k = k true := by
  rw [v4h]
  simp [vyy, vb8, vi9 h0, vlz h1 g1, vlz h2 g2]
theorem wb9 {x : tBase.D} (h : tBase.wt x ≤ 1048576) (k) : vt5 x x k = k true := by
  rw [vx7] at h
  exact v0m x (vck (T := tVersion) (by omega)) (vck (T := tTxn) (by omega)) (fun y hy => vb0 hy (by omega)) (vck (T := tTxn) (by omega)) (fun y hy => vb0 hy (by omega)) k
theorem vfc (x : tEngine.D) : tEngine.wt x = tBase.wt x.1 + (Ty.slice tTxn).wt x.2 := by
  simp only [tEngine, Ty.wt] <;> omega
theorem v12 {x : tEngine.D} (hx : tEngine.wf x) {a : Int} (h0 : 0 ≤ a) (h1 : a ≤ 1048576) : vmr (vun x a) a (tEngine.wt x) := by
  rw [v7v]
  unfold v5k
  obtain ⟨r0, q0, p0⟩ := war (x := x.1) hx.1 (a := a) h0 h1
  simp only [q0]
  rcases p0 with p0 | ⟨p0, e0⟩
  · exact ⟨-1, fun k => by simp [p0], .inl (by omega)⟩
  have c0 : ¬ r0 < 0 := by omega
  simp only [c0, decide_false, cond_false]
  obtain ⟨r1, q1, p1⟩ := vri (x := x.2) hx.2 (a := r0) p0 (by omega)
  simp only [q1]
  rcases p1 with p1 | ⟨p1, e1⟩
  · exact ⟨-1, fun k => by simp [p1], .inl (by omega)⟩
  have c1 : ¬ r1 < 0 := by omega
  simp only [c1, decide_false, cond_false]
  exact ⟨r1, fun k => rfl, .inr ⟨by omega, by rw [vfc] <;> (push_cast; omega)⟩⟩
theorem v19 (x : tEngine.D) (h0 : tBase.wt x.1 ≤ 1048576) (h1 : x.2.length ≤ 1048576) (g1 : ∀ y ∈ x.2, tTxn.wt y ≤ 1048576) (k) : vg7 x k = k (x.1.2.2.2.1, x.1.2.2.2.2, x.1.1, x.1.2.1, x.1.2.2.1, x.2) := by
  rw [v86]
  simp only [v3p, wdf h0, vsa h1 g1]
theorem v5y {x : tEngine.D} (h : tEngine.wt x ≤ 1048576) (k) : vg7 x k = k (x.1.2.2.2.1, x.1.2.2.2.2, x.1.1, x.1.2.1, x.1.2.2.1, x.2) := by
  rw [vfc] at h
  exact v19 x (by omega) (vck (T := tTxn) (by omega)) (fun y hy => vb0 hy (by omega)) k
theorem vxg (x : tEngine.D) (h0 : tBase.wt x.1 ≤ 1048576) (h1 : x.2.length ≤ 1048576) (g1 : ∀ y ∈ x.2, tTxn.wt y ≤ 1048576) (k) : vfl x x k = k true := by
  rw [v3g]
  simp [vzf, vb8, wb9 h0, vlz h1 g1]
theorem v57 {x : tEngine.D} (h : tEngine.wt x ≤ 1048576) (k) : vfl x x k = k true := by
  rw [vfc] at h
  exact vxg x (by omega) (vck (T := tTxn) (by omega)) (fun y hy => vb0 hy (by omega)) k
end Go.VE
