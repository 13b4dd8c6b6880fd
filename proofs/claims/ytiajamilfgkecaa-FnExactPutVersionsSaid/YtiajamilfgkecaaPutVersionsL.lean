/- Plain laws of the helpers of all laws: sizes, copies, comparisons; written by plib.py. -/
import Derived.Test.YtiajamilfgkecaaPutVersionsW
import Derived.Test.YtiajamilfgkecaaP2
namespace Go.VE
set_option linter.unusedVariables false
set_option linter.unusedSimpArgs false
set_option maxRecDepth 100000
theorem v03 (x : tWrite.D) : tWrite.wt x = x.1.size + x.2.1.size := by
  simp only [tWrite, Ty.wt] <;> omega
theorem vva {x : tWrite.D} (hx : tWrite.wf x) {a : Int} (h0 : 0 ≤ a) (h1 : a ≤ 1048576) : vuf (vm2 x a) a (tWrite.wt x) := by
  rw [vwa]
  unfold vtk
  rw [vm8 (n := x.1.size) h0 h1 hx.1]
  by_cases c0 : a - (x.1.size : Int) < 0
  · exact ⟨-1, fun k => by simp [c0], .inl (by omega)⟩
  simp only [c0, decide_false, cond_false]
  rw [vm8 (n := x.2.1.size) (by omega) (by omega) hx.2.1]
  by_cases c1 : (a - (x.1.size : Int)) - (x.2.1.size : Int) < 0
  · exact ⟨-1, fun k => by simp [c1], .inl (by omega)⟩
  simp only [c1, decide_false, cond_false]
  exact ⟨((a - (x.1.size : Int)) - (x.2.1.size : Int)), fun k => rfl, .inr ⟨by omega, by rw [v03] <;> (push_cast; omega)⟩⟩
theorem vi5 {u0 : List tWrite.D} {u2 : Int} : ∀ (l : List tWrite.D) (s : Int) (i : Nat), (∀ y ∈ l, tWrite.wf y) → 0 ≤ s → s ≤ 1048576 →
    ∃ e, (∀ k, vie u0 u2 l s i k = k e) ∧ ((∃ z, e = .inl z ∧ z.2.1 < 0) ∨ ∃ z, e = .inr z ∧ 0 ≤ z.1 ∧ z.1 = s - (wtL tWrite l : Int))
  | [], s, i, _, h0, h1 => ⟨.inr (s, (i : Int)), fun k => rfl, .inr ⟨_, rfl, h0, by simp [wtL]⟩⟩
  | y :: l, s, i, hl, h0, h1 => by
    obtain ⟨r, q, p⟩ := vva (hl y (by simp)) h0 h1
    simp only [vie, q]
    rcases p with p | ⟨p, e⟩
    · exact ⟨.inl (r, (-1 : Int), (i : Int)), fun k => by simp only [p, decide_true, cond_true], .inl ⟨_, rfl, by simp⟩⟩
    · have c : ¬ r < 0 := by omega
      simp only [c, decide_false, cond_false]
      obtain ⟨e', q', p'⟩ := vi5 l r (i + 1) (fun y hy => hl y (by simp [hy])) p (by omega)
      exact ⟨e', q', p'.imp id fun ⟨z, z1, z2, z3⟩ => ⟨z, z1, z2, by rw [z3, e]; simp only [wtL]; push_cast; omega⟩⟩
theorem vr6 {x : List tWrite.D} (hx : (Ty.slice tWrite).wf x) {a : Int} (h0 : 0 ≤ a) (h1 : a ≤ 1048576) : vuf (vno x a) a ((Ty.slice tWrite).wt x) := by
  rw [vwx]
  unfold vuf
  simp only [vtd]
  rw [vm8 (n := x.length) h0 h1 hx.1]
  by_cases c0 : a - (x.length : Int) < 0
  · exact ⟨-1, fun k => by simp [c0], .inl (by omega)⟩
  simp only [c0, decide_false, cond_false]
  have hlen : x.length < 9223372036854775807 := by omega
  simp only [vzl hlen]
  obtain ⟨e, q, p⟩ := vi5 (u0 := x) (u2 := 0) x (a - (x.length : Int)) 0 hx.2 (by omega) (by omega)
  simp only [q]
  rcases p with ⟨z, rfl, p⟩ | ⟨z, rfl, p, e⟩
  · exact ⟨z.2.1, fun k => rfl, .inl p⟩
  · exact ⟨z.1, fun k => rfl, .inr ⟨p, by rw [e]; simp only [Ty.wt_slice]; push_cast; omega⟩⟩
theorem vus (x : tWrite.D) (k) : vmw x k = k x := by
  rw [vvu]; rfl
theorem vi0 {u0 : List tWrite.D} (z : tWrite.D) : ∀ (l : List tWrite.D) (i : Nat), u0.drop i = l → ∀ K : List tWrite.D → Option Res, veg u0 l (u0.take i ++ List.replicate (u0.length - i) z) i (fun z => K z.2) = K u0
  | [], i, h, K => by
    have : u0.length ≤ i := by have := congrArg List.length h; simp at this; omega
    simp [veg, show u0.length - i = 0 by omega, List.take_of_length_le this]
  | y :: l, i, h, K => by
    have hlt := vh0 h
    have hg : u0[i] = y := by have := vkk h; rw [List.getElem?_eq_getElem hlt] at this; simpa using this
    have hrec := vi0 z l (i + 1) (ve7 h) K
    have hsp := vng u0 z i hlt
    rw [hg] at hsp
    simp only [veg, vus, Int.toNat_natCast]
    rw [if_pos ⟨by omega, by simp; omega⟩]
    exact (congrArg (fun q => veg u0 l q (i + 1) (fun z => K z.2)) hsp).trans hrec
theorem vrr {x : List tWrite.D} (hl : x.length ≤ 1048576) (k) : ve9 x k = k x := by
  rw [v11 (by omega)]
  simp only [vwn, Int.toNat_natCast]
  rw [if_pos ⟨by omega, by omega, by have : ((VE.maxLen : Nat) : Int) = 4294967296 := rfl; omega⟩]
  have := vi0 (u0 := x) (Ty.zero tWrite) x 0 rfl k
  simpa using this
theorem vrd (x : tWrite.D) (k) : vmj x x k = k true := by
  rw [vvr]
  simp [vtp, vhp]
theorem viv {u0 : List tWrite.D} {u2 : Bool} : ∀ (l : List tWrite.D) (i : Nat), u0.drop i = l → ∃ z, ∀ k, vg1 u0 u0 u2 l i k = k (.inr z)
  | [], i, h => ⟨_, fun k => rfl⟩
  | y :: l, i, h => by
    have hlt := vh0 h
    obtain ⟨z, hz⟩ := viv (u2 := u2) l (i + 1) (ve7 h)
    have hy := (vcn h).1
    refine ⟨z, fun k => ?_⟩
    simp only [vg1]
    rw [if_pos ⟨by omega, by omega⟩]
    simp only [hy, vrd, Bool.not_true, cond_false, hz]
theorem vot {x : List tWrite.D} (hl : x.length ≤ 1048576) (k) : vl5 x x k = k true := by
  rw [v1l (by omega)]
  obtain ⟨z, hz⟩ := viv (u0 := x) (u2 := false) x 0 rfl
  simp [vv0, hz]
theorem vvg (x : tVersion.D) : tVersion.wt x = x.1.size + x.2.1.size := by
  simp only [tVersion, Ty.wt] <;> omega
theorem vq0 {x : tVersion.D} (hx : tVersion.wf x) {a : Int} (h0 : 0 ≤ a) (h1 : a ≤ 1048576) : vuf (vmo x a) a (tVersion.wt x) := by
  rw [vwj]
  unfold vsy
  rw [vm8 (n := x.1.size) h0 h1 hx.1]
  by_cases c0 : a - (x.1.size : Int) < 0
  · exact ⟨-1, fun k => by simp [c0], .inl (by omega)⟩
  simp only [c0, decide_false, cond_false]
  rw [vm8 (n := x.2.1.size) (by omega) (by omega) hx.2.1]
  by_cases c1 : (a - (x.1.size : Int)) - (x.2.1.size : Int) < 0
  · exact ⟨-1, fun k => by simp [c1], .inl (by omega)⟩
  simp only [c1, decide_false, cond_false]
  exact ⟨((a - (x.1.size : Int)) - (x.2.1.size : Int)), fun k => rfl, .inr ⟨by omega, by rw [vvg] <;> (push_cast; omega)⟩⟩
theorem vgp {u0 : List tVersion.D} {u2 : Int} : ∀ (l : List tVersion.D) (s : Int) (i : Nat), (∀ y ∈ l, tVersion.wf y) → 0 ≤ s → s ≤ 1048576 →
    ∃ e, (∀ k, vh9 u0 u2 l s i k = k e) ∧ ((∃ z, e = .inl z ∧ z.2.1 < 0) ∨ ∃ z, e = .inr z ∧ 0 ≤ z.1 ∧ z.1 = s - (wtL tVersion l : Int))
  | [], s, i, _, h0, h1 => ⟨.inr (s, (i : Int)), fun k => rfl, .inr ⟨_, rfl, h0, by simp [wtL]⟩⟩
  | y :: l, s, i, hl, h0, h1 => by
    obtain ⟨r, q, p⟩ := vq0 (hl y (by simp)) h0 h1
    simp only [vh9, q]
    rcases p with p | ⟨p, e⟩
    · exact ⟨.inl (r, (-1 : Int), (i : Int)), fun k => by simp only [p, decide_true, cond_true], .inl ⟨_, rfl, by simp⟩⟩
    · have c : ¬ r < 0 := by omega
      simp only [c, decide_false, cond_false]
      obtain ⟨e', q', p'⟩ := vgp l r (i + 1) (fun y hy => hl y (by simp [hy])) p (by omega)
      exact ⟨e', q', p'.imp id fun ⟨z, z1, z2, z3⟩ => ⟨z, z1, z2, by rw [z3, e]; simp only [wtL]; push_cast; omega⟩⟩
theorem voi {x : List tVersion.D} (hx : (Ty.slice tVersion).wf x) {a : Int} (h0 : 0 ≤ a) (h1 : a ≤ 1048576) : vuf (vnd x a) a ((Ty.slice tVersion).wt x) := by
  rw [vvz]
  unfold vuf
  simp only [vt0]
  rw [vm8 (n := x.length) h0 h1 hx.1]
  by_cases c0 : a - (x.length : Int) < 0
  · exact ⟨-1, fun k => by simp [c0], .inl (by omega)⟩
  simp only [c0, decide_false, cond_false]
  have hlen : x.length < 9223372036854775807 := by omega
  simp only [vx7 hlen]
  obtain ⟨e, q, p⟩ := vgp (u0 := x) (u2 := 0) x (a - (x.length : Int)) 0 hx.2 (by omega) (by omega)
  simp only [q]
  rcases p with ⟨z, rfl, p⟩ | ⟨z, rfl, p, e⟩
  · exact ⟨z.2.1, fun k => rfl, .inl p⟩
  · exact ⟨z.1, fun k => rfl, .inr ⟨p, by rw [e]; simp only [Ty.wt_slice]; push_cast; omega⟩⟩
theorem vpl (x : tVersion.D) (k) : vmu x k = k x := by
  rw [vxg]; rfl
theorem vf2 {u0 : List tVersion.D} (z : tVersion.D) : ∀ (l : List tVersion.D) (i : Nat), u0.drop i = l → ∀ K : List tVersion.D → Option Res, vee u0 l (u0.take i ++ List.replicate (u0.length - i) z) i (fun z => K z.2) = K u0
  | [], i, h, K => by
    have : u0.length ≤ i := by have := congrArg List.length h; simp at this; omega
    simp [vee, show u0.length - i = 0 by omega, List.take_of_length_le this]
  | y :: l, i, h, K => by
    have hlt := vh0 h
    have hg : u0[i] = y := by have := vkk h; rw [List.getElem?_eq_getElem hlt] at this; simpa using this
    have hrec := vf2 z l (i + 1) (ve7 h) K
    have hsp := vng u0 z i hlt
    rw [hg] at hsp
    simp only [vee, vpl, Int.toNat_natCast]
    rw [if_pos ⟨by omega, by simp; omega⟩]
    exact (congrArg (fun q => vee u0 l q (i + 1) (fun z => K z.2)) hsp).trans hrec
theorem vpc {x : List tVersion.D} (hl : x.length ≤ 1048576) (k) : ves x k = k x := by
  rw [v2d (by omega)]
  simp only [vw8, Int.toNat_natCast]
  rw [if_pos ⟨by omega, by omega, by have : ((VE.maxLen : Nat) : Int) = 4294967296 := rfl; omega⟩]
  have := vf2 (u0 := x) (Ty.zero tVersion) x 0 rfl k
  simpa using this
theorem vmd (x : tVersion.D) (k) : vnn x x k = k true := by
  rw [vxb]
  simp [vsw, vhp]
theorem vgv {u0 : List tVersion.D} {u2 : Bool} : ∀ (l : List tVersion.D) (i : Nat), u0.drop i = l → ∃ z, ∀ k, vg6 u0 u0 u2 l i k = k (.inr z)
  | [], i, h => ⟨_, fun k => rfl⟩
  | y :: l, i, h => by
    have hlt := vh0 h
    obtain ⟨z, hz⟩ := vgv (u2 := u2) l (i + 1) (ve7 h)
    have hy := (vcn h).1
    refine ⟨z, fun k => ?_⟩
    simp only [vg6]
    rw [if_pos ⟨by omega, by omega⟩]
    simp only [hy, vmd, Bool.not_true, cond_false, hz]
theorem vgz {x : List tVersion.D} (hl : x.length ≤ 1048576) (k) : vew x x k = k true := by
  rw [v1z (by omega)]
  obtain ⟨z, hz⟩ := vgv (u0 := x) (u2 := false) x 0 rfl
  simp [vxs, hz]
end Go.VE
