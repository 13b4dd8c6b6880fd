/- Plain laws of the helpers of all laws: sizes, copies, comparisons; written by plib.py. -/
import Derived.Test.YteolgjmeigifbaaGreatScanKeysW
import Derived.Test.YteolgjmeigifbaaGreatP2
namespace Go.VE
set_option linter.unusedVariables false
set_option linter.unusedSimpArgs false
set_option maxRecDepth 100000
abbrev tPair : Ty := tRange
theorem v0f (x : tRange.D) : tRange.wt x = x.1.size + x.2.size := by
  simp only [tRange, Ty.wt] <;> omega
theorem vxn {x : tRange.D} (hx : tRange.wf x) {a : Int} (h0 : 0 ≤ a) (h1 : a ≤ 1048576) : vnz (vqo x a) a (tRange.wt x) := by
  rw [whb]
  unfold v8m
  rw [vjz (n := x.1.size) h0 h1 hx.1]
  by_cases c0 : a - (x.1.size : Int) < 0
  · exact ⟨-1, fun k => by simp [c0], .inl (by omega)⟩
  simp only [c0, decide_false, cond_false]
  rw [vjz (n := x.2.size) (by omega) (by omega) hx.2]
  by_cases c1 : (a - (x.1.size : Int)) - (x.2.size : Int) < 0
  · exact ⟨-1, fun k => by simp [c1], .inl (by omega)⟩
  simp only [c1, decide_false, cond_false]
  exact ⟨((a - (x.1.size : Int)) - (x.2.size : Int)), fun k => rfl, .inr ⟨by omega, by rw [v0f] <;> (push_cast; omega)⟩⟩
theorem voy {u0 : List tRange.D} {u2 : Int} : ∀ (l : List tRange.D) (s : Int) (i : Nat), (∀ y ∈ l, tRange.wf y) → 0 ≤ s → s ≤ 1048576 →
    ∃ e, (∀ k, vnq u0 u2 l s i k = k e) ∧ ((∃ z, e = .inl z ∧ z.2.1 < 0) ∨ ∃ z, e = .inr z ∧ 0 ≤ z.1 ∧ z.1 = s - (wtL tRange l : Int))
  | [], s, i, _, h0, h1 => ⟨.inr (s, (i : Int)), fun k => rfl, .inr ⟨_, rfl, h0, by simp [wtL]⟩⟩
  | y :: l, s, i, hl, h0, h1 => by
    obtain ⟨r, q, p⟩ := vxn (hl y (by simp)) h0 h1
    simp only [vnq, q]
    rcases p with p | ⟨p, e⟩
    · exact ⟨.inl (r, (-1 : Int), (i : Int)), fun k => by simp only [p, decide_true, cond_true], .inl ⟨_, rfl, by simp⟩⟩
    · have c : ¬ r < 0 := by omega
      simp only [c, decide_false, cond_false]
      obtain ⟨e', q', p'⟩ := voy l r (i + 1) (fun y hy => hl y (by simp [hy])) p (by omega)
      exact ⟨e', q', p'.imp id fun ⟨z, z1, z2, z3⟩ => ⟨z, z1, z2, by rw [z3, e]; simp only [wtL]; push_cast; omega⟩⟩
theorem v5c {x : List tRange.D} (hx : (Ty.slice tRange).wf x) {a : Int} (h0 : 0 ≤ a) (h1 : a ≤ 1048576) : vnz (v2z x a) a ((Ty.slice tRange).wt x) := by
  rw [wcg]
  unfold vnz
  simp only [v9f]
  rw [vjz (n := x.length) h0 h1 hx.1]
  by_cases c0 : a - (x.length : Int) < 0
  · exact ⟨-1, fun k => by simp [c0], .inl (by omega)⟩
  simp only [c0, decide_false, cond_false]
  have hlen : x.length < 9223372036854775807 := by omega
  simp only [wk2 hlen]
  obtain ⟨e, q, p⟩ := voy (u0 := x) (u2 := 0) x (a - (x.length : Int)) 0 hx.2 (by omega) (by omega)
  simp only [q]
  rcases p with ⟨z, rfl, p⟩ | ⟨z, rfl, p, e⟩
  · exact ⟨z.2.1, fun k => rfl, .inl p⟩
  · exact ⟨z.1, fun k => rfl, .inr ⟨p, by rw [e]; simp only [Ty.wt_slice]; push_cast; omega⟩⟩
theorem vyd (x : tRange.D) (k) : viw x k = k x := by
  rw [wdc]; rfl
theorem vn1 {u0 : List tRange.D} (z : tRange.D) : ∀ (l : List tRange.D) (i : Nat), u0.drop i = l → ∀ K : List tRange.D → Option Res, vf6 u0 l (u0.take i ++ List.replicate (u0.length - i) z) i (fun z => K z.2) = K u0
  | [], i, h, K => by
    have : u0.length ≤ i := by have := congrArg List.length h; simp at this; omega
    simp [vf6, show u0.length - i = 0 by omega, List.take_of_length_le this]
  | y :: l, i, h, K => by
    have hlt := vbu h
    have hg : u0[i] = y := by have := vl6 h; rw [List.getElem?_eq_getElem hlt] at this; simpa using this
    have hrec := vn1 z l (i + 1) (vap h) K
    have hsp := vl0 u0 z i hlt
    rw [hg] at hsp
    simp only [vf6, vyd, Int.toNat_natCast]
    rw [if_pos ⟨by omega, by simp; omega⟩]
    exact (congrArg (fun q => vf6 u0 l q (i + 1) (fun z => K z.2)) hsp).trans hrec
theorem v57 {x : List tRange.D} (hl : x.length ≤ 1048576) (k) : vxi x k = k x := by
  rw [ws5 (by omega)]
  simp only [wdw, Int.toNat_natCast]
  rw [if_pos ⟨by omega, by omega, by have : ((VE.maxLen : Nat) : Int) = 4294967296 := rfl; omega⟩]
  have := vn1 (u0 := x) (Ty.zero tRange) x 0 rfl k
  simpa using this
theorem v28 (x : tRange.D) (k) : vvv x x k = k true := by
  rw [wda]
  simp [v7a, vbl]
theorem voz {u0 : List tRange.D} {u2 : Bool} : ∀ (l : List tRange.D) (i : Nat), u0.drop i = l → ∃ z, ∀ k, vi7 u0 u0 u2 l i k = k (.inr z)
  | [], i, h => ⟨_, fun k => rfl⟩
  | y :: l, i, h => by
    have hlt := vbu h
    obtain ⟨z, hz⟩ := voz (u2 := u2) l (i + 1) (vap h)
    have hy := (van h).1
    refine ⟨z, fun k => ?_⟩
    simp only [vi7]
    rw [if_pos ⟨by omega, by omega⟩]
    simp only [hy, v28, Bool.not_true, cond_false, hz]
theorem vy0 {x : List tRange.D} (hl : x.length ≤ 1048576) (k) : vwo x x k = k true := by
  rw [wrh (by omega)]
  obtain ⟨z, hz⟩ := voz (u0 := x) (u2 := false) x 0 rfl
  simp [wfo, hz]
theorem vzp (x : tWrite.D) : tWrite.wt x = x.1.size + x.2.1.size := by
  simp only [tWrite, Ty.wt] <;> omega
theorem waw {x : tWrite.D} (hx : tWrite.wf x) {a : Int} (h0 : 0 ≤ a) (h1 : a ≤ 1048576) : vnz (vwq x a) a (tWrite.wt x) := by
  rw [wes]
  unfold v8f
  rw [vjz (n := x.1.size) h0 h1 hx.1]
  by_cases c0 : a - (x.1.size : Int) < 0
  · exact ⟨-1, fun k => by simp [c0], .inl (by omega)⟩
  simp only [c0, decide_false, cond_false]
  rw [vjz (n := x.2.1.size) (by omega) (by omega) hx.2.1]
  by_cases c1 : (a - (x.1.size : Int)) - (x.2.1.size : Int) < 0
  · exact ⟨-1, fun k => by simp [c1], .inl (by omega)⟩
  simp only [c1, decide_false, cond_false]
  exact ⟨((a - (x.1.size : Int)) - (x.2.1.size : Int)), fun k => rfl, .inr ⟨by omega, by rw [vzp] <;> (push_cast; omega)⟩⟩
theorem vod {u0 : List tWrite.D} {u2 : Int} : ∀ (l : List tWrite.D) (s : Int) (i : Nat), (∀ y ∈ l, tWrite.wf y) → 0 ≤ s → s ≤ 1048576 →
    ∃ e, (∀ k, vmu u0 u2 l s i k = k e) ∧ ((∃ z, e = .inl z ∧ z.2.1 < 0) ∨ ∃ z, e = .inr z ∧ 0 ≤ z.1 ∧ z.1 = s - (wtL tWrite l : Int))
  | [], s, i, _, h0, h1 => ⟨.inr (s, (i : Int)), fun k => rfl, .inr ⟨_, rfl, h0, by simp [wtL]⟩⟩
  | y :: l, s, i, hl, h0, h1 => by
    obtain ⟨r, q, p⟩ := waw (hl y (by simp)) h0 h1
    simp only [vmu, q]
    rcases p with p | ⟨p, e⟩
    · exact ⟨.inl (r, (-1 : Int), (i : Int)), fun k => by simp only [p, decide_true, cond_true], .inl ⟨_, rfl, by simp⟩⟩
    · have c : ¬ r < 0 := by omega
      simp only [c, decide_false, cond_false]
      obtain ⟨e', q', p'⟩ := vod l r (i + 1) (fun y hy => hl y (by simp [hy])) p (by omega)
      exact ⟨e', q', p'.imp id fun ⟨z, z1, z2, z3⟩ => ⟨z, z1, z2, by rw [z3, e]; simp only [wtL]; push_cast; omega⟩⟩
theorem v3o {x : List tWrite.D} (hx : (Ty.slice tWrite).wf x) {a : Int} (h0 : 0 ≤ a) (h1 : a ≤ 1048576) : vnz (v1u x a) a ((Ty.slice tWrite).wt x) := by
  rw [wfl]
  unfold vnz
  simp only [v8t]
  rw [vjz (n := x.length) h0 h1 hx.1]
  by_cases c0 : a - (x.length : Int) < 0
  · exact ⟨-1, fun k => by simp [c0], .inl (by omega)⟩
  simp only [c0, decide_false, cond_false]
  have hlen : x.length < 9223372036854775807 := by omega
  simp only [wlg hlen]
  obtain ⟨e, q, p⟩ := vod (u0 := x) (u2 := 0) x (a - (x.length : Int)) 0 hx.2 (by omega) (by omega)
  simp only [q]
  rcases p with ⟨z, rfl, p⟩ | ⟨z, rfl, p, e⟩
  · exact ⟨z.2.1, fun k => rfl, .inl p⟩
  · exact ⟨z.1, fun k => rfl, .inr ⟨p, by rw [e]; simp only [Ty.wt_slice]; push_cast; omega⟩⟩
theorem wau (x : tWrite.D) (k) : vyi x k = k x := by
  rw [wc2]; rfl
theorem vow {u0 : List tWrite.D} (z : tWrite.D) : ∀ (l : List tWrite.D) (i : Nat), u0.drop i = l → ∀ K : List tWrite.D → Option Res, vgl u0 l (u0.take i ++ List.replicate (u0.length - i) z) i (fun z => K z.2) = K u0
  | [], i, h, K => by
    have : u0.length ≤ i := by have := congrArg List.length h; simp at this; omega
    simp [vgl, show u0.length - i = 0 by omega, List.take_of_length_le this]
  | y :: l, i, h, K => by
    have hlt := vbu h
    have hg : u0[i] = y := by have := vl6 h; rw [List.getElem?_eq_getElem hlt] at this; simpa using this
    have hrec := vow z l (i + 1) (vap h) K
    have hsp := vl0 u0 z i hlt
    rw [hg] at hsp
    simp only [vgl, wau, Int.toNat_natCast]
    rw [if_pos ⟨by omega, by simp; omega⟩]
    exact (congrArg (fun q => vgl u0 l q (i + 1) (fun z => K z.2)) hsp).trans hrec
theorem v4c {x : List tWrite.D} (hl : x.length ≤ 1048576) (k) : vyg x k = k x := by
  rw [wru (by omega)]
  simp only [wfk, Int.toNat_natCast]
  rw [if_pos ⟨by omega, by omega, by have : ((VE.maxLen : Nat) : Int) = 4294967296 := rfl; omega⟩]
  have := vow (u0 := x) (Ty.zero tWrite) x 0 rfl k
  simpa using this
theorem v3d (x : tWrite.D) (k) : vyt x x k = k true := by
  rw [wds]
  simp [v9e, vbl]
theorem voo {u0 : List tWrite.D} {u2 : Bool} : ∀ (l : List tWrite.D) (i : Nat), u0.drop i = l → ∃ z, ∀ k, vkl u0 u0 u2 l i k = k (.inr z)
  | [], i, h => ⟨_, fun k => rfl⟩
  | y :: l, i, h => by
    have hlt := vbu h
    obtain ⟨z, hz⟩ := voo (u2 := u2) l (i + 1) (vap h)
    have hy := (van h).1
    refine ⟨z, fun k => ?_⟩
    simp only [vkl]
    rw [if_pos ⟨by omega, by omega⟩]
    simp only [hy, v3d, Bool.not_true, cond_false, hz]
theorem v0m {x : List tWrite.D} (hl : x.length ≤ 1048576) (k) : vv1 x x k = k true := by
  rw [wrd (by omega)]
  obtain ⟨z, hz⟩ := voo (u0 := x) (u2 := false) x 0 rfl
  simp [wee, hz]
theorem wdj (x : tVersion.D) : tVersion.wt x = x.1.size + x.2.1.size := by
  simp only [tVersion, Ty.wt] <;> omega
theorem v08 {x : tVersion.D} (hx : tVersion.wf x) {a : Int} (h0 : 0 ≤ a) (h1 : a ≤ 1048576) : vnz (vxt x a) a (tVersion.wt x) := by
  rw [wcl]
  unfold v8l
  rw [vjz (n := x.1.size) h0 h1 hx.1]
  by_cases c0 : a - (x.1.size : Int) < 0
  · exact ⟨-1, fun k => by simp [c0], .inl (by omega)⟩
  simp only [c0, decide_false, cond_false]
  rw [vjz (n := x.2.1.size) (by omega) (by omega) hx.2.1]
  by_cases c1 : (a - (x.1.size : Int)) - (x.2.1.size : Int) < 0
  · exact ⟨-1, fun k => by simp [c1], .inl (by omega)⟩
  simp only [c1, decide_false, cond_false]
  exact ⟨((a - (x.1.size : Int)) - (x.2.1.size : Int)), fun k => rfl, .inr ⟨by omega, by rw [wdj] <;> (push_cast; omega)⟩⟩
theorem vju {u0 : List tVersion.D} {u2 : Int} : ∀ (l : List tVersion.D) (s : Int) (i : Nat), (∀ y ∈ l, tVersion.wf y) → 0 ≤ s → s ≤ 1048576 →
    ∃ e, (∀ k, vm8 u0 u2 l s i k = k e) ∧ ((∃ z, e = .inl z ∧ z.2.1 < 0) ∨ ∃ z, e = .inr z ∧ 0 ≤ z.1 ∧ z.1 = s - (wtL tVersion l : Int))
  | [], s, i, _, h0, h1 => ⟨.inr (s, (i : Int)), fun k => rfl, .inr ⟨_, rfl, h0, by simp [wtL]⟩⟩
  | y :: l, s, i, hl, h0, h1 => by
    obtain ⟨r, q, p⟩ := v08 (hl y (by simp)) h0 h1
    simp only [vm8, q]
    rcases p with p | ⟨p, e⟩
    · exact ⟨.inl (r, (-1 : Int), (i : Int)), fun k => by simp only [p, decide_true, cond_true], .inl ⟨_, rfl, by simp⟩⟩
    · have c : ¬ r < 0 := by omega
      simp only [c, decide_false, cond_false]
      obtain ⟨e', q', p'⟩ := vju l r (i + 1) (fun y hy => hl y (by simp [hy])) p (by omega)
      exact ⟨e', q', p'.imp id fun ⟨z, z1, z2, z3⟩ => ⟨z, z1, z2, by rw [z3, e]; simp only [wtL]; push_cast; omega⟩⟩
theorem vzu {x : List tVersion.D} (hx : (Ty.slice tVersion).wf x) {a : Int} (h0 : 0 ≤ a) (h1 : a ≤ 1048576) : vnz (v21 x a) a ((Ty.slice tVersion).wt x) := by
  rw [wea]
  unfold vnz
  simp only [v9o]
  rw [vjz (n := x.length) h0 h1 hx.1]
  by_cases c0 : a - (x.length : Int) < 0
  · exact ⟨-1, fun k => by simp [c0], .inl (by omega)⟩
  simp only [c0, decide_false, cond_false]
  have hlen : x.length < 9223372036854775807 := by omega
  simp only [wll hlen]
  obtain ⟨e, q, p⟩ := vju (u0 := x) (u2 := 0) x (a - (x.length : Int)) 0 hx.2 (by omega) (by omega)
  simp only [q]
  rcases p with ⟨z, rfl, p⟩ | ⟨z, rfl, p, e⟩
  · exact ⟨z.2.1, fun k => rfl, .inl p⟩
  · exact ⟨z.1, fun k => rfl, .inr ⟨p, by rw [e]; simp only [Ty.wt_slice]; push_cast; omega⟩⟩
theorem v1k (x : tVersion.D) (k) : vvj x k = k x := by
  rw [wgy]; rfl
theorem vlj {u0 : List tVersion.D} (z : tVersion.D) : ∀ (l : List tVersion.D) (i : Nat), u0.drop i = l → ∀ K : List tVersion.D → Option Res, vgu u0 l (u0.take i ++ List.replicate (u0.length - i) z) i (fun z => K z.2) = K u0
  | [], i, h, K => by
    have : u0.length ≤ i := by have := congrArg List.length h; simp at this; omega
    simp [vgu, show u0.length - i = 0 by omega, List.take_of_length_le this]
  | y :: l, i, h, K => by
    have hlt := vbu h
    have hg : u0[i] = y := by have := vl6 h; rw [List.getElem?_eq_getElem hlt] at this; simpa using this
    have hrec := vlj z l (i + 1) (vap h) K
    have hsp := vl0 u0 z i hlt
    rw [hg] at hsp
    simp only [vgu, v1k, Int.toNat_natCast]
    rw [if_pos ⟨by omega, by simp; omega⟩]
    exact (congrArg (fun q => vgu u0 l q (i + 1) (fun z => K z.2)) hsp).trans hrec
theorem vzc {x : List tVersion.D} (hl : x.length ≤ 1048576) (k) : vvw x k = k x := by
  rw [wti (by omega)]
  simp only [wci, Int.toNat_natCast]
  rw [if_pos ⟨by omega, by omega, by have : ((VE.maxLen : Nat) : Int) = 4294967296 := rfl; omega⟩]
  have := vlj (u0 := x) (Ty.zero tVersion) x 0 rfl k
  simpa using this
theorem vuw (x : tVersion.D) (k) : vxy x x k = k true := by
  rw [wf7]
  simp [v92, vbl]
theorem vk2 {u0 : List tVersion.D} {u2 : Bool} : ∀ (l : List tVersion.D) (i : Nat), u0.drop i = l → ∃ z, ∀ k, vja u0 u0 u2 l i k = k (.inr z)
  | [], i, h => ⟨_, fun k => rfl⟩
  | y :: l, i, h => by
    have hlt := vbu h
    obtain ⟨z, hz⟩ := vk2 (u2 := u2) l (i + 1) (vap h)
    have hy := (van h).1
    refine ⟨z, fun k => ?_⟩
    simp only [vja]
    rw [if_pos ⟨by omega, by omega⟩]
    simp only [hy, vuw, Bool.not_true, cond_false, hz]
theorem vkb {x : List tVersion.D} (hl : x.length ≤ 1048576) (k) : vxe x x k = k true := by
  rw [wqg (by omega)]
  obtain ⟨z, hz⟩ := vk2 (u0 := x) (u2 := false) x 0 rfl
  simp [wcp, hz]
theorem v5a (x : tPair.D) (k) : vye x x k = k true := by
  rw [wd9]
  simp [v8i, vbl]
theorem vpx {u0 : List tPair.D} {u2 : Bool} : ∀ (l : List tPair.D) (i : Nat), u0.drop i = l → ∃ z, ∀ k, vlm u0 u0 u2 l i k = k (.inr z)
  | [], i, h => ⟨_, fun k => rfl⟩
  | y :: l, i, h => by
    have hlt := vbu h
    obtain ⟨z, hz⟩ := vpx (u2 := u2) l (i + 1) (vap h)
    have hy := (van h).1
    refine ⟨z, fun k => ?_⟩
    simp only [vlm]
    rw [if_pos ⟨by omega, by omega⟩]
    simp only [hy, v5a, Bool.not_true, cond_false, hz]
theorem v2o {x : List tPair.D} (hl : x.length ≤ 1048576) (k) : vkf x x k = k true := by
  rw [wth (by omega)]
  obtain ⟨z, hz⟩ := vpx (u0 := x) (u2 := false) x 0 rfl
  simp [wc9, hz]
theorem vuc (x : tTxn.D) : tTxn.wt x = (Ty.slice tRange).wt x.2.2.2.2.1 + (Ty.slice tWrite).wt x.2.2.2.2.2.1 + x.2.2.2.2.2.2.2.size := by
  simp only [tTxn, Ty.wt] <;> omega
theorem wjc {x : tTxn.D} (hx : tTxn.wf x) {a : Int} (h0 : 0 ≤ a) (h1 : a ≤ 1048576) : vnz (vvs x a) a (tTxn.wt x) := by
  rw [whg]
  unfold v7y
  obtain ⟨r0, q0, p0⟩ := v5c (x := x.2.2.2.2.1) hx.2.2.2.2.1 (a := a) h0 h1
  simp only [q0]
  rcases p0 with p0 | ⟨p0, e0⟩
  · exact ⟨-1, fun k => by simp [p0], .inl (by omega)⟩
  have c0 : ¬ r0 < 0 := by omega
  simp only [c0, decide_false, cond_false]
  obtain ⟨r1, q1, p1⟩ := v3o (x := x.2.2.2.2.2.1) hx.2.2.2.2.2.1 (a := r0) p0 (by omega)
  simp only [q1]
  rcases p1 with p1 | ⟨p1, e1⟩
  · exact ⟨-1, fun k => by simp [p1], .inl (by omega)⟩
  have c1 : ¬ r1 < 0 := by omega
  simp only [c1, decide_false, cond_false]
  rw [vjz (n := x.2.2.2.2.2.2.2.size) p1 (by omega) hx.2.2.2.2.2.2.2]
  by_cases c2 : r1 - (x.2.2.2.2.2.2.2.size : Int) < 0
  · exact ⟨-1, fun k => by simp [c2], .inl (by omega)⟩
  simp only [c2, decide_false, cond_false]
  exact ⟨(r1 - (x.2.2.2.2.2.2.2.size : Int)), fun k => rfl, .inr ⟨by omega, by rw [vuc] <;> (push_cast; omega)⟩⟩
theorem vre {u0 : List tTxn.D} {u2 : Int} : ∀ (l : List tTxn.D) (s : Int) (i : Nat), (∀ y ∈ l, tTxn.wf y) → 0 ≤ s → s ≤ 1048576 →
    ∃ e, (∀ k, vnp u0 u2 l s i k = k e) ∧ ((∃ z, e = .inl z ∧ z.2.1 < 0) ∨ ∃ z, e = .inr z ∧ 0 ≤ z.1 ∧ z.1 = s - (wtL tTxn l : Int))
  | [], s, i, _, h0, h1 => ⟨.inr (s, (i : Int)), fun k => rfl, .inr ⟨_, rfl, h0, by simp [wtL]⟩⟩
  | y :: l, s, i, hl, h0, h1 => by
    obtain ⟨r, q, p⟩ := wjc (hl y (by simp)) h0 h1
    simp only [vnp, q]
    rcases p with p | ⟨p, e⟩
    · exact ⟨.inl (r, (-1 : Int), (i : Int)), fun k => by simp only [p, decide_true, cond_true], .inl ⟨_, rfl, by simp⟩⟩
    · have c : ¬ r < 0 := by omega
      simp only [c, decide_false, cond_false]
      obtain ⟨e', q', p'⟩ := vre l r (i + 1) (fun y hy => hl y (by simp [hy])) p (by omega)
      exact ⟨e', q', p'.imp id fun ⟨z, z1, z2, z3⟩ => ⟨z, z1, z2, by rw [z3, e]; simp only [wtL]; push_cast; omega⟩⟩
theorem vsz {x : List tTxn.D} (hx : (Ty.slice tTxn).wf x) {a : Int} (h0 : 0 ≤ a) (h1 : a ≤ 1048576) : vnz (vr0 x a) a ((Ty.slice tTxn).wt x) := by
  rw [wgb]
  unfold vnz
  simp only [v8c]
  rw [vjz (n := x.length) h0 h1 hx.1]
  by_cases c0 : a - (x.length : Int) < 0
  · exact ⟨-1, fun k => by simp [c0], .inl (by omega)⟩
  simp only [c0, decide_false, cond_false]
  have hlen : x.length < 9223372036854775807 := by omega
  simp only [wio hlen]
  obtain ⟨e, q, p⟩ := vre (u0 := x) (u2 := 0) x (a - (x.length : Int)) 0 hx.2 (by omega) (by omega)
  simp only [q]
  rcases p with ⟨z, rfl, p⟩ | ⟨z, rfl, p, e⟩
  · exact ⟨z.2.1, fun k => rfl, .inl p⟩
  · exact ⟨z.1, fun k => rfl, .inr ⟨p, by rw [e]; simp only [Ty.wt_slice]; push_cast; omega⟩⟩
theorem wi7 (x : tTxn.D) (h4 : x.2.2.2.2.1.length ≤ 1048576) (h5 : x.2.2.2.2.2.1.length ≤ 1048576) (k) : vsa x k = k (x.1, x.2.1, x.2.2.1, x.2.2.2.1, x.2.2.2.2.2.2.1, x.2.2.2.2.2.2.2, x.2.2.2.2.1, x.2.2.2.2.2.1) := by
  rw [wgd]
  simp only [v88, v57 h4, v4c h5]
theorem wp5 {x : tTxn.D} (h : tTxn.wt x ≤ 1048576) (k) : vsa x k = k (x.1, x.2.1, x.2.2.1, x.2.2.2.1, x.2.2.2.2.2.2.1, x.2.2.2.2.2.2.2, x.2.2.2.2.1, x.2.2.2.2.2.1) := by
  rw [vuc] at h
  exact wi7 x (vb8 (T := tRange) (by omega)) (vb8 (T := tWrite) (by omega)) k
theorem vrt {u0 : List tTxn.D} (hu : ∀ y ∈ u0, tTxn.wt y ≤ 1048576) (z : tTxn.D) : ∀ (l : List tTxn.D) (i : Nat), u0.drop i = l → ∀ K : List tTxn.D → Option Res, vg3 u0 l (u0.take i ++ List.replicate (u0.length - i) z) i (fun z => K z.2) = K u0
  | [], i, h, K => by
    have : u0.length ≤ i := by have := congrArg List.length h; simp at this; omega
    simp [vg3, show u0.length - i = 0 by omega, List.take_of_length_le this]
  | y :: l, i, h, K => by
    have hlt := vbu h
    have hg : u0[i] = y := by have := vl6 h; rw [List.getElem?_eq_getElem hlt] at this; simpa using this
    have hrec := vrt hu z l (i + 1) (vap h) K
    have hsp := vl0 u0 z i hlt
    rw [hg] at hsp
    simp only [vg3, wp5 (hu y (vd4 h)), Int.toNat_natCast]
    rw [if_pos ⟨by omega, by simp; omega⟩]
    exact (congrArg (fun q => vg3 u0 l q (i + 1) (fun z => K z.2)) hsp).trans hrec
theorem vrr {x : List tTxn.D} (hl : x.length ≤ 1048576) (hu : ∀ y ∈ x, tTxn.wt y ≤ 1048576) (k) : vqn x k = k x := by
  rw [wqy (by omega)]
  simp only [wf5, Int.toNat_natCast]
  rw [if_pos ⟨by omega, by omega, by have : ((VE.maxLen : Nat) : Int) = 4294967296 := rfl; omega⟩]
  have := vrt (u0 := x) hu (Ty.zero tTxn) x 0 rfl k
  simpa using this
theorem vxv (x : tTxn.D) (h4 : x.2.2.2.2.1.length ≤ 1048576) (h5 : x.2.2.2.2.2.1.length ≤ 1048576) (k) : vrf x x k = k true := by
  rw [wfy]
  simp [v9q, vbl, vy0 h4, v0m h5]
theorem wop {x : tTxn.D} (h : tTxn.wt x ≤ 1048576) (k) : vrf x x k = k true := by
  rw [vuc] at h
  exact vxv x (vb8 (T := tRange) (by omega)) (vb8 (T := tWrite) (by omega)) k
theorem vq9 {u0 : List tTxn.D} (hu : ∀ y ∈ u0, tTxn.wt y ≤ 1048576) {u2 : Bool} : ∀ (l : List tTxn.D) (i : Nat), u0.drop i = l → ∃ z, ∀ k, vf9 u0 u0 u2 l i k = k (.inr z)
  | [], i, h => ⟨_, fun k => rfl⟩
  | y :: l, i, h => by
    have hlt := vbu h
    obtain ⟨z, hz⟩ := vq9 hu (u2 := u2) l (i + 1) (vap h)
    have hy := (van h).1
    refine ⟨z, fun k => ?_⟩
    simp only [vf9]
    rw [if_pos ⟨by omega, by omega⟩]
    simp only [hy, wop (hu y (vd4 h)), Bool.not_true, cond_false, hz]
theorem vnd {x : List tTxn.D} (hl : x.length ≤ 1048576) (hu : ∀ y ∈ x, tTxn.wt y ≤ 1048576) (k) : vob x x k = k true := by
  rw [won (by omega)]
  obtain ⟨z, hz⟩ := vq9 (u0 := x) hu (u2 := false) x 0 rfl
  simp [v90, hz]
theorem vww (x : tBase.D) : tBase.wt x = (Ty.slice tVersion).wt x.1 + (Ty.slice tTxn).wt x.2.1 + (Ty.slice tTxn).wt x.2.2.1 := by
  simp only [tBase, Ty.wt] <;> omega
theorem wgf {x : tBase.D} (hx : tBase.wf x) {a : Int} (h0 : 0 ≤ a) (h1 : a ≤ 1048576) : vnz (v25 x a) a (tBase.wt x) := by
  rw [wcc]
  unfold v8z
  obtain ⟨r0, q0, p0⟩ := vzu (x := x.1) hx.1 (a := a) h0 h1
  simp only [q0]
  rcases p0 with p0 | ⟨p0, e0⟩
  · exact ⟨-1, fun k => by simp [p0], .inl (by omega)⟩
  have c0 : ¬ r0 < 0 := by omega
  simp only [c0, decide_false, cond_false]
  obtain ⟨r1, q1, p1⟩ := vsz (x := x.2.1) hx.2.1 (a := r0) p0 (by omega)
  simp only [q1]
  rcases p1 with p1 | ⟨p1, e1⟩
  · exact ⟨-1, fun k => by simp [p1], .inl (by omega)⟩
  have c1 : ¬ r1 < 0 := by omega
  simp only [c1, decide_false, cond_false]
  obtain ⟨r2, q2, p2⟩ := vsz (x := x.2.2.1) hx.2.2.1 (a := r1) p1 (by omega)
  simp only [q2]
  rcases p2 with p2 | ⟨p2, e2⟩
  · exact ⟨-1, fun k => by simp [p2], .inl (by omega)⟩
  have c2 : ¬ r2 < 0 := by omega
  simp only [c2, decide_false, cond_false]
  exact ⟨r2, fun k => rfl, .inr ⟨by omega, by rw [vww] <;> (push_cast; omega)⟩⟩
theorem wgm (x : tBase.D) (h0 : x.1.length ≤ 1048576) (h1 : x.2.1.length ≤ 1048576) (g1 : ∀ y ∈ x.2.1, tTxn.wt y ≤ 1048576) (h2 : x.2.2.1.length ≤ 1048576) (g2 : ∀ y ∈ x.2.2.1, tTxn.wt y ≤ 1048576) (k) : vxm x k = k (x.2.2.2.1, x.2.2.2.2, x.1, x.2.1, x.2.2.1) := by
  rw [wdm]
  simp only [v63, vzc h0, vrr h1 g1, vrr h2 g2]
theorem wly {x : tBase.D} (h : tBase.wt x ≤ 1048576) (k) : vxm x k = k (x.2.2.2.1, x.2.2.2.2, x.1, x.2.1, x.2.2.1) := by
  rw [vww] at h
  exact wgm x (vb8 (T := tVersion) (by omega)) (vb8 (T := tTxn) (by omega)) (fun y hy => vbz hy (by omega)) (vb8 (T := tTxn) (by omega)) (fun y hy => vbz hy (by omega)) k
theorem v56 (x : tBase.D) (h0 : x.1.length ≤ 1048576) (h1 : x.2.1.length ≤ 1048576) (g1 : ∀ y ∈ x.2.1, tTxn.wt y ≤ 1048576) (h2 : x.2.2.1.length ≤ 1048576) (g2 : ∀ y ∈ x.2.2.1, tTxn.wt y ≤ 1048576) (k) : vwv x x k = k true := by
  rw [v8h]
  simp [v19, vbl, vkb h0, vnd h1 g1, vnd h2 g2]
theorem wlt {x : tBase.D} (h : tBase.wt x ≤ 1048576) (k) : vwv x x k = k true := by
  rw [vww] at h
  exact v56 x (vb8 (T := tVersion) (by omega)) (vb8 (T := tTxn) (by omega)) (fun y hy => vbz hy (by omega)) (vb8 (T := tTxn) (by omega)) (fun y hy => vbz hy (by omega)) k
theorem ve4 (x : tEngine.D) : tEngine.wt x = tBase.wt x.1 + (Ty.slice tTxn).wt x.2 := by
  simp only [tEngine, Ty.wt] <;> omega
theorem v5p {x : tEngine.D} (hx : tEngine.wf x) {a : Int} (h0 : 0 ≤ a) (h1 : a ≤ 1048576) : vnz (vw1 x a) a (tEngine.wt x) := by
  rw [wdp]
  unfold v67
  obtain ⟨r0, q0, p0⟩ := wgf (x := x.1) hx.1 (a := a) h0 h1
  simp only [q0]
  rcases p0 with p0 | ⟨p0, e0⟩
  · exact ⟨-1, fun k => by simp [p0], .inl (by omega)⟩
  have c0 : ¬ r0 < 0 := by omega
  simp only [c0, decide_false, cond_false]
  obtain ⟨r1, q1, p1⟩ := vsz (x := x.2) hx.2 (a := r0) p0 (by omega)
  simp only [q1]
  rcases p1 with p1 | ⟨p1, e1⟩
  · exact ⟨-1, fun k => by simp [p1], .inl (by omega)⟩
  have c1 : ¬ r1 < 0 := by omega
  simp only [c1, decide_false, cond_false]
  exact ⟨r1, fun k => rfl, .inr ⟨by omega, by rw [ve4] <;> (push_cast; omega)⟩⟩
theorem v3u (x : tEngine.D) (h0 : tBase.wt x.1 ≤ 1048576) (h1 : x.2.length ≤ 1048576) (g1 : ∀ y ∈ x.2, tTxn.wt y ≤ 1048576) (k) : vhl x k = k (x.1.2.2.2.1, x.1.2.2.2.2, x.1.1, x.1.2.1, x.1.2.2.1, x.2) := by
  rw [wep]
  simp only [v6z, wly h0, vrr h1 g1]
theorem wbv {x : tEngine.D} (h : tEngine.wt x ≤ 1048576) (k) : vhl x k = k (x.1.2.2.2.1, x.1.2.2.2.2, x.1.1, x.1.2.1, x.1.2.2.1, x.2) := by
  rw [ve4] at h
  exact v3u x (by omega) (vb8 (T := tTxn) (by omega)) (fun y hy => vbz hy (by omega)) k
theorem vy9 (x : tEngine.D) (h0 : tBase.wt x.1 ≤ 1048576) (h1 : x.2.length ≤ 1048576) (g1 : ∀ y ∈ x.2, tTxn.wt y ≤ 1048576) (k) : vft x x k = k true := by
  rw [v7k]
  simp [v1g, vbl, wlt h0, vnd h1 g1]
theorem wan {x : tEngine.D} (h : tEngine.wt x ≤ 1048576) (k) : vft x x k = k true := by
  rw [ve4] at h
  exact vy9 x (by omega) (vb8 (T := tTxn) (by omega)) (fun y hy => vbz hy (by omega)) k
end Go.VE
