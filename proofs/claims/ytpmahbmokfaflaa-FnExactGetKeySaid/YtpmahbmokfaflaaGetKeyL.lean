/- Plain laws of the helpers of all laws: sizes, copies, comparisons; written by plib.py. -/
import Derived.Test.YtpmahbmokfaflaaGetKeyW
import Derived.Test.YtpmahbmokfaflaaP2
namespace Go.VE
set_option linter.unusedVariables false
set_option linter.unusedSimpArgs false
set_option maxRecDepth 100000


theorem wtRange (x : tRange.D) : tRange.wt x = x.1.size + x.2.size := by
  simp only [tRange, Ty.wt] <;> omega

theorem szRange_is {x : tRange.D} (hx : tRange.wf x) {a : Int} (h0 : 0 ≤ a) (h1 : a ≤ 1048576) : Sized (n46n_k x a) a (tRange.wt x) := by
  rw [n46n_e]
  unfold n46n_d
  rw [sz_sub (n := x.1.size) h0 h1 hx.1]
  by_cases c0 : a - (x.1.size : Int) < 0
  · exact ⟨-1, fun k => by simp [c0], .inl (by omega)⟩
  simp only [c0, decide_false, cond_false]
  rw [sz_sub (n := x.2.size) (by omega) (by omega) hx.2]
  by_cases c1 : (a - (x.1.size : Int)) - (x.2.size : Int) < 0
  · exact ⟨-1, fun k => by simp [c1], .inl (by omega)⟩
  simp only [c1, decide_false, cond_false]
  exact ⟨((a - (x.1.size : Int)) - (x.2.size : Int)), fun k => rfl, .inr ⟨by omega, by rw [wtRange] <;> (push_cast; omega)⟩⟩

theorem szRangeS_loop {u0 : List tRange.D} {u2 : Int} : ∀ (l : List tRange.D) (s : Int) (i : Nat), (∀ y ∈ l, tRange.wf y) → 0 ≤ s → s ≤ 1048576 →
    ∃ e, (∀ k, n47n_w0 u0 u2 l s i k = k e) ∧ ((∃ z, e = .inl z ∧ z.2.1 < 0) ∨ ∃ z, e = .inr z ∧ 0 ≤ z.1 ∧ z.1 = s - (wtL tRange l : Int))
  | [], s, i, _, h0, h1 => ⟨.inr (s, (i : Int)), fun k => rfl, .inr ⟨_, rfl, h0, by simp [wtL]⟩⟩
  | y :: l, s, i, hl, h0, h1 => by
    obtain ⟨r, q, p⟩ := szRange_is (hl y (by simp)) h0 h1
    simp only [n47n_w0, q]
    rcases p with p | ⟨p, e⟩
    · exact ⟨.inl (r, (-1 : Int), (i : Int)), fun k => by simp only [p, decide_true, cond_true], .inl ⟨_, rfl, by simp⟩⟩
    · have c : ¬ r < 0 := by omega
      simp only [c, decide_false, cond_false]
      obtain ⟨e', q', p'⟩ := szRangeS_loop l r (i + 1) (fun y hy => hl y (by simp [hy])) p (by omega)
      exact ⟨e', q', p'.imp id fun ⟨z, z1, z2, z3⟩ => ⟨z, z1, z2, by rw [z3, e]; simp only [wtL]; push_cast; omega⟩⟩

theorem szRangeS_is {x : List tRange.D} (hx : (Ty.slice tRange).wf x) {a : Int} (h0 : 0 ≤ a) (h1 : a ≤ 1048576) : Sized (n47n_k x a) a ((Ty.slice tRange).wt x) := by
  rw [n47n_e]
  unfold Sized
  simp only [n47n_d]
  rw [sz_sub (n := x.length) h0 h1 hx.1]
  by_cases c0 : a - (x.length : Int) < 0
  · exact ⟨-1, fun k => by simp [c0], .inl (by omega)⟩
  simp only [c0, decide_false, cond_false]
  have hlen : x.length < 9223372036854775807 := by omega
  simp only [n47n_lz0 hlen]
  obtain ⟨e, q, p⟩ := szRangeS_loop (u0 := x) (u2 := 0) x (a - (x.length : Int)) 0 hx.2 (by omega) (by omega)
  simp only [q]
  rcases p with ⟨z, rfl, p⟩ | ⟨z, rfl, p, e⟩
  · exact ⟨z.2.1, fun k => rfl, .inl p⟩
  · exact ⟨z.1, fun k => rfl, .inr ⟨p, by rw [e]; simp only [Ty.wt_slice]; push_cast; omega⟩⟩

theorem toRange_is (x : tRange.D) (k) : n56n_k x k = k x := by
  rw [n56n_e]; rfl

theorem toRangeS_loop {u0 : List tRange.D} (z : tRange.D) : ∀ (l : List tRange.D) (i : Nat), u0.drop i = l → ∀ K : List tRange.D → Option Res, n57n_w0 u0 l (u0.take i ++ List.replicate (u0.length - i) z) i (fun z => K z.2) = K u0
  | [], i, h, K => by
    have : u0.length ≤ i := by have := congrArg List.length h; simp at this; omega
    simp [n57n_w0, show u0.length - i = 0 by omega, List.take_of_length_le this]
  | y :: l, i, h, K => by
    have hlt := drop_lt h
    have hg : u0[i] = y := by have := drop_get h; rw [List.getElem?_eq_getElem hlt] at this; simpa using this
    have hrec := toRangeS_loop z l (i + 1) (drop_succ h) K
    have hsp := set_prefix u0 z i hlt
    rw [hg] at hsp
    simp only [n57n_w0, toRange_is, Int.toNat_natCast]
    rw [if_pos ⟨by omega, by simp; omega⟩]
    exact (congrArg (fun q => n57n_w0 u0 l q (i + 1) (fun z => K z.2)) hsp).trans hrec

theorem toRangeS_is {x : List tRange.D} (hl : x.length ≤ 1048576) (k) : n57n_k x k = k x := by
  rw [n57n_r (by omega)]
  simp only [n57n_t, Int.toNat_natCast]
  rw [if_pos ⟨by omega, by omega, by have : ((VE.maxLen : Nat) : Int) = 4294967296 := rfl; omega⟩]
  have := toRangeS_loop (u0 := x) (Ty.zero tRange) x 0 rfl k
  simpa using this

theorem eqRange_self (x : tRange.D) (k) : n23n_k x x k = k true := by
  rw [n23n_e]
  simp [n23n_d, strEq_self]

theorem eqRangeS_loop {u0 : List tRange.D} {u2 : Bool} : ∀ (l : List tRange.D) (i : Nat), u0.drop i = l → ∃ z, ∀ k, n24n_w0 u0 u0 u2 l i k = k (.inr z)
  | [], i, h => ⟨_, fun k => rfl⟩
  | y :: l, i, h => by
    have hlt := drop_lt h
    obtain ⟨z, hz⟩ := eqRangeS_loop (u2 := u2) l (i + 1) (drop_succ h)
    have hy := (lwl_get h).1
    refine ⟨z, fun k => ?_⟩
    simp only [n24n_w0]
    rw [if_pos ⟨by omega, by omega⟩]
    simp only [hy, eqRange_self, Bool.not_true, cond_false, hz]

theorem eqRangeS_self {x : List tRange.D} (hl : x.length ≤ 1048576) (k) : n24n_k x x k = k true := by
  rw [n24n_r (by omega)]
  obtain ⟨z, hz⟩ := eqRangeS_loop (u0 := x) (u2 := false) x 0 rfl
  simp [n24n_t, hz]

theorem wtWrite (x : tWrite.D) : tWrite.wt x = x.1.size + x.2.1.size := by
  simp only [tWrite, Ty.wt] <;> omega

theorem szWrite_is {x : tWrite.D} (hx : tWrite.wf x) {a : Int} (h0 : 0 ≤ a) (h1 : a ≤ 1048576) : Sized (n52n_k x a) a (tWrite.wt x) := by
  rw [n52n_e]
  unfold n52n_d
  rw [sz_sub (n := x.1.size) h0 h1 hx.1]
  by_cases c0 : a - (x.1.size : Int) < 0
  · exact ⟨-1, fun k => by simp [c0], .inl (by omega)⟩
  simp only [c0, decide_false, cond_false]
  rw [sz_sub (n := x.2.1.size) (by omega) (by omega) hx.2.1]
  by_cases c1 : (a - (x.1.size : Int)) - (x.2.1.size : Int) < 0
  · exact ⟨-1, fun k => by simp [c1], .inl (by omega)⟩
  simp only [c1, decide_false, cond_false]
  exact ⟨((a - (x.1.size : Int)) - (x.2.1.size : Int)), fun k => rfl, .inr ⟨by omega, by rw [wtWrite] <;> (push_cast; omega)⟩⟩

theorem szWriteS_loop {u0 : List tWrite.D} {u2 : Int} : ∀ (l : List tWrite.D) (s : Int) (i : Nat), (∀ y ∈ l, tWrite.wf y) → 0 ≤ s → s ≤ 1048576 →
    ∃ e, (∀ k, n53n_w0 u0 u2 l s i k = k e) ∧ ((∃ z, e = .inl z ∧ z.2.1 < 0) ∨ ∃ z, e = .inr z ∧ 0 ≤ z.1 ∧ z.1 = s - (wtL tWrite l : Int))
  | [], s, i, _, h0, h1 => ⟨.inr (s, (i : Int)), fun k => rfl, .inr ⟨_, rfl, h0, by simp [wtL]⟩⟩
  | y :: l, s, i, hl, h0, h1 => by
    obtain ⟨r, q, p⟩ := szWrite_is (hl y (by simp)) h0 h1
    simp only [n53n_w0, q]
    rcases p with p | ⟨p, e⟩
    · exact ⟨.inl (r, (-1 : Int), (i : Int)), fun k => by simp only [p, decide_true, cond_true], .inl ⟨_, rfl, by simp⟩⟩
    · have c : ¬ r < 0 := by omega
      simp only [c, decide_false, cond_false]
      obtain ⟨e', q', p'⟩ := szWriteS_loop l r (i + 1) (fun y hy => hl y (by simp [hy])) p (by omega)
      exact ⟨e', q', p'.imp id fun ⟨z, z1, z2, z3⟩ => ⟨z, z1, z2, by rw [z3, e]; simp only [wtL]; push_cast; omega⟩⟩

theorem szWriteS_is {x : List tWrite.D} (hx : (Ty.slice tWrite).wf x) {a : Int} (h0 : 0 ≤ a) (h1 : a ≤ 1048576) : Sized (n53n_k x a) a ((Ty.slice tWrite).wt x) := by
  rw [n53n_e]
  unfold Sized
  simp only [n53n_d]
  rw [sz_sub (n := x.length) h0 h1 hx.1]
  by_cases c0 : a - (x.length : Int) < 0
  · exact ⟨-1, fun k => by simp [c0], .inl (by omega)⟩
  simp only [c0, decide_false, cond_false]
  have hlen : x.length < 9223372036854775807 := by omega
  simp only [n53n_lz0 hlen]
  obtain ⟨e, q, p⟩ := szWriteS_loop (u0 := x) (u2 := 0) x (a - (x.length : Int)) 0 hx.2 (by omega) (by omega)
  simp only [q]
  rcases p with ⟨z, rfl, p⟩ | ⟨z, rfl, p, e⟩
  · exact ⟨z.2.1, fun k => rfl, .inl p⟩
  · exact ⟨z.1, fun k => rfl, .inr ⟨p, by rw [e]; simp only [Ty.wt_slice]; push_cast; omega⟩⟩

theorem toWrite_is (x : tWrite.D) (k) : n62n_k x k = k x := by
  rw [n62n_e]; rfl

theorem toWriteS_loop {u0 : List tWrite.D} (z : tWrite.D) : ∀ (l : List tWrite.D) (i : Nat), u0.drop i = l → ∀ K : List tWrite.D → Option Res, n63n_w0 u0 l (u0.take i ++ List.replicate (u0.length - i) z) i (fun z => K z.2) = K u0
  | [], i, h, K => by
    have : u0.length ≤ i := by have := congrArg List.length h; simp at this; omega
    simp [n63n_w0, show u0.length - i = 0 by omega, List.take_of_length_le this]
  | y :: l, i, h, K => by
    have hlt := drop_lt h
    have hg : u0[i] = y := by have := drop_get h; rw [List.getElem?_eq_getElem hlt] at this; simpa using this
    have hrec := toWriteS_loop z l (i + 1) (drop_succ h) K
    have hsp := set_prefix u0 z i hlt
    rw [hg] at hsp
    simp only [n63n_w0, toWrite_is, Int.toNat_natCast]
    rw [if_pos ⟨by omega, by simp; omega⟩]
    exact (congrArg (fun q => n63n_w0 u0 l q (i + 1) (fun z => K z.2)) hsp).trans hrec

theorem toWriteS_is {x : List tWrite.D} (hl : x.length ≤ 1048576) (k) : n63n_k x k = k x := by
  rw [n63n_r (by omega)]
  simp only [n63n_t, Int.toNat_natCast]
  rw [if_pos ⟨by omega, by omega, by have : ((VE.maxLen : Nat) : Int) = 4294967296 := rfl; omega⟩]
  have := toWriteS_loop (u0 := x) (Ty.zero tWrite) x 0 rfl k
  simpa using this

theorem eqWrite_self (x : tWrite.D) (k) : n29n_k x x k = k true := by
  rw [n29n_e]
  simp [n29n_d, strEq_self]

theorem eqWriteS_loop {u0 : List tWrite.D} {u2 : Bool} : ∀ (l : List tWrite.D) (i : Nat), u0.drop i = l → ∃ z, ∀ k, n30n_w0 u0 u0 u2 l i k = k (.inr z)
  | [], i, h => ⟨_, fun k => rfl⟩
  | y :: l, i, h => by
    have hlt := drop_lt h
    obtain ⟨z, hz⟩ := eqWriteS_loop (u2 := u2) l (i + 1) (drop_succ h)
    have hy := (lwl_get h).1
    refine ⟨z, fun k => ?_⟩
    simp only [n30n_w0]
    rw [if_pos ⟨by omega, by omega⟩]
    simp only [hy, eqWrite_self, Bool.not_true, cond_false, hz]

theorem eqWriteS_self {x : List tWrite.D} (hl : x.length ≤ 1048576) (k) : n30n_k x x k = k true := by
  rw [n30n_r (by omega)]
  obtain ⟨z, hz⟩ := eqWriteS_loop (u0 := x) (u2 := false) x 0 rfl
  simp [n30n_t, hz]

theorem wtVersion (x : tVersion.D) : tVersion.wt x = x.1.size + x.2.1.size := by
  simp only [tVersion, Ty.wt] <;> omega

theorem szVersion_is {x : tVersion.D} (hx : tVersion.wf x) {a : Int} (h0 : 0 ≤ a) (h1 : a ≤ 1048576) : Sized (n50n_k x a) a (tVersion.wt x) := by
  rw [n50n_e]
  unfold n50n_d
  rw [sz_sub (n := x.1.size) h0 h1 hx.1]
  by_cases c0 : a - (x.1.size : Int) < 0
  · exact ⟨-1, fun k => by simp [c0], .inl (by omega)⟩
  simp only [c0, decide_false, cond_false]
  rw [sz_sub (n := x.2.1.size) (by omega) (by omega) hx.2.1]
  by_cases c1 : (a - (x.1.size : Int)) - (x.2.1.size : Int) < 0
  · exact ⟨-1, fun k => by simp [c1], .inl (by omega)⟩
  simp only [c1, decide_false, cond_false]
  exact ⟨((a - (x.1.size : Int)) - (x.2.1.size : Int)), fun k => rfl, .inr ⟨by omega, by rw [wtVersion] <;> (push_cast; omega)⟩⟩

theorem szVersionS_loop {u0 : List tVersion.D} {u2 : Int} : ∀ (l : List tVersion.D) (s : Int) (i : Nat), (∀ y ∈ l, tVersion.wf y) → 0 ≤ s → s ≤ 1048576 →
    ∃ e, (∀ k, n51n_w0 u0 u2 l s i k = k e) ∧ ((∃ z, e = .inl z ∧ z.2.1 < 0) ∨ ∃ z, e = .inr z ∧ 0 ≤ z.1 ∧ z.1 = s - (wtL tVersion l : Int))
  | [], s, i, _, h0, h1 => ⟨.inr (s, (i : Int)), fun k => rfl, .inr ⟨_, rfl, h0, by simp [wtL]⟩⟩
  | y :: l, s, i, hl, h0, h1 => by
    obtain ⟨r, q, p⟩ := szVersion_is (hl y (by simp)) h0 h1
    simp only [n51n_w0, q]
    rcases p with p | ⟨p, e⟩
    · exact ⟨.inl (r, (-1 : Int), (i : Int)), fun k => by simp only [p, decide_true, cond_true], .inl ⟨_, rfl, by simp⟩⟩
    · have c : ¬ r < 0 := by omega
      simp only [c, decide_false, cond_false]
      obtain ⟨e', q', p'⟩ := szVersionS_loop l r (i + 1) (fun y hy => hl y (by simp [hy])) p (by omega)
      exact ⟨e', q', p'.imp id fun ⟨z, z1, z2, z3⟩ => ⟨z, z1, z2, by rw [z3, e]; simp only [wtL]; push_cast; omega⟩⟩

theorem szVersionS_is {x : List tVersion.D} (hx : (Ty.slice tVersion).wf x) {a : Int} (h0 : 0 ≤ a) (h1 : a ≤ 1048576) : Sized (n51n_k x a) a ((Ty.slice tVersion).wt x) := by
  rw [n51n_e]
  unfold Sized
  simp only [n51n_d]
  rw [sz_sub (n := x.length) h0 h1 hx.1]
  by_cases c0 : a - (x.length : Int) < 0
  · exact ⟨-1, fun k => by simp [c0], .inl (by omega)⟩
  simp only [c0, decide_false, cond_false]
  have hlen : x.length < 9223372036854775807 := by omega
  simp only [n51n_lz0 hlen]
  obtain ⟨e, q, p⟩ := szVersionS_loop (u0 := x) (u2 := 0) x (a - (x.length : Int)) 0 hx.2 (by omega) (by omega)
  simp only [q]
  rcases p with ⟨z, rfl, p⟩ | ⟨z, rfl, p, e⟩
  · exact ⟨z.2.1, fun k => rfl, .inl p⟩
  · exact ⟨z.1, fun k => rfl, .inr ⟨p, by rw [e]; simp only [Ty.wt_slice]; push_cast; omega⟩⟩

theorem toVersion_is (x : tVersion.D) (k) : n60n_k x k = k x := by
  rw [n60n_e]; rfl

theorem toVersionS_loop {u0 : List tVersion.D} (z : tVersion.D) : ∀ (l : List tVersion.D) (i : Nat), u0.drop i = l → ∀ K : List tVersion.D → Option Res, n61n_w0 u0 l (u0.take i ++ List.replicate (u0.length - i) z) i (fun z => K z.2) = K u0
  | [], i, h, K => by
    have : u0.length ≤ i := by have := congrArg List.length h; simp at this; omega
    simp [n61n_w0, show u0.length - i = 0 by omega, List.take_of_length_le this]
  | y :: l, i, h, K => by
    have hlt := drop_lt h
    have hg : u0[i] = y := by have := drop_get h; rw [List.getElem?_eq_getElem hlt] at this; simpa using this
    have hrec := toVersionS_loop z l (i + 1) (drop_succ h) K
    have hsp := set_prefix u0 z i hlt
    rw [hg] at hsp
    simp only [n61n_w0, toVersion_is, Int.toNat_natCast]
    rw [if_pos ⟨by omega, by simp; omega⟩]
    exact (congrArg (fun q => n61n_w0 u0 l q (i + 1) (fun z => K z.2)) hsp).trans hrec

theorem toVersionS_is {x : List tVersion.D} (hl : x.length ≤ 1048576) (k) : n61n_k x k = k x := by
  rw [n61n_r (by omega)]
  simp only [n61n_t, Int.toNat_natCast]
  rw [if_pos ⟨by omega, by omega, by have : ((VE.maxLen : Nat) : Int) = 4294967296 := rfl; omega⟩]
  have := toVersionS_loop (u0 := x) (Ty.zero tVersion) x 0 rfl k
  simpa using this

theorem eqVersion_self (x : tVersion.D) (k) : n27n_k x x k = k true := by
  rw [n27n_e]
  simp [n27n_d, strEq_self]

theorem eqVersionS_loop {u0 : List tVersion.D} {u2 : Bool} : ∀ (l : List tVersion.D) (i : Nat), u0.drop i = l → ∃ z, ∀ k, n28n_w0 u0 u0 u2 l i k = k (.inr z)
  | [], i, h => ⟨_, fun k => rfl⟩
  | y :: l, i, h => by
    have hlt := drop_lt h
    obtain ⟨z, hz⟩ := eqVersionS_loop (u2 := u2) l (i + 1) (drop_succ h)
    have hy := (lwl_get h).1
    refine ⟨z, fun k => ?_⟩
    simp only [n28n_w0]
    rw [if_pos ⟨by omega, by omega⟩]
    simp only [hy, eqVersion_self, Bool.not_true, cond_false, hz]

theorem eqVersionS_self {x : List tVersion.D} (hl : x.length ≤ 1048576) (k) : n28n_k x x k = k true := by
  rw [n28n_r (by omega)]
  obtain ⟨z, hz⟩ := eqVersionS_loop (u0 := x) (u2 := false) x 0 rfl
  simp [n28n_t, hz]

theorem wtTxn (x : tTxn.D) : tTxn.wt x = (Ty.slice tRange).wt x.2.2.2.2.1 + (Ty.slice tWrite).wt x.2.2.2.2.2.1 + x.2.2.2.2.2.2.2.size := by
  simp only [tTxn, Ty.wt] <;> omega

theorem szTxn_is {x : tTxn.D} (hx : tTxn.wf x) {a : Int} (h0 : 0 ≤ a) (h1 : a ≤ 1048576) : Sized (n48n_k x a) a (tTxn.wt x) := by
  rw [n48n_e]
  unfold n48n_d
  obtain ⟨r0, q0, p0⟩ := szRangeS_is (x := x.2.2.2.2.1) hx.2.2.2.2.1 (a := a) h0 h1
  simp only [q0]
  rcases p0 with p0 | ⟨p0, e0⟩
  · exact ⟨-1, fun k => by simp [p0], .inl (by omega)⟩
  have c0 : ¬ r0 < 0 := by omega
  simp only [c0, decide_false, cond_false]
  obtain ⟨r1, q1, p1⟩ := szWriteS_is (x := x.2.2.2.2.2.1) hx.2.2.2.2.2.1 (a := r0) p0 (by omega)
  simp only [q1]
  rcases p1 with p1 | ⟨p1, e1⟩
  · exact ⟨-1, fun k => by simp [p1], .inl (by omega)⟩
  have c1 : ¬ r1 < 0 := by omega
  simp only [c1, decide_false, cond_false]
  rw [sz_sub (n := x.2.2.2.2.2.2.2.size) p1 (by omega) hx.2.2.2.2.2.2.2]
  by_cases c2 : r1 - (x.2.2.2.2.2.2.2.size : Int) < 0
  · exact ⟨-1, fun k => by simp [c2], .inl (by omega)⟩
  simp only [c2, decide_false, cond_false]
  exact ⟨(r1 - (x.2.2.2.2.2.2.2.size : Int)), fun k => rfl, .inr ⟨by omega, by rw [wtTxn] <;> (push_cast; omega)⟩⟩

theorem szTxnS_loop {u0 : List tTxn.D} {u2 : Int} : ∀ (l : List tTxn.D) (s : Int) (i : Nat), (∀ y ∈ l, tTxn.wf y) → 0 ≤ s → s ≤ 1048576 →
    ∃ e, (∀ k, n49n_w0 u0 u2 l s i k = k e) ∧ ((∃ z, e = .inl z ∧ z.2.1 < 0) ∨ ∃ z, e = .inr z ∧ 0 ≤ z.1 ∧ z.1 = s - (wtL tTxn l : Int))
  | [], s, i, _, h0, h1 => ⟨.inr (s, (i : Int)), fun k => rfl, .inr ⟨_, rfl, h0, by simp [wtL]⟩⟩
  | y :: l, s, i, hl, h0, h1 => by
    obtain ⟨r, q, p⟩ := szTxn_is (hl y (by simp)) h0 h1
    simp only [n49n_w0, q]
    rcases p with p | ⟨p, e⟩
    · exact ⟨.inl (r, (-1 : Int), (i : Int)), fun k => by simp only [p, decide_true, cond_true], .inl ⟨_, rfl, by simp⟩⟩
    · have c : ¬ r < 0 := by omega
      simp only [c, decide_false, cond_false]
      obtain ⟨e', q', p'⟩ := szTxnS_loop l r (i + 1) (fun y hy => hl y (by simp [hy])) p (by omega)
      exact ⟨e', q', p'.imp id fun ⟨z, z1, z2, z3⟩ => ⟨z, z1, z2, by rw [z3, e]; simp only [wtL]; push_cast; omega⟩⟩

theorem szTxnS_is {x : List tTxn.D} (hx : (Ty.slice tTxn).wf x) {a : Int} (h0 : 0 ≤ a) (h1 : a ≤ 1048576) : Sized (n49n_k x a) a ((Ty.slice tTxn).wt x) := by
  rw [n49n_e]
  unfold Sized
  simp only [n49n_d]
  rw [sz_sub (n := x.length) h0 h1 hx.1]
  by_cases c0 : a - (x.length : Int) < 0
  · exact ⟨-1, fun k => by simp [c0], .inl (by omega)⟩
  simp only [c0, decide_false, cond_false]
  have hlen : x.length < 9223372036854775807 := by omega
  simp only [n49n_lz0 hlen]
  obtain ⟨e, q, p⟩ := szTxnS_loop (u0 := x) (u2 := 0) x (a - (x.length : Int)) 0 hx.2 (by omega) (by omega)
  simp only [q]
  rcases p with ⟨z, rfl, p⟩ | ⟨z, rfl, p, e⟩
  · exact ⟨z.2.1, fun k => rfl, .inl p⟩
  · exact ⟨z.1, fun k => rfl, .inr ⟨p, by rw [e]; simp only [Ty.wt_slice]; push_cast; omega⟩⟩

theorem toTxn_is (x : tTxn.D) (h4 : x.2.2.2.2.1.length ≤ 1048576) (h5 : x.2.2.2.2.2.1.length ≤ 1048576) (k) : n58n_k x k = k (x.1, x.2.1, x.2.2.1, x.2.2.2.1, x.2.2.2.2.2.2.1, x.2.2.2.2.2.2.2, x.2.2.2.2.1, x.2.2.2.2.2.1) := by
  rw [n58n_e]
  simp only [n58n_d, toRangeS_is h4, toWriteS_is h5]

theorem toTxn_w {x : tTxn.D} (h : tTxn.wt x ≤ 1048576) (k) : n58n_k x k = k (x.1, x.2.1, x.2.2.1, x.2.2.2.1, x.2.2.2.2.2.2.1, x.2.2.2.2.2.2.2, x.2.2.2.2.1, x.2.2.2.2.2.1) := by
  rw [wtTxn] at h
  exact toTxn_is x (len_le (T := tRange) (by omega)) (len_le (T := tWrite) (by omega)) k

theorem toTxnS_loop {u0 : List tTxn.D} (hu : ∀ y ∈ u0, tTxn.wt y ≤ 1048576) (z : tTxn.D) : ∀ (l : List tTxn.D) (i : Nat), u0.drop i = l → ∀ K : List tTxn.D → Option Res, n59n_w0 u0 l (u0.take i ++ List.replicate (u0.length - i) z) i (fun z => K z.2) = K u0
  | [], i, h, K => by
    have : u0.length ≤ i := by have := congrArg List.length h; simp at this; omega
    simp [n59n_w0, show u0.length - i = 0 by omega, List.take_of_length_le this]
  | y :: l, i, h, K => by
    have hlt := drop_lt h
    have hg : u0[i] = y := by have := drop_get h; rw [List.getElem?_eq_getElem hlt] at this; simpa using this
    have hrec := toTxnS_loop hu z l (i + 1) (drop_succ h) K
    have hsp := set_prefix u0 z i hlt
    rw [hg] at hsp
    simp only [n59n_w0, toTxn_w (hu y (mem_of_drop h)), Int.toNat_natCast]
    rw [if_pos ⟨by omega, by simp; omega⟩]
    exact (congrArg (fun q => n59n_w0 u0 l q (i + 1) (fun z => K z.2)) hsp).trans hrec

theorem toTxnS_is {x : List tTxn.D} (hl : x.length ≤ 1048576) (hu : ∀ y ∈ x, tTxn.wt y ≤ 1048576) (k) : n59n_k x k = k x := by
  rw [n59n_r (by omega)]
  simp only [n59n_t, Int.toNat_natCast]
  rw [if_pos ⟨by omega, by omega, by have : ((VE.maxLen : Nat) : Int) = 4294967296 := rfl; omega⟩]
  have := toTxnS_loop (u0 := x) hu (Ty.zero tTxn) x 0 rfl k
  simpa using this

theorem eqTxn_self (x : tTxn.D) (h4 : x.2.2.2.2.1.length ≤ 1048576) (h5 : x.2.2.2.2.2.1.length ≤ 1048576) (k) : n25n_k x x k = k true := by
  rw [n25n_e]
  simp [n25n_d, strEq_self, eqRangeS_self h4, eqWriteS_self h5]

theorem eqTxn_w {x : tTxn.D} (h : tTxn.wt x ≤ 1048576) (k) : n25n_k x x k = k true := by
  rw [wtTxn] at h
  exact eqTxn_self x (len_le (T := tRange) (by omega)) (len_le (T := tWrite) (by omega)) k

theorem eqTxnS_loop {u0 : List tTxn.D} (hu : ∀ y ∈ u0, tTxn.wt y ≤ 1048576) {u2 : Bool} : ∀ (l : List tTxn.D) (i : Nat), u0.drop i = l → ∃ z, ∀ k, n26n_w0 u0 u0 u2 l i k = k (.inr z)
  | [], i, h => ⟨_, fun k => rfl⟩
  | y :: l, i, h => by
    have hlt := drop_lt h
    obtain ⟨z, hz⟩ := eqTxnS_loop hu (u2 := u2) l (i + 1) (drop_succ h)
    have hy := (lwl_get h).1
    refine ⟨z, fun k => ?_⟩
    simp only [n26n_w0]
    rw [if_pos ⟨by omega, by omega⟩]
    simp only [hy, eqTxn_w (hu y (mem_of_drop h)), Bool.not_true, cond_false, hz]

theorem eqTxnS_self {x : List tTxn.D} (hl : x.length ≤ 1048576) (hu : ∀ y ∈ x, tTxn.wt y ≤ 1048576) (k) : n26n_k x x k = k true := by
  rw [n26n_r (by omega)]
  obtain ⟨z, hz⟩ := eqTxnS_loop (u0 := x) hu (u2 := false) x 0 rfl
  simp [n26n_t, hz]

theorem wtBase (x : tBase.D) : tBase.wt x = (Ty.slice tVersion).wt x.1 + (Ty.slice tTxn).wt x.2.1 + (Ty.slice tTxn).wt x.2.2.1 := by
  simp only [tBase, Ty.wt] <;> omega

theorem szBase_is {x : tBase.D} (hx : tBase.wf x) {a : Int} (h0 : 0 ≤ a) (h1 : a ≤ 1048576) : Sized (n44n_k x a) a (tBase.wt x) := by
  rw [n44n_e]
  unfold n44n_d
  obtain ⟨r0, q0, p0⟩ := szVersionS_is (x := x.1) hx.1 (a := a) h0 h1
  simp only [q0]
  rcases p0 with p0 | ⟨p0, e0⟩
  · exact ⟨-1, fun k => by simp [p0], .inl (by omega)⟩
  have c0 : ¬ r0 < 0 := by omega
  simp only [c0, decide_false, cond_false]
  obtain ⟨r1, q1, p1⟩ := szTxnS_is (x := x.2.1) hx.2.1 (a := r0) p0 (by omega)
  simp only [q1]
  rcases p1 with p1 | ⟨p1, e1⟩
  · exact ⟨-1, fun k => by simp [p1], .inl (by omega)⟩
  have c1 : ¬ r1 < 0 := by omega
  simp only [c1, decide_false, cond_false]
  obtain ⟨r2, q2, p2⟩ := szTxnS_is (x := x.2.2.1) hx.2.2.1 (a := r1) p1 (by omega)
  simp only [q2]
  rcases p2 with p2 | ⟨p2, e2⟩
  · exact ⟨-1, fun k => by simp [p2], .inl (by omega)⟩
  have c2 : ¬ r2 < 0 := by omega
  simp only [c2, decide_false, cond_false]
  exact ⟨r2, fun k => rfl, .inr ⟨by omega, by rw [wtBase] <;> (push_cast; omega)⟩⟩

theorem toBase_is (x : tBase.D) (h0 : x.1.length ≤ 1048576) (h1 : x.2.1.length ≤ 1048576) (g1 : ∀ y ∈ x.2.1, tTxn.wt y ≤ 1048576) (h2 : x.2.2.1.length ≤ 1048576) (g2 : ∀ y ∈ x.2.2.1, tTxn.wt y ≤ 1048576) (k) : n54n_k x k = k (x.2.2.2.1, x.2.2.2.2, x.1, x.2.1, x.2.2.1) := by
  rw [n54n_e]
  simp only [n54n_d, toVersionS_is h0, toTxnS_is h1 g1, toTxnS_is h2 g2]

theorem toBase_w {x : tBase.D} (h : tBase.wt x ≤ 1048576) (k) : n54n_k x k = k (x.2.2.2.1, x.2.2.2.2, x.1, x.2.1, x.2.2.1) := by
  rw [wtBase] at h
  exact toBase_is x (len_le (T := tVersion) (by omega)) (len_le (T := tTxn) (by omega)) (fun y hy => wt_mem_le hy (by omega)) (len_le (T := tTxn) (by omega)) (fun y hy => wt_mem_le hy (by omega)) k

theorem eqBase_self (x : tBase.D) (h0 : x.1.length ≤ 1048576) (h1 : x.2.1.length ≤ 1048576) (g1 : ∀ y ∈ x.2.1, tTxn.wt y ≤ 1048576) (h2 : x.2.2.1.length ≤ 1048576) (g2 : ∀ y ∈ x.2.2.1, tTxn.wt y ≤ 1048576) (k) : n21n_k x x k = k true := by
  rw [n21n_e]
  simp [n21n_d, strEq_self, eqVersionS_self h0, eqTxnS_self h1 g1, eqTxnS_self h2 g2]

theorem eqBase_w {x : tBase.D} (h : tBase.wt x ≤ 1048576) (k) : n21n_k x x k = k true := by
  rw [wtBase] at h
  exact eqBase_self x (len_le (T := tVersion) (by omega)) (len_le (T := tTxn) (by omega)) (fun y hy => wt_mem_le hy (by omega)) (len_le (T := tTxn) (by omega)) (fun y hy => wt_mem_le hy (by omega)) k

theorem wtEngine (x : tEngine.D) : tEngine.wt x = tBase.wt x.1 + (Ty.slice tTxn).wt x.2 := by
  simp only [tEngine, Ty.wt] <;> omega

theorem szEngine_is {x : tEngine.D} (hx : tEngine.wf x) {a : Int} (h0 : 0 ≤ a) (h1 : a ≤ 1048576) : Sized (n45n_k x a) a (tEngine.wt x) := by
  rw [n45n_e]
  unfold n45n_d
  obtain ⟨r0, q0, p0⟩ := szBase_is (x := x.1) hx.1 (a := a) h0 h1
  simp only [q0]
  rcases p0 with p0 | ⟨p0, e0⟩
  · exact ⟨-1, fun k => by simp [p0], .inl (by omega)⟩
  have c0 : ¬ r0 < 0 := by omega
  simp only [c0, decide_false, cond_false]
  obtain ⟨r1, q1, p1⟩ := szTxnS_is (x := x.2) hx.2 (a := r0) p0 (by omega)
  simp only [q1]
  rcases p1 with p1 | ⟨p1, e1⟩
  · exact ⟨-1, fun k => by simp [p1], .inl (by omega)⟩
  have c1 : ¬ r1 < 0 := by omega
  simp only [c1, decide_false, cond_false]
  exact ⟨r1, fun k => rfl, .inr ⟨by omega, by rw [wtEngine] <;> (push_cast; omega)⟩⟩

theorem toEngine_is (x : tEngine.D) (h0 : tBase.wt x.1 ≤ 1048576) (h1 : x.2.length ≤ 1048576) (g1 : ∀ y ∈ x.2, tTxn.wt y ≤ 1048576) (k) : n55n_k x k = k (x.1.2.2.2.1, x.1.2.2.2.2, x.1.1, x.1.2.1, x.1.2.2.1, x.2) := by
  rw [n55n_e]
  simp only [n55n_d, toBase_w h0, toTxnS_is h1 g1]

theorem toEngine_w {x : tEngine.D} (h : tEngine.wt x ≤ 1048576) (k) : n55n_k x k = k (x.1.2.2.2.1, x.1.2.2.2.2, x.1.1, x.1.2.1, x.1.2.2.1, x.2) := by
  rw [wtEngine] at h
  exact toEngine_is x (by omega) (len_le (T := tTxn) (by omega)) (fun y hy => wt_mem_le hy (by omega)) k

theorem eqEngine_self (x : tEngine.D) (h0 : tBase.wt x.1 ≤ 1048576) (h1 : x.2.length ≤ 1048576) (g1 : ∀ y ∈ x.2, tTxn.wt y ≤ 1048576) (k) : n22n_k x x k = k true := by
  rw [n22n_e]
  simp [n22n_d, strEq_self, eqBase_w h0, eqTxnS_self h1 g1]

theorem eqEngine_w {x : tEngine.D} (h : tEngine.wt x ≤ 1048576) (k) : n22n_k x x k = k true := by
  rw [wtEngine] at h
  exact eqEngine_self x (by omega) (len_le (T := tTxn) (by omega)) (fun y hy => wt_mem_le hy (by omega)) k

end Go.VE
