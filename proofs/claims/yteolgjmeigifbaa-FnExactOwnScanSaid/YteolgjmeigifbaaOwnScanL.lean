/- Plain laws of the helpers of all laws: sizes, copies, comparisons; written by plib.py. -/
import Derived.Test.YteolgjmeigifbaaOwnScanW
import Derived.Test.YteolgjmeigifbaaP2
namespace Go.VE
set_option linter.unusedVariables false
set_option linter.unusedSimpArgs false
set_option maxRecDepth 100000


abbrev tPair : Ty := tRange

theorem wtRange (x : tRange.D) : tRange.wt x = x.1.size + x.2.size := by
  simp only [tRange, Ty.wt] <;> omega

theorem szRange_is {x : tRange.D} (hx : tRange.wf x) {a : Int} (h0 : 0 ≤ a) (h1 : a ≤ 1048576) : Sized (laws_szRange_k x a) a (tRange.wt x) := by
  rw [laws_szRange_e]
  unfold laws_szRange_d
  rw [sz_sub (n := x.1.size) h0 h1 hx.1]
  by_cases c0 : a - (x.1.size : Int) < 0
  · exact ⟨-1, fun k => by simp [c0], .inl (by omega)⟩
  simp only [c0, decide_false, cond_false]
  rw [sz_sub (n := x.2.size) (by omega) (by omega) hx.2]
  by_cases c1 : (a - (x.1.size : Int)) - (x.2.size : Int) < 0
  · exact ⟨-1, fun k => by simp [c1], .inl (by omega)⟩
  simp only [c1, decide_false, cond_false]
  exact ⟨((a - (x.1.size : Int)) - (x.2.size : Int)), fun k => rfl, .inr ⟨by omega, by rw [wtRange]; push_cast; omega⟩⟩

theorem szRangeS_loop {u0 : List tRange.D} {u2 : Int} : ∀ (l : List tRange.D) (s : Int) (i : Nat), (∀ y ∈ l, tRange.wf y) → 0 ≤ s → s ≤ 1048576 →
    ∃ e, (∀ k, laws_szRangeS_w0 u0 u2 l s i k = k e) ∧ ((∃ z, e = .inl z ∧ z.2.1 < 0) ∨ ∃ z, e = .inr z ∧ 0 ≤ z.1 ∧ z.1 = s - (wtL tRange l : Int))
  | [], s, i, _, h0, h1 => ⟨.inr (s, (i : Int)), fun k => rfl, .inr ⟨_, rfl, h0, by simp [wtL]⟩⟩
  | y :: l, s, i, hl, h0, h1 => by
    obtain ⟨r, q, p⟩ := szRange_is (hl y (by simp)) h0 h1
    simp only [laws_szRangeS_w0, q]
    rcases p with p | ⟨p, e⟩
    · exact ⟨.inl (r, (-1 : Int), (i : Int)), fun k => by simp only [p, decide_true, cond_true], .inl ⟨_, rfl, by simp⟩⟩
    · have c : ¬ r < 0 := by omega
      simp only [c, decide_false, cond_false]
      obtain ⟨e', q', p'⟩ := szRangeS_loop l r (i + 1) (fun y hy => hl y (by simp [hy])) p (by omega)
      exact ⟨e', q', p'.imp id fun ⟨z, z1, z2, z3⟩ => ⟨z, z1, z2, by rw [z3, e]; simp only [wtL]; push_cast; omega⟩⟩

theorem szRangeS_is {x : List tRange.D} (hx : (Ty.slice tRange).wf x) {a : Int} (h0 : 0 ≤ a) (h1 : a ≤ 1048576) : Sized (laws_szRangeS_k x a) a ((Ty.slice tRange).wt x) := by
  rw [laws_szRangeS_e]
  unfold Sized
  simp only [laws_szRangeS_d]
  rw [sz_sub (n := x.length) h0 h1 hx.1]
  by_cases c0 : a - (x.length : Int) < 0
  · exact ⟨-1, fun k => by simp [c0], .inl (by omega)⟩
  simp only [c0, decide_false, cond_false]
  have hlen : x.length < 9223372036854775807 := by omega
  simp only [laws_szRangeS_lz0 hlen]
  obtain ⟨e, q, p⟩ := szRangeS_loop (u0 := x) (u2 := 0) x (a - (x.length : Int)) 0 hx.2 (by omega) (by omega)
  simp only [q]
  rcases p with ⟨z, rfl, p⟩ | ⟨z, rfl, p, e⟩
  · exact ⟨z.2.1, fun k => rfl, .inl p⟩
  · exact ⟨z.1, fun k => rfl, .inr ⟨p, by rw [e]; simp only [Ty.wt_slice]; push_cast; omega⟩⟩

theorem toRange_is (x : tRange.D) (k) : laws_toRange_k x k = k x := by
  rw [laws_toRange_e]; rfl

theorem toRangeS_loop {u0 : List tRange.D} (z : tRange.D) : ∀ (l : List tRange.D) (i : Nat), u0.drop i = l → ∀ K : List tRange.D → Option Res, laws_toRangeS_w0 u0 l (u0.take i ++ List.replicate (u0.length - i) z) i (fun z => K z.2) = K u0
  | [], i, h, K => by
    have : u0.length ≤ i := by have := congrArg List.length h; simp at this; omega
    simp [laws_toRangeS_w0, show u0.length - i = 0 by omega, List.take_of_length_le this]
  | y :: l, i, h, K => by
    have hlt := drop_lt h
    have hg : u0[i] = y := by have := drop_get h; rw [List.getElem?_eq_getElem hlt] at this; simpa using this
    have hrec := toRangeS_loop z l (i + 1) (drop_succ h) K
    have hsp := set_prefix u0 z i hlt
    rw [hg] at hsp
    simp only [laws_toRangeS_w0, toRange_is, Int.toNat_natCast]
    rw [if_pos ⟨by omega, by simp; omega⟩]
    exact (congrArg (fun q => laws_toRangeS_w0 u0 l q (i + 1) (fun z => K z.2)) hsp).trans hrec

theorem toRangeS_is {x : List tRange.D} (hl : x.length ≤ 1048576) (k) : laws_toRangeS_k x k = k x := by
  rw [laws_toRangeS_r (by omega)]
  simp only [laws_toRangeS_t, Int.toNat_natCast]
  rw [if_pos ⟨by omega, by omega, by have : ((VE.maxLen : Nat) : Int) = 4294967296 := rfl; omega⟩]
  have := toRangeS_loop (u0 := x) (Ty.zero tRange) x 0 rfl k
  simpa using this

theorem eqRange_self (x : tRange.D) (k) : laws_eqRange_k x x k = k true := by
  rw [laws_eqRange_e]
  simp [laws_eqRange_d, strEq_self]

theorem eqRangeS_loop {u0 : List tRange.D} {u2 : Bool} : ∀ (l : List tRange.D) (i : Nat), u0.drop i = l → ∃ z, ∀ k, laws_eqRangeS_w0 u0 u0 u2 l i k = k (.inr z)
  | [], i, h => ⟨_, fun k => rfl⟩
  | y :: l, i, h => by
    have hlt := drop_lt h
    obtain ⟨z, hz⟩ := eqRangeS_loop (u2 := u2) l (i + 1) (drop_succ h)
    have hy := (lwl_get h).1
    refine ⟨z, fun k => ?_⟩
    simp only [laws_eqRangeS_w0]
    rw [if_pos ⟨by omega, by omega⟩]
    simp only [hy, eqRange_self, Bool.not_true, cond_false, hz]

theorem eqRangeS_self {x : List tRange.D} (hl : x.length ≤ 1048576) (k) : laws_eqRangeS_k x x k = k true := by
  rw [laws_eqRangeS_r (by omega)]
  obtain ⟨z, hz⟩ := eqRangeS_loop (u0 := x) (u2 := false) x 0 rfl
  simp [laws_eqRangeS_t, hz]

theorem wtWrite (x : tWrite.D) : tWrite.wt x = x.1.size + x.2.1.size := by
  simp only [tWrite, Ty.wt] <;> omega

theorem szWrite_is {x : tWrite.D} (hx : tWrite.wf x) {a : Int} (h0 : 0 ≤ a) (h1 : a ≤ 1048576) : Sized (laws_szWrite_k x a) a (tWrite.wt x) := by
  rw [laws_szWrite_e]
  unfold laws_szWrite_d
  rw [sz_sub (n := x.1.size) h0 h1 hx.1]
  by_cases c0 : a - (x.1.size : Int) < 0
  · exact ⟨-1, fun k => by simp [c0], .inl (by omega)⟩
  simp only [c0, decide_false, cond_false]
  rw [sz_sub (n := x.2.1.size) (by omega) (by omega) hx.2.1]
  by_cases c1 : (a - (x.1.size : Int)) - (x.2.1.size : Int) < 0
  · exact ⟨-1, fun k => by simp [c1], .inl (by omega)⟩
  simp only [c1, decide_false, cond_false]
  exact ⟨((a - (x.1.size : Int)) - (x.2.1.size : Int)), fun k => rfl, .inr ⟨by omega, by rw [wtWrite]; push_cast; omega⟩⟩

theorem szWriteS_loop {u0 : List tWrite.D} {u2 : Int} : ∀ (l : List tWrite.D) (s : Int) (i : Nat), (∀ y ∈ l, tWrite.wf y) → 0 ≤ s → s ≤ 1048576 →
    ∃ e, (∀ k, laws_szWriteS_w0 u0 u2 l s i k = k e) ∧ ((∃ z, e = .inl z ∧ z.2.1 < 0) ∨ ∃ z, e = .inr z ∧ 0 ≤ z.1 ∧ z.1 = s - (wtL tWrite l : Int))
  | [], s, i, _, h0, h1 => ⟨.inr (s, (i : Int)), fun k => rfl, .inr ⟨_, rfl, h0, by simp [wtL]⟩⟩
  | y :: l, s, i, hl, h0, h1 => by
    obtain ⟨r, q, p⟩ := szWrite_is (hl y (by simp)) h0 h1
    simp only [laws_szWriteS_w0, q]
    rcases p with p | ⟨p, e⟩
    · exact ⟨.inl (r, (-1 : Int), (i : Int)), fun k => by simp only [p, decide_true, cond_true], .inl ⟨_, rfl, by simp⟩⟩
    · have c : ¬ r < 0 := by omega
      simp only [c, decide_false, cond_false]
      obtain ⟨e', q', p'⟩ := szWriteS_loop l r (i + 1) (fun y hy => hl y (by simp [hy])) p (by omega)
      exact ⟨e', q', p'.imp id fun ⟨z, z1, z2, z3⟩ => ⟨z, z1, z2, by rw [z3, e]; simp only [wtL]; push_cast; omega⟩⟩

theorem szWriteS_is {x : List tWrite.D} (hx : (Ty.slice tWrite).wf x) {a : Int} (h0 : 0 ≤ a) (h1 : a ≤ 1048576) : Sized (laws_szWriteS_k x a) a ((Ty.slice tWrite).wt x) := by
  rw [laws_szWriteS_e]
  unfold Sized
  simp only [laws_szWriteS_d]
  rw [sz_sub (n := x.length) h0 h1 hx.1]
  by_cases c0 : a - (x.length : Int) < 0
  · exact ⟨-1, fun k => by simp [c0], .inl (by omega)⟩
  simp only [c0, decide_false, cond_false]
  have hlen : x.length < 9223372036854775807 := by omega
  simp only [laws_szWriteS_lz0 hlen]
  obtain ⟨e, q, p⟩ := szWriteS_loop (u0 := x) (u2 := 0) x (a - (x.length : Int)) 0 hx.2 (by omega) (by omega)
  simp only [q]
  rcases p with ⟨z, rfl, p⟩ | ⟨z, rfl, p, e⟩
  · exact ⟨z.2.1, fun k => rfl, .inl p⟩
  · exact ⟨z.1, fun k => rfl, .inr ⟨p, by rw [e]; simp only [Ty.wt_slice]; push_cast; omega⟩⟩

theorem toWrite_is (x : tWrite.D) (k) : laws_toWrite_k x k = k x := by
  rw [laws_toWrite_e]; rfl

theorem toWriteS_loop {u0 : List tWrite.D} (z : tWrite.D) : ∀ (l : List tWrite.D) (i : Nat), u0.drop i = l → ∀ K : List tWrite.D → Option Res, laws_toWriteS_w0 u0 l (u0.take i ++ List.replicate (u0.length - i) z) i (fun z => K z.2) = K u0
  | [], i, h, K => by
    have : u0.length ≤ i := by have := congrArg List.length h; simp at this; omega
    simp [laws_toWriteS_w0, show u0.length - i = 0 by omega, List.take_of_length_le this]
  | y :: l, i, h, K => by
    have hlt := drop_lt h
    have hg : u0[i] = y := by have := drop_get h; rw [List.getElem?_eq_getElem hlt] at this; simpa using this
    have hrec := toWriteS_loop z l (i + 1) (drop_succ h) K
    have hsp := set_prefix u0 z i hlt
    rw [hg] at hsp
    simp only [laws_toWriteS_w0, toWrite_is, Int.toNat_natCast]
    rw [if_pos ⟨by omega, by simp; omega⟩]
    exact (congrArg (fun q => laws_toWriteS_w0 u0 l q (i + 1) (fun z => K z.2)) hsp).trans hrec

theorem toWriteS_is {x : List tWrite.D} (hl : x.length ≤ 1048576) (k) : laws_toWriteS_k x k = k x := by
  rw [laws_toWriteS_r (by omega)]
  simp only [laws_toWriteS_t, Int.toNat_natCast]
  rw [if_pos ⟨by omega, by omega, by have : ((VE.maxLen : Nat) : Int) = 4294967296 := rfl; omega⟩]
  have := toWriteS_loop (u0 := x) (Ty.zero tWrite) x 0 rfl k
  simpa using this

theorem eqWrite_self (x : tWrite.D) (k) : laws_eqWrite_k x x k = k true := by
  rw [laws_eqWrite_e]
  simp [laws_eqWrite_d, strEq_self]

theorem eqWriteS_loop {u0 : List tWrite.D} {u2 : Bool} : ∀ (l : List tWrite.D) (i : Nat), u0.drop i = l → ∃ z, ∀ k, laws_eqWriteS_w0 u0 u0 u2 l i k = k (.inr z)
  | [], i, h => ⟨_, fun k => rfl⟩
  | y :: l, i, h => by
    have hlt := drop_lt h
    obtain ⟨z, hz⟩ := eqWriteS_loop (u2 := u2) l (i + 1) (drop_succ h)
    have hy := (lwl_get h).1
    refine ⟨z, fun k => ?_⟩
    simp only [laws_eqWriteS_w0]
    rw [if_pos ⟨by omega, by omega⟩]
    simp only [hy, eqWrite_self, Bool.not_true, cond_false, hz]

theorem eqWriteS_self {x : List tWrite.D} (hl : x.length ≤ 1048576) (k) : laws_eqWriteS_k x x k = k true := by
  rw [laws_eqWriteS_r (by omega)]
  obtain ⟨z, hz⟩ := eqWriteS_loop (u0 := x) (u2 := false) x 0 rfl
  simp [laws_eqWriteS_t, hz]

theorem wtVersion (x : tVersion.D) : tVersion.wt x = x.1.size + x.2.1.size := by
  simp only [tVersion, Ty.wt] <;> omega

theorem szVersion_is {x : tVersion.D} (hx : tVersion.wf x) {a : Int} (h0 : 0 ≤ a) (h1 : a ≤ 1048576) : Sized (laws_szVersion_k x a) a (tVersion.wt x) := by
  rw [laws_szVersion_e]
  unfold laws_szVersion_d
  rw [sz_sub (n := x.1.size) h0 h1 hx.1]
  by_cases c0 : a - (x.1.size : Int) < 0
  · exact ⟨-1, fun k => by simp [c0], .inl (by omega)⟩
  simp only [c0, decide_false, cond_false]
  rw [sz_sub (n := x.2.1.size) (by omega) (by omega) hx.2.1]
  by_cases c1 : (a - (x.1.size : Int)) - (x.2.1.size : Int) < 0
  · exact ⟨-1, fun k => by simp [c1], .inl (by omega)⟩
  simp only [c1, decide_false, cond_false]
  exact ⟨((a - (x.1.size : Int)) - (x.2.1.size : Int)), fun k => rfl, .inr ⟨by omega, by rw [wtVersion]; push_cast; omega⟩⟩

theorem szVersionS_loop {u0 : List tVersion.D} {u2 : Int} : ∀ (l : List tVersion.D) (s : Int) (i : Nat), (∀ y ∈ l, tVersion.wf y) → 0 ≤ s → s ≤ 1048576 →
    ∃ e, (∀ k, laws_szVersionS_w0 u0 u2 l s i k = k e) ∧ ((∃ z, e = .inl z ∧ z.2.1 < 0) ∨ ∃ z, e = .inr z ∧ 0 ≤ z.1 ∧ z.1 = s - (wtL tVersion l : Int))
  | [], s, i, _, h0, h1 => ⟨.inr (s, (i : Int)), fun k => rfl, .inr ⟨_, rfl, h0, by simp [wtL]⟩⟩
  | y :: l, s, i, hl, h0, h1 => by
    obtain ⟨r, q, p⟩ := szVersion_is (hl y (by simp)) h0 h1
    simp only [laws_szVersionS_w0, q]
    rcases p with p | ⟨p, e⟩
    · exact ⟨.inl (r, (-1 : Int), (i : Int)), fun k => by simp only [p, decide_true, cond_true], .inl ⟨_, rfl, by simp⟩⟩
    · have c : ¬ r < 0 := by omega
      simp only [c, decide_false, cond_false]
      obtain ⟨e', q', p'⟩ := szVersionS_loop l r (i + 1) (fun y hy => hl y (by simp [hy])) p (by omega)
      exact ⟨e', q', p'.imp id fun ⟨z, z1, z2, z3⟩ => ⟨z, z1, z2, by rw [z3, e]; simp only [wtL]; push_cast; omega⟩⟩

theorem szVersionS_is {x : List tVersion.D} (hx : (Ty.slice tVersion).wf x) {a : Int} (h0 : 0 ≤ a) (h1 : a ≤ 1048576) : Sized (laws_szVersionS_k x a) a ((Ty.slice tVersion).wt x) := by
  rw [laws_szVersionS_e]
  unfold Sized
  simp only [laws_szVersionS_d]
  rw [sz_sub (n := x.length) h0 h1 hx.1]
  by_cases c0 : a - (x.length : Int) < 0
  · exact ⟨-1, fun k => by simp [c0], .inl (by omega)⟩
  simp only [c0, decide_false, cond_false]
  have hlen : x.length < 9223372036854775807 := by omega
  simp only [laws_szVersionS_lz0 hlen]
  obtain ⟨e, q, p⟩ := szVersionS_loop (u0 := x) (u2 := 0) x (a - (x.length : Int)) 0 hx.2 (by omega) (by omega)
  simp only [q]
  rcases p with ⟨z, rfl, p⟩ | ⟨z, rfl, p, e⟩
  · exact ⟨z.2.1, fun k => rfl, .inl p⟩
  · exact ⟨z.1, fun k => rfl, .inr ⟨p, by rw [e]; simp only [Ty.wt_slice]; push_cast; omega⟩⟩

theorem toVersion_is (x : tVersion.D) (k) : laws_toVersion_k x k = k x := by
  rw [laws_toVersion_e]; rfl

theorem toVersionS_loop {u0 : List tVersion.D} (z : tVersion.D) : ∀ (l : List tVersion.D) (i : Nat), u0.drop i = l → ∀ K : List tVersion.D → Option Res, laws_toVersionS_w0 u0 l (u0.take i ++ List.replicate (u0.length - i) z) i (fun z => K z.2) = K u0
  | [], i, h, K => by
    have : u0.length ≤ i := by have := congrArg List.length h; simp at this; omega
    simp [laws_toVersionS_w0, show u0.length - i = 0 by omega, List.take_of_length_le this]
  | y :: l, i, h, K => by
    have hlt := drop_lt h
    have hg : u0[i] = y := by have := drop_get h; rw [List.getElem?_eq_getElem hlt] at this; simpa using this
    have hrec := toVersionS_loop z l (i + 1) (drop_succ h) K
    have hsp := set_prefix u0 z i hlt
    rw [hg] at hsp
    simp only [laws_toVersionS_w0, toVersion_is, Int.toNat_natCast]
    rw [if_pos ⟨by omega, by simp; omega⟩]
    exact (congrArg (fun q => laws_toVersionS_w0 u0 l q (i + 1) (fun z => K z.2)) hsp).trans hrec

theorem toVersionS_is {x : List tVersion.D} (hl : x.length ≤ 1048576) (k) : laws_toVersionS_k x k = k x := by
  rw [laws_toVersionS_r (by omega)]
  simp only [laws_toVersionS_t, Int.toNat_natCast]
  rw [if_pos ⟨by omega, by omega, by have : ((VE.maxLen : Nat) : Int) = 4294967296 := rfl; omega⟩]
  have := toVersionS_loop (u0 := x) (Ty.zero tVersion) x 0 rfl k
  simpa using this

theorem eqVersion_self (x : tVersion.D) (k) : laws_eqVersion_k x x k = k true := by
  rw [laws_eqVersion_e]
  simp [laws_eqVersion_d, strEq_self]

theorem eqVersionS_loop {u0 : List tVersion.D} {u2 : Bool} : ∀ (l : List tVersion.D) (i : Nat), u0.drop i = l → ∃ z, ∀ k, laws_eqVersionS_w0 u0 u0 u2 l i k = k (.inr z)
  | [], i, h => ⟨_, fun k => rfl⟩
  | y :: l, i, h => by
    have hlt := drop_lt h
    obtain ⟨z, hz⟩ := eqVersionS_loop (u2 := u2) l (i + 1) (drop_succ h)
    have hy := (lwl_get h).1
    refine ⟨z, fun k => ?_⟩
    simp only [laws_eqVersionS_w0]
    rw [if_pos ⟨by omega, by omega⟩]
    simp only [hy, eqVersion_self, Bool.not_true, cond_false, hz]

theorem eqVersionS_self {x : List tVersion.D} (hl : x.length ≤ 1048576) (k) : laws_eqVersionS_k x x k = k true := by
  rw [laws_eqVersionS_r (by omega)]
  obtain ⟨z, hz⟩ := eqVersionS_loop (u0 := x) (u2 := false) x 0 rfl
  simp [laws_eqVersionS_t, hz]

theorem eqPair_self (x : tPair.D) (k) : laws_eqPair_k x x k = k true := by
  rw [laws_eqPair_e]
  simp [laws_eqPair_d, strEq_self]

theorem eqPairS_loop {u0 : List tPair.D} {u2 : Bool} : ∀ (l : List tPair.D) (i : Nat), u0.drop i = l → ∃ z, ∀ k, laws_eqPairS_w0 u0 u0 u2 l i k = k (.inr z)
  | [], i, h => ⟨_, fun k => rfl⟩
  | y :: l, i, h => by
    have hlt := drop_lt h
    obtain ⟨z, hz⟩ := eqPairS_loop (u2 := u2) l (i + 1) (drop_succ h)
    have hy := (lwl_get h).1
    refine ⟨z, fun k => ?_⟩
    simp only [laws_eqPairS_w0]
    rw [if_pos ⟨by omega, by omega⟩]
    simp only [hy, eqPair_self, Bool.not_true, cond_false, hz]

theorem eqPairS_self {x : List tPair.D} (hl : x.length ≤ 1048576) (k) : laws_eqPairS_k x x k = k true := by
  rw [laws_eqPairS_r (by omega)]
  obtain ⟨z, hz⟩ := eqPairS_loop (u0 := x) (u2 := false) x 0 rfl
  simp [laws_eqPairS_t, hz]

theorem wtTxn (x : tTxn.D) : tTxn.wt x = (Ty.slice tRange).wt x.2.2.2.2.1 + (Ty.slice tWrite).wt x.2.2.2.2.2.1 + x.2.2.2.2.2.2.2.size := by
  simp only [tTxn, Ty.wt] <;> omega

theorem szTxn_is {x : tTxn.D} (hx : tTxn.wf x) {a : Int} (h0 : 0 ≤ a) (h1 : a ≤ 1048576) : Sized (laws_szTxn_k x a) a (tTxn.wt x) := by
  rw [laws_szTxn_e]
  unfold laws_szTxn_d
  obtain ⟨r0, q0, p0⟩ := szRangeS_is (x := x.2.2.2.2.1) hx.2.2.2.2.1 (a := a) h0 h1
  simp only [q0]
  rcases p0 with p0 | ⟨p0, e0⟩
  · exact ⟨-1, fun k => by simp [p0], .inl (by omega)⟩
  have c0 : ¬ r0 < 0 := by omega
  simp only [c0, decide_false, cond_false]
  obtain ⟨r1, q1, p1⟩ := szWriteS_is (x := x.2.2.2.2.2.1) hx.2.2.2.2.2.1 (a := r0) p0 (by omega)
  simp only [q1]
  rcases p1 with p1 | ⟨p1, e1⟩
  · exact ⟨-1, fun k => by simp [p1], .inl (by omega)⟩
  have c1 : ¬ r1 < 0 := by omega
  simp only [c1, decide_false, cond_false]
  rw [sz_sub (n := x.2.2.2.2.2.2.2.size) p1 (by omega) hx.2.2.2.2.2.2.2]
  by_cases c2 : r1 - (x.2.2.2.2.2.2.2.size : Int) < 0
  · exact ⟨-1, fun k => by simp [c2], .inl (by omega)⟩
  simp only [c2, decide_false, cond_false]
  exact ⟨(r1 - (x.2.2.2.2.2.2.2.size : Int)), fun k => rfl, .inr ⟨by omega, by rw [wtTxn]; push_cast; omega⟩⟩

theorem toTxn_is (x : tTxn.D) (h4 : x.2.2.2.2.1.length ≤ 1048576) (h5 : x.2.2.2.2.2.1.length ≤ 1048576) (k) : laws_toTxn_k x k = k (x.1, x.2.1, x.2.2.1, x.2.2.2.1, x.2.2.2.2.2.2.1, x.2.2.2.2.2.2.2, x.2.2.2.2.1, x.2.2.2.2.2.1) := by
  rw [laws_toTxn_e]
  simp only [laws_toTxn_d, toRangeS_is h4, toWriteS_is h5]

theorem toTxn_w {x : tTxn.D} (h : tTxn.wt x ≤ 1048576) (k) : laws_toTxn_k x k = k (x.1, x.2.1, x.2.2.1, x.2.2.2.1, x.2.2.2.2.2.2.1, x.2.2.2.2.2.2.2, x.2.2.2.2.1, x.2.2.2.2.2.1) := by
  rw [wtTxn] at h
  exact toTxn_is x (len_le (T := tRange) (by omega)) (len_le (T := tWrite) (by omega)) k

theorem eqTxn_self (x : tTxn.D) (h4 : x.2.2.2.2.1.length ≤ 1048576) (h5 : x.2.2.2.2.2.1.length ≤ 1048576) (k) : laws_eqTxn_k x x k = k true := by
  rw [laws_eqTxn_e]
  simp [laws_eqTxn_d, strEq_self, eqRangeS_self h4, eqWriteS_self h5]

theorem eqTxn_w {x : tTxn.D} (h : tTxn.wt x ≤ 1048576) (k) : laws_eqTxn_k x x k = k true := by
  rw [wtTxn] at h
  exact eqTxn_self x (len_le (T := tRange) (by omega)) (len_le (T := tWrite) (by omega)) k

end Go.VE
