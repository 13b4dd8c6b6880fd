/- Plain laws of the helpers of all laws: sizes, copies, comparisons; written by plib.py. -/
import Derived.Test.YtpmahbmokfaflaaInDoubtW
import Derived.Test.YtpmahbmokfaflaaP2
namespace Go.VE
set_option linter.unusedVariables false
set_option linter.unusedSimpArgs false
set_option maxRecDepth 100000


theorem wtRange (x : tRange.D) : tRange.wt x = x.1.size + x.2.size := by
  simp only [tRange, Ty.wt] <;> omega

theorem szRange_is {x : tRange.D} (hx : tRange.wf x) {a : Int} (h0 : 0 ≤ a) (h1 : a ≤ 1048576) : Sized (laws_szRange_k x a) a (tRange.wt x) := by
  rw [laws_szRange_e]
  unfold laws_szRange_d
  rw [sz_sub (n := x.1.size) h0 h1 hx.1]
  by_cases c0 : a - (x.1.size : Int) < 0
  · exact ⟨-1, fun k => by simp [c0], .inl (by omega)⟩
  simp only [c0, decide_false, cond_false]
  rw [sz_sub (n := x.2.size) (by omega) (by omega) hx.2]
  by_cases c1 : (a - (x.1.size : Int)) - (x.2.size : Int) < 0
  · exact ⟨-1, fun k => by simp [c1], .inl (by omega)⟩
  simp only [c1, decide_false, cond_false]
  exact ⟨((a - (x.1.size : Int)) - (x.2.size : Int)), fun k => rfl, .inr ⟨by omega, by rw [wtRange] <;> (push_cast; omega)⟩⟩

theorem szRangeS_loop {u0 : List tRange.D} {u2 : Int} : ∀ (l : List tRange.D) (s : Int) (i : Nat), (∀ y ∈ l, tRange.wf y) → 0 ≤ s → s ≤ 1048576 →
    ∃ e, (∀ k, laws_szRangeS_w0 u0 u2 l s i k = k e) ∧ ((∃ z, e = .inl z ∧ z.2.1 < 0) ∨ ∃ z, e = .inr z ∧ 0 ≤ z.1 ∧ z.1 = s - (wtL tRange l : Int))
  | [], s, i, _, h0, h1 => ⟨.inr (s, (i : Int)), fun k => rfl, .inr ⟨_, rfl, h0, by simp [wtL]⟩⟩
  | y :: l, s, i, hl, h0, h1 => by
    obtain ⟨r, q, p⟩ := szRange_is (hl y (by simp)) h0 h1
    simp only [laws_szRangeS_w0, q]
    rcases p with p | ⟨p, e⟩
    · exact ⟨.inl (r, (-1 : Int), (i : Int)), fun k => by simp only [p, decide_true, cond_true], .inl ⟨_, rfl, by simp⟩⟩
    · have c : ¬ r < 0 := by omega
      simp only [c, decide_false, cond_false]
      obtain ⟨e', q', p'⟩ := szRangeS_loop l r (i + 1) (fun y hy => hl y (by simp [hy])) p (by omega)
      exact ⟨e', q', p'.imp id fun ⟨z, z1, z2, z3⟩ => ⟨z, z1, z2, by rw [z3, e]; simp only [wtL]; push_cast; omega⟩⟩

theorem szRangeS_is {x : List tRange.D} (hx : (Ty.slice tRange).wf x) {a : Int} (h0 : 0 ≤ a) (h1 : a ≤ 1048576) : Sized (laws_szRangeS_k x a) a ((Ty.slice tRange).wt x) := by
  rw [laws_szRangeS_e]
  unfold Sized
  simp only [laws_szRangeS_d]
  rw [sz_sub (n := x.length) h0 h1 hx.1]
  by_cases c0 : a - (x.length : Int) < 0
  · exact ⟨-1, fun k => by simp [c0], .inl (by omega)⟩
  simp only [c0, decide_false, cond_false]
  have hlen : x.length < 9223372036854775807 := by omega
  simp only [laws_szRangeS_lz0 hlen]
  obtain ⟨e, q, p⟩ := szRangeS_loop (u0 := x) (u2 := 0) x (a - (x.length : Int)) 0 hx.2 (by omega) (by omega)
  simp only [q]
  rcases p with ⟨z, rfl, p⟩ | ⟨z, rfl, p, e⟩
  · exact ⟨z.2.1, fun k => rfl, .inl p⟩
  · exact ⟨z.1, fun k => rfl, .inr ⟨p, by rw [e]; simp only [Ty.wt_slice]; push_cast; omega⟩⟩

theorem toRange_is (x : tRange.D) (k) : laws_toRange_k x k = k x := by
  rw [laws_toRange_e]; rfl

theorem toRangeS_loop {u0 : List tRange.D} (z : tRange.D) : ∀ (l : List tRange.D) (i : Nat), u0.drop i = l → ∀ K : List tRange.D → Option Res, laws_toRangeS_w0 u0 l (u0.take i ++ List.replicate (u0.length - i) z) i (fun z => K z.2) = K u0
  | [], i, h, K => by
    have : u0.length ≤ i := by have := congrArg List.length h; simp at this; omega
    simp [laws_toRangeS_w0, show u0.length - i = 0 by omega, List.take_of_length_le this]
  | y :: l, i, h, K => by
    have hlt := drop_lt h
    have hg : u0[i] = y := by have := drop_get h; rw [List.getElem?_eq_getElem hlt] at this; simpa using this
    have hrec := toRangeS_loop z l (i + 1) (drop_succ h) K
    have hsp := set_prefix u0 z i hlt
    rw [hg] at hsp
    simp only [laws_toRangeS_w0, toRange_is, Int.toNat_natCast]
    rw [if_pos ⟨by omega, by simp; omega⟩]
    exact (congrArg (fun q => laws_toRangeS_w0 u0 l q (i + 1) (fun z => K z.2)) hsp).trans hrec

theorem toRangeS_is {x : List tRange.D} (hl : x.length ≤ 1048576) (k) : laws_toRangeS_k x k = k x := by
  rw [laws_toRangeS_r (by omega)]
  simp only [laws_toRangeS_t, Int.toNat_natCast]
  rw [if_pos ⟨by omega, by omega, by have : ((VE.maxLen : Nat) : Int) = 4294967296 := rfl; omega⟩]
  have := toRangeS_loop (u0 := x) (Ty.zero tRange) x 0 rfl k
  simpa using this

theorem eqRange_self (x : tRange.D) (k) : laws_eqRange_k x x k = k true := by
  rw [laws_eqRange_e]
  simp [laws_eqRange_d, strEq_self]

theorem eqRangeS_loop {u0 : List tRange.D} {u2 : Bool} : ∀ (l : List tRange.D) (i : Nat), u0.drop i = l → ∃ z, ∀ k, laws_eqRangeS_w0 u0 u0 u2 l i k = k (.inr z)
  | [], i, h => ⟨_, fun k => rfl⟩
  | y :: l, i, h => by
    have hlt := drop_lt h
    obtain ⟨z, hz⟩ := eqRangeS_loop (u2 := u2) l (i + 1) (drop_succ h)
    have hy := (lwl_get h).1
    refine ⟨z, fun k => ?_⟩
    simp only [laws_eqRangeS_w0]
    rw [if_pos ⟨by omega, by omega⟩]
    simp only [hy, eqRange_self, Bool.not_true, cond_false, hz]

theorem eqRangeS_self {x : List tRange.D} (hl : x.length ≤ 1048576) (k) : laws_eqRangeS_k x x k = k true := by
  rw [laws_eqRangeS_r (by omega)]
  obtain ⟨z, hz⟩ := eqRangeS_loop (u0 := x) (u2 := false) x 0 rfl
  simp [laws_eqRangeS_t, hz]

theorem wtWrite (x : tWrite.D) : tWrite.wt x = x.1.size + x.2.1.size := by
  simp only [tWrite, Ty.wt] <;> omega

theorem szWrite_is {x : tWrite.D} (hx : tWrite.wf x) {a : Int} (h0 : 0 ≤ a) (h1 : a ≤ 1048576) : Sized (laws_szWrite_k x a) a (tWrite.wt x) := by
  rw [laws_szWrite_e]
  unfold laws_szWrite_d
  rw [sz_sub (n := x.1.size) h0 h1 hx.1]
  by_cases c0 : a - (x.1.size : Int) < 0
  · exact ⟨-1, fun k => by simp [c0], .inl (by omega)⟩
  simp only [c0, decide_false, cond_false]
  rw [sz_sub (n := x.2.1.size) (by omega) (by omega) hx.2.1]
  by_cases c1 : (a - (x.1.size : Int)) - (x.2.1.size : Int) < 0
  · exact ⟨-1, fun k => by simp [c1], .inl (by omega)⟩
  simp only [c1, decide_false, cond_false]
  exact ⟨((a - (x.1.size : Int)) - (x.2.1.size : Int)), fun k => rfl, .inr ⟨by omega, by rw [wtWrite] <;> (push_cast; omega)⟩⟩

theorem szWriteS_loop {u0 : List tWrite.D} {u2 : Int} : ∀ (l : List tWrite.D) (s : Int) (i : Nat), (∀ y ∈ l, tWrite.wf y) → 0 ≤ s → s ≤ 1048576 →
    ∃ e, (∀ k, laws_szWriteS_w0 u0 u2 l s i k = k e) ∧ ((∃ z, e = .inl z ∧ z.2.1 < 0) ∨ ∃ z, e = .inr z ∧ 0 ≤ z.1 ∧ z.1 = s - (wtL tWrite l : Int))
  | [], s, i, _, h0, h1 => ⟨.inr (s, (i : Int)), fun k => rfl, .inr ⟨_, rfl, h0, by simp [wtL]⟩⟩
  | y :: l, s, i, hl, h0, h1 => by
    obtain ⟨r, q, p⟩ := szWrite_is (hl y (by simp)) h0 h1
    simp only [laws_szWriteS_w0, q]
    rcases p with p | ⟨p, e⟩
    · exact ⟨.inl (r, (-1 : Int), (i : Int)), fun k => by simp only [p, decide_true, cond_true], .inl ⟨_, rfl, by simp⟩⟩
    · have c : ¬ r < 0 := by omega
      simp only [c, decide_false, cond_false]
      obtain ⟨e', q', p'⟩ := szWriteS_loop l r (i + 1) (fun y hy => hl y (by simp [hy])) p (by omega)
      exact ⟨e', q', p'.imp id fun ⟨z, z1, z2, z3⟩ => ⟨z, z1, z2, by rw [z3, e]; simp only [wtL]; push_cast; omega⟩⟩

theorem szWriteS_is {x : List tWrite.D} (hx : (Ty.slice tWrite).wf x) {a : Int} (h0 : 0 ≤ a) (h1 : a ≤ 1048576) : Sized (laws_szWriteS_k x a) a ((Ty.slice tWrite).wt x) := by
  rw [laws_szWriteS_e]
  unfold Sized
  simp only [laws_szWriteS_d]
  rw [sz_sub (n := x.length) h0 h1 hx.1]
  by_cases c0 : a - (x.length : Int) < 0
  · exact ⟨-1, fun k => by simp [c0], .inl (by omega)⟩
  simp only [c0, decide_false, cond_false]
  have hlen : x.length < 9223372036854775807 := by omega
  simp only [laws_szWriteS_lz0 hlen]
  obtain ⟨e, q, p⟩ := szWriteS_loop (u0 := x) (u2 := 0) x (a - (x.length : Int)) 0 hx.2 (by omega) (by omega)
  simp only [q]
  rcases p with ⟨z, rfl, p⟩ | ⟨z, rfl, p, e⟩
  · exact ⟨z.2.1, fun k => rfl, .inl p⟩
  · exact ⟨z.1, fun k => rfl, .inr ⟨p, by rw [e]; simp only [Ty.wt_slice]; push_cast; omega⟩⟩

theorem toWrite_is (x : tWrite.D) (k) : laws_toWrite_k x k = k x := by
  rw [laws_toWrite_e]; rfl

theorem toWriteS_loop {u0 : List tWrite.D} (z : tWrite.D) : ∀ (l : List tWrite.D) (i : Nat), u0.drop i = l → ∀ K : List tWrite.D → Option Res, laws_toWriteS_w0 u0 l (u0.take i ++ List.replicate (u0.length - i) z) i (fun z => K z.2) = K u0
  | [], i, h, K => by
    have : u0.length ≤ i := by have := congrArg List.length h; simp at this; omega
    simp [laws_toWriteS_w0, show u0.length - i = 0 by omega, List.take_of_length_le this]
  | y :: l, i, h, K => by
    have hlt := drop_lt h
    have hg : u0[i] = y := by have := drop_get h; rw [List.getElem?_eq_getElem hlt] at this; simpa using this
    have hrec := toWriteS_loop z l (i + 1) (drop_succ h) K
    have hsp := set_prefix u0 z i hlt
    rw [hg] at hsp
    simp only [laws_toWriteS_w0, toWrite_is, Int.toNat_natCast]
    rw [if_pos ⟨by omega, by simp; omega⟩]
    exact (congrArg (fun q => laws_toWriteS_w0 u0 l q (i + 1) (fun z => K z.2)) hsp).trans hrec

theorem toWriteS_is {x : List tWrite.D} (hl : x.length ≤ 1048576) (k) : laws_toWriteS_k x k = k x := by
  rw [laws_toWriteS_r (by omega)]
  simp only [laws_toWriteS_t, Int.toNat_natCast]
  rw [if_pos ⟨by omega, by omega, by have : ((VE.maxLen : Nat) : Int) = 4294967296 := rfl; omega⟩]
  have := toWriteS_loop (u0 := x) (Ty.zero tWrite) x 0 rfl k
  simpa using this

theorem eqWrite_self (x : tWrite.D) (k) : laws_eqWrite_k x x k = k true := by
  rw [laws_eqWrite_e]
  simp [laws_eqWrite_d, strEq_self]

theorem eqWriteS_loop {u0 : List tWrite.D} {u2 : Bool} : ∀ (l : List tWrite.D) (i : Nat), u0.drop i = l → ∃ z, ∀ k, laws_eqWriteS_w0 u0 u0 u2 l i k = k (.inr z)
  | [], i, h => ⟨_, fun k => rfl⟩
  | y :: l, i, h => by
    have hlt := drop_lt h
    obtain ⟨z, hz⟩ := eqWriteS_loop (u2 := u2) l (i + 1) (drop_succ h)
    have hy := (lwl_get h).1
    refine ⟨z, fun k => ?_⟩
    simp only [laws_eqWriteS_w0]
    rw [if_pos ⟨by omega, by omega⟩]
    simp only [hy, eqWrite_self, Bool.not_true, cond_false, hz]

theorem eqWriteS_self {x : List tWrite.D} (hl : x.length ≤ 1048576) (k) : laws_eqWriteS_k x x k = k true := by
  rw [laws_eqWriteS_r (by omega)]
  obtain ⟨z, hz⟩ := eqWriteS_loop (u0 := x) (u2 := false) x 0 rfl
  simp [laws_eqWriteS_t, hz]

theorem wtVersion (x : tVersion.D) : tVersion.wt x = x.1.size + x.2.1.size := by
  simp only [tVersion, Ty.wt] <;> omega

theorem szVersion_is {x : tVersion.D} (hx : tVersion.wf x) {a : Int} (h0 : 0 ≤ a) (h1 : a ≤ 1048576) : Sized (laws_szVersion_k x a) a (tVersion.wt x) := by
  rw [laws_szVersion_e]
  unfold laws_szVersion_d
  rw [sz_sub (n := x.1.size) h0 h1 hx.1]
  by_cases c0 : a - (x.1.size : Int) < 0
  · exact ⟨-1, fun k => by simp [c0], .inl (by omega)⟩
  simp only [c0, decide_false, cond_false]
  rw [sz_sub (n := x.2.1.size) (by omega) (by omega) hx.2.1]
  by_cases c1 : (a - (x.1.size : Int)) - (x.2.1.size : Int) < 0
  · exact ⟨-1, fun k => by simp [c1], .inl (by omega)⟩
  simp only [c1, decide_false, cond_false]
  exact ⟨((a - (x.1.size : Int)) - (x.2.1.size : Int)), fun k => rfl, .inr ⟨by omega, by rw [wtVersion] <;> (push_cast; omega)⟩⟩

theorem szVersionS_loop {u0 : List tVersion.D} {u2 : Int} : ∀ (l : List tVersion.D) (s : Int) (i : Nat), (∀ y ∈ l, tVersion.wf y) → 0 ≤ s → s ≤ 1048576 →
    ∃ e, (∀ k, laws_szVersionS_w0 u0 u2 l s i k = k e) ∧ ((∃ z, e = .inl z ∧ z.2.1 < 0) ∨ ∃ z, e = .inr z ∧ 0 ≤ z.1 ∧ z.1 = s - (wtL tVersion l : Int))
  | [], s, i, _, h0, h1 => ⟨.inr (s, (i : Int)), fun k => rfl, .inr ⟨_, rfl, h0, by simp [wtL]⟩⟩
  | y :: l, s, i, hl, h0, h1 => by
    obtain ⟨r, q, p⟩ := szVersion_is (hl y (by simp)) h0 h1
    simp only [laws_szVersionS_w0, q]
    rcases p with p | ⟨p, e⟩
    · exact ⟨.inl (r, (-1 : Int), (i : Int)), fun k => by simp only [p, decide_true, cond_true], .inl ⟨_, rfl, by simp⟩⟩
    · have c : ¬ r < 0 := by omega
      simp only [c, decide_false, cond_false]
      obtain ⟨e', q', p'⟩ := szVersionS_loop l r (i + 1) (fun y hy => hl y (by simp [hy])) p (by omega)
      exact ⟨e', q', p'.imp id fun ⟨z, z1, z2, z3⟩ => ⟨z, z1, z2, by rw [z3, e]; simp only [wtL]; push_cast; omega⟩⟩

theorem szVersionS_is {x : List tVersion.D} (hx : (Ty.slice tVersion).wf x) {a : Int} (h0 : 0 ≤ a) (h1 : a ≤ 1048576) : Sized (laws_szVersionS_k x a) a ((Ty.slice tVersion).wt x) := by
  rw [laws_szVersionS_e]
  unfold Sized
  simp only [laws_szVersionS_d]
  rw [sz_sub (n := x.length) h0 h1 hx.1]
  by_cases c0 : a - (x.length : Int) < 0
  · exact ⟨-1, fun k => by simp [c0], .inl (by omega)⟩
  simp only [c0, decide_false, cond_false]
  have hlen : x.length < 9223372036854775807 := by omega
  simp only [laws_szVersionS_lz0 hlen]
  obtain ⟨e, q, p⟩ := szVersionS_loop (u0 := x) (u2 := 0) x (a - (x.length : Int)) 0 hx.2 (by omega) (by omega)
  simp only [q]
  rcases p with ⟨z, rfl, p⟩ | ⟨z, rfl, p, e⟩
  · exact ⟨z.2.1, fun k => rfl, .inl p⟩
  · exact ⟨z.1, fun k => rfl, .inr ⟨p, by rw [e]; simp only [Ty.wt_slice]; push_cast; omega⟩⟩

theorem toVersion_is (x : tVersion.D) (k) : laws_toVersion_k x k = k x := by
  rw [laws_toVersion_e]; rfl

theorem toVersionS_loop {u0 : List tVersion.D} (z : tVersion.D) : ∀ (l : List tVersion.D) (i : Nat), u0.drop i = l → ∀ K : List tVersion.D → Option Res, laws_toVersionS_w0 u0 l (u0.take i ++ List.replicate (u0.length - i) z) i (fun z => K z.2) = K u0
  | [], i, h, K => by
    have : u0.length ≤ i := by have := congrArg List.length h; simp at this; omega
    simp [laws_toVersionS_w0, show u0.length - i = 0 by omega, List.take_of_length_le this]
  | y :: l, i, h, K => by
    have hlt := drop_lt h
    have hg : u0[i] = y := by have := drop_get h; rw [List.getElem?_eq_getElem hlt] at this; simpa using this
    have hrec := toVersionS_loop z l (i + 1) (drop_succ h) K
    have hsp := set_prefix u0 z i hlt
    rw [hg] at hsp
    simp only [laws_toVersionS_w0, toVersion_is, Int.toNat_natCast]
    rw [if_pos ⟨by omega, by simp; omega⟩]
    exact (congrArg (fun q => laws_toVersionS_w0 u0 l q (i + 1) (fun z => K z.2)) hsp).trans hrec

theorem toVersionS_is {x : List tVersion.D} (hl : x.length ≤ 1048576) (k) : laws_toVersionS_k x k = k x := by
  rw [laws_toVersionS_r (by omega)]
  simp only [laws_toVersionS_t, Int.toNat_natCast]
  rw [if_pos ⟨by omega, by omega, by have : ((VE.maxLen : Nat) : Int) = 4294967296 := rfl; omega⟩]
  have := toVersionS_loop (u0 := x) (Ty.zero tVersion) x 0 rfl k
  simpa using this

theorem eqVersion_self (x : tVersion.D) (k) : laws_eqVersion_k x x k = k true := by
  rw [laws_eqVersion_e]
  simp [laws_eqVersion_d, strEq_self]

theorem eqVersionS_loop {u0 : List tVersion.D} {u2 : Bool} : ∀ (l : List tVersion.D) (i : Nat), u0.drop i = l → ∃ z, ∀ k, laws_eqVersionS_w0 u0 u0 u2 l i k = k (.inr z)
  | [], i, h => ⟨_, fun k => rfl⟩
  | y :: l, i, h => by
    have hlt := drop_lt h
    obtain ⟨z, hz⟩ := eqVersionS_loop (u2 := u2) l (i + 1) (drop_succ h)
    have hy := (lwl_get h).1
    refine ⟨z, fun k => ?_⟩
    simp only [laws_eqVersionS_w0]
    rw [if_pos ⟨by omega, by omega⟩]
    simp only [hy, eqVersion_self, Bool.not_true, cond_false, hz]

theorem eqVersionS_self {x : List tVersion.D} (hl : x.length ≤ 1048576) (k) : laws_eqVersionS_k x x k = k true := by
  rw [laws_eqVersionS_r (by omega)]
  obtain ⟨z, hz⟩ := eqVersionS_loop (u0 := x) (u2 := false) x 0 rfl
  simp [laws_eqVersionS_t, hz]

theorem wtPut (x : tPut.D) : tPut.wt x = x.2.size := by
  simp only [tPut, Ty.wt] <;> omega

theorem szPut_is {x : tPut.D} (hx : tPut.wf x) {a : Int} (h0 : 0 ≤ a) (h1 : a ≤ 1048576) : Sized (laws_szPut_k x a) a (tPut.wt x) := by
  rw [laws_szPut_e]
  unfold laws_szPut_d
  rw [sz_sub (n := x.2.size) h0 h1 hx.2]
  by_cases c0 : a - (x.2.size : Int) < 0
  · exact ⟨-1, fun k => by simp [c0], .inl (by omega)⟩
  simp only [c0, decide_false, cond_false]
  exact ⟨(a - (x.2.size : Int)), fun k => rfl, .inr ⟨by omega, by rw [wtPut] <;> (push_cast; omega)⟩⟩

theorem szPutS_loop {u0 : List tPut.D} {u2 : Int} : ∀ (l : List tPut.D) (s : Int) (i : Nat), (∀ y ∈ l, tPut.wf y) → 0 ≤ s → s ≤ 1048576 →
    ∃ e, (∀ k, laws_szPutS_w0 u0 u2 l s i k = k e) ∧ ((∃ z, e = .inl z ∧ z.2.1 < 0) ∨ ∃ z, e = .inr z ∧ 0 ≤ z.1 ∧ z.1 = s - (wtL tPut l : Int))
  | [], s, i, _, h0, h1 => ⟨.inr (s, (i : Int)), fun k => rfl, .inr ⟨_, rfl, h0, by simp [wtL]⟩⟩
  | y :: l, s, i, hl, h0, h1 => by
    obtain ⟨r, q, p⟩ := szPut_is (hl y (by simp)) h0 h1
    simp only [laws_szPutS_w0, q]
    rcases p with p | ⟨p, e⟩
    · exact ⟨.inl (r, (-1 : Int), (i : Int)), fun k => by simp only [p, decide_true, cond_true], .inl ⟨_, rfl, by simp⟩⟩
    · have c : ¬ r < 0 := by omega
      simp only [c, decide_false, cond_false]
      obtain ⟨e', q', p'⟩ := szPutS_loop l r (i + 1) (fun y hy => hl y (by simp [hy])) p (by omega)
      exact ⟨e', q', p'.imp id fun ⟨z, z1, z2, z3⟩ => ⟨z, z1, z2, by rw [z3, e]; simp only [wtL]; push_cast; omega⟩⟩

theorem szPutS_is {x : List tPut.D} (hx : (Ty.slice tPut).wf x) {a : Int} (h0 : 0 ≤ a) (h1 : a ≤ 1048576) : Sized (laws_szPutS_k x a) a ((Ty.slice tPut).wt x) := by
  rw [laws_szPutS_e]
  unfold Sized
  simp only [laws_szPutS_d]
  rw [sz_sub (n := x.length) h0 h1 hx.1]
  by_cases c0 : a - (x.length : Int) < 0
  · exact ⟨-1, fun k => by simp [c0], .inl (by omega)⟩
  simp only [c0, decide_false, cond_false]
  have hlen : x.length < 9223372036854775807 := by omega
  simp only [laws_szPutS_lz0 hlen]
  obtain ⟨e, q, p⟩ := szPutS_loop (u0 := x) (u2 := 0) x (a - (x.length : Int)) 0 hx.2 (by omega) (by omega)
  simp only [q]
  rcases p with ⟨z, rfl, p⟩ | ⟨z, rfl, p, e⟩
  · exact ⟨z.2.1, fun k => rfl, .inl p⟩
  · exact ⟨z.1, fun k => rfl, .inr ⟨p, by rw [e]; simp only [Ty.wt_slice]; push_cast; omega⟩⟩

theorem toPut_is (x : tPut.D) (k) : laws_toPut_k x k = k x := by
  rw [laws_toPut_e]; rfl

theorem toPutS_loop {u0 : List tPut.D} (z : tPut.D) : ∀ (l : List tPut.D) (i : Nat), u0.drop i = l → ∀ K : List tPut.D → Option Res, laws_toPutS_w0 u0 l (u0.take i ++ List.replicate (u0.length - i) z) i (fun z => K z.2) = K u0
  | [], i, h, K => by
    have : u0.length ≤ i := by have := congrArg List.length h; simp at this; omega
    simp [laws_toPutS_w0, show u0.length - i = 0 by omega, List.take_of_length_le this]
  | y :: l, i, h, K => by
    have hlt := drop_lt h
    have hg : u0[i] = y := by have := drop_get h; rw [List.getElem?_eq_getElem hlt] at this; simpa using this
    have hrec := toPutS_loop z l (i + 1) (drop_succ h) K
    have hsp := set_prefix u0 z i hlt
    rw [hg] at hsp
    simp only [laws_toPutS_w0, toPut_is, Int.toNat_natCast]
    rw [if_pos ⟨by omega, by simp; omega⟩]
    exact (congrArg (fun q => laws_toPutS_w0 u0 l q (i + 1) (fun z => K z.2)) hsp).trans hrec

theorem toPutS_is {x : List tPut.D} (hl : x.length ≤ 1048576) (k) : laws_toPutS_k x k = k x := by
  rw [laws_toPutS_r (by omega)]
  simp only [laws_toPutS_t, Int.toNat_natCast]
  rw [if_pos ⟨by omega, by omega, by have : ((VE.maxLen : Nat) : Int) = 4294967296 := rfl; omega⟩]
  have := toPutS_loop (u0 := x) (Ty.zero tPut) x 0 rfl k
  simpa using this

theorem eqPut_self (x : tPut.D) (k) : laws_eqPut_k x x k = k true := by
  rw [laws_eqPut_e]
  simp [laws_eqPut_d, strEq_self]

theorem eqPutS_loop {u0 : List tPut.D} {u2 : Bool} : ∀ (l : List tPut.D) (i : Nat), u0.drop i = l → ∃ z, ∀ k, laws_eqPutS_w0 u0 u0 u2 l i k = k (.inr z)
  | [], i, h => ⟨_, fun k => rfl⟩
  | y :: l, i, h => by
    have hlt := drop_lt h
    obtain ⟨z, hz⟩ := eqPutS_loop (u2 := u2) l (i + 1) (drop_succ h)
    have hy := (lwl_get h).1
    refine ⟨z, fun k => ?_⟩
    simp only [laws_eqPutS_w0]
    rw [if_pos ⟨by omega, by omega⟩]
    simp only [hy, eqPut_self, Bool.not_true, cond_false, hz]

theorem eqPutS_self {x : List tPut.D} (hl : x.length ≤ 1048576) (k) : laws_eqPutS_k x x k = k true := by
  rw [laws_eqPutS_r (by omega)]
  obtain ⟨z, hz⟩ := eqPutS_loop (u0 := x) (u2 := false) x 0 rfl
  simp [laws_eqPutS_t, hz]

theorem wtTxn (x : tTxn.D) : tTxn.wt x = (Ty.slice tRange).wt x.2.2.2.2.1 + (Ty.slice tWrite).wt x.2.2.2.2.2.1 + x.2.2.2.2.2.2.2.size := by
  simp only [tTxn, Ty.wt] <;> omega

theorem szTxn_is {x : tTxn.D} (hx : tTxn.wf x) {a : Int} (h0 : 0 ≤ a) (h1 : a ≤ 1048576) : Sized (laws_szTxn_k x a) a (tTxn.wt x) := by
  rw [laws_szTxn_e]
  unfold laws_szTxn_d
  obtain ⟨r0, q0, p0⟩ := szRangeS_is (x := x.2.2.2.2.1) hx.2.2.2.2.1 (a := a) h0 h1
  simp only [q0]
  rcases p0 with p0 | ⟨p0, e0⟩
  · exact ⟨-1, fun k => by simp [p0], .inl (by omega)⟩
  have c0 : ¬ r0 < 0 := by omega
  simp only [c0, decide_false, cond_false]
  obtain ⟨r1, q1, p1⟩ := szWriteS_is (x := x.2.2.2.2.2.1) hx.2.2.2.2.2.1 (a := r0) p0 (by omega)
  simp only [q1]
  rcases p1 with p1 | ⟨p1, e1⟩
  · exact ⟨-1, fun k => by simp [p1], .inl (by omega)⟩
  have c1 : ¬ r1 < 0 := by omega
  simp only [c1, decide_false, cond_false]
  rw [sz_sub (n := x.2.2.2.2.2.2.2.size) p1 (by omega) hx.2.2.2.2.2.2.2]
  by_cases c2 : r1 - (x.2.2.2.2.2.2.2.size : Int) < 0
  · exact ⟨-1, fun k => by simp [c2], .inl (by omega)⟩
  simp only [c2, decide_false, cond_false]
  exact ⟨(r1 - (x.2.2.2.2.2.2.2.size : Int)), fun k => rfl, .inr ⟨by omega, by rw [wtTxn] <;> (push_cast; omega)⟩⟩

theorem szTxnS_loop {u0 : List tTxn.D} {u2 : Int} : ∀ (l : List tTxn.D) (s : Int) (i : Nat), (∀ y ∈ l, tTxn.wf y) → 0 ≤ s → s ≤ 1048576 →
    ∃ e, (∀ k, laws_szTxnS_w0 u0 u2 l s i k = k e) ∧ ((∃ z, e = .inl z ∧ z.2.1 < 0) ∨ ∃ z, e = .inr z ∧ 0 ≤ z.1 ∧ z.1 = s - (wtL tTxn l : Int))
  | [], s, i, _, h0, h1 => ⟨.inr (s, (i : Int)), fun k => rfl, .inr ⟨_, rfl, h0, by simp [wtL]⟩⟩
  | y :: l, s, i, hl, h0, h1 => by
    obtain ⟨r, q, p⟩ := szTxn_is (hl y (by simp)) h0 h1
    simp only [laws_szTxnS_w0, q]
    rcases p with p | ⟨p, e⟩
    · exact ⟨.inl (r, (-1 : Int), (i : Int)), fun k => by simp only [p, decide_true, cond_true], .inl ⟨_, rfl, by simp⟩⟩
    · have c : ¬ r < 0 := by omega
      simp only [c, decide_false, cond_false]
      obtain ⟨e', q', p'⟩ := szTxnS_loop l r (i + 1) (fun y hy => hl y (by simp [hy])) p (by omega)
      exact ⟨e', q', p'.imp id fun ⟨z, z1, z2, z3⟩ => ⟨z, z1, z2, by rw [z3, e]; simp only [wtL]; push_cast; omega⟩⟩

theorem szTxnS_is {x : List tTxn.D} (hx : (Ty.slice tTxn).wf x) {a : Int} (h0 : 0 ≤ a) (h1 : a ≤ 1048576) : Sized (laws_szTxnS_k x a) a ((Ty.slice tTxn).wt x) := by
  rw [laws_szTxnS_e]
  unfold Sized
  simp only [laws_szTxnS_d]
  rw [sz_sub (n := x.length) h0 h1 hx.1]
  by_cases c0 : a - (x.length : Int) < 0
  · exact ⟨-1, fun k => by simp [c0], .inl (by omega)⟩
  simp only [c0, decide_false, cond_false]
  have hlen : x.length < 9223372036854775807 := by omega
  simp only [laws_szTxnS_lz0 hlen]
  obtain ⟨e, q, p⟩ := szTxnS_loop (u0 := x) (u2 := 0) x (a - (x.length : Int)) 0 hx.2 (by omega) (by omega)
  simp only [q]
  rcases p with ⟨z, rfl, p⟩ | ⟨z, rfl, p, e⟩
  · exact ⟨z.2.1, fun k => rfl, .inl p⟩
  · exact ⟨z.1, fun k => rfl, .inr ⟨p, by rw [e]; simp only [Ty.wt_slice]; push_cast; omega⟩⟩

theorem toTxn_is (x : tTxn.D) (h4 : x.2.2.2.2.1.length ≤ 1048576) (h5 : x.2.2.2.2.2.1.length ≤ 1048576) (k) : laws_toTxn_k x k = k (x.1, x.2.1, x.2.2.1, x.2.2.2.1, x.2.2.2.2.2.2.1, x.2.2.2.2.2.2.2, x.2.2.2.2.1, x.2.2.2.2.2.1) := by
  rw [laws_toTxn_e]
  simp only [laws_toTxn_d, toRangeS_is h4, toWriteS_is h5]

theorem toTxn_w {x : tTxn.D} (h : tTxn.wt x ≤ 1048576) (k) : laws_toTxn_k x k = k (x.1, x.2.1, x.2.2.1, x.2.2.2.1, x.2.2.2.2.2.2.1, x.2.2.2.2.2.2.2, x.2.2.2.2.1, x.2.2.2.2.2.1) := by
  rw [wtTxn] at h
  exact toTxn_is x (len_le (T := tRange) (by omega)) (len_le (T := tWrite) (by omega)) k

theorem toTxnS_loop {u0 : List tTxn.D} (hu : ∀ y ∈ u0, tTxn.wt y ≤ 1048576) (z : tTxn.D) : ∀ (l : List tTxn.D) (i : Nat), u0.drop i = l → ∀ K : List tTxn.D → Option Res, laws_toTxnS_w0 u0 l (u0.take i ++ List.replicate (u0.length - i) z) i (fun z => K z.2) = K u0
  | [], i, h, K => by
    have : u0.length ≤ i := by have := congrArg List.length h; simp at this; omega
    simp [laws_toTxnS_w0, show u0.length - i = 0 by omega, List.take_of_length_le this]
  | y :: l, i, h, K => by
    have hlt := drop_lt h
    have hg : u0[i] = y := by have := drop_get h; rw [List.getElem?_eq_getElem hlt] at this; simpa using this
    have hrec := toTxnS_loop hu z l (i + 1) (drop_succ h) K
    have hsp := set_prefix u0 z i hlt
    rw [hg] at hsp
    simp only [laws_toTxnS_w0, toTxn_w (hu y (mem_of_drop h)), Int.toNat_natCast]
    rw [if_pos ⟨by omega, by simp; omega⟩]
    exact (congrArg (fun q => laws_toTxnS_w0 u0 l q (i + 1) (fun z => K z.2)) hsp).trans hrec

theorem toTxnS_is {x : List tTxn.D} (hl : x.length ≤ 1048576) (hu : ∀ y ∈ x, tTxn.wt y ≤ 1048576) (k) : laws_toTxnS_k x k = k x := by
  rw [laws_toTxnS_r (by omega)]
  simp only [laws_toTxnS_t, Int.toNat_natCast]
  rw [if_pos ⟨by omega, by omega, by have : ((VE.maxLen : Nat) : Int) = 4294967296 := rfl; omega⟩]
  have := toTxnS_loop (u0 := x) hu (Ty.zero tTxn) x 0 rfl k
  simpa using this

theorem eqTxn_self (x : tTxn.D) (h4 : x.2.2.2.2.1.length ≤ 1048576) (h5 : x.2.2.2.2.2.1.length ≤ 1048576) (k) : laws_eqTxn_k x x k = k true := by
  rw [laws_eqTxn_e]
  simp [laws_eqTxn_d, strEq_self, eqRangeS_self h4, eqWriteS_self h5]

theorem eqTxn_w {x : tTxn.D} (h : tTxn.wt x ≤ 1048576) (k) : laws_eqTxn_k x x k = k true := by
  rw [wtTxn] at h
  exact eqTxn_self x (len_le (T := tRange) (by omega)) (len_le (T := tWrite) (by omega)) k

theorem eqTxnS_loop {u0 : List tTxn.D} (hu : ∀ y ∈ u0, tTxn.wt y ≤ 1048576) {u2 : Bool} : ∀ (l : List tTxn.D) (i : Nat), u0.drop i = l → ∃ z, ∀ k, laws_eqTxnS_w0 u0 u0 u2 l i k = k (.inr z)
  | [], i, h => ⟨_, fun k => rfl⟩
  | y :: l, i, h => by
    have hlt := drop_lt h
    obtain ⟨z, hz⟩ := eqTxnS_loop hu (u2 := u2) l (i + 1) (drop_succ h)
    have hy := (lwl_get h).1
    refine ⟨z, fun k => ?_⟩
    simp only [laws_eqTxnS_w0]
    rw [if_pos ⟨by omega, by omega⟩]
    simp only [hy, eqTxn_w (hu y (mem_of_drop h)), Bool.not_true, cond_false, hz]

theorem eqTxnS_self {x : List tTxn.D} (hl : x.length ≤ 1048576) (hu : ∀ y ∈ x, tTxn.wt y ≤ 1048576) (k) : laws_eqTxnS_k x x k = k true := by
  rw [laws_eqTxnS_r (by omega)]
  obtain ⟨z, hz⟩ := eqTxnS_loop (u0 := x) hu (u2 := false) x 0 rfl
  simp [laws_eqTxnS_t, hz]

theorem wtBase (x : tBase.D) : tBase.wt x = (Ty.slice tVersion).wt x.1 + (Ty.slice tTxn).wt x.2.1 + (Ty.slice tTxn).wt x.2.2.1 := by
  simp only [tBase, Ty.wt] <;> omega

theorem szBase_is {x : tBase.D} (hx : tBase.wf x) {a : Int} (h0 : 0 ≤ a) (h1 : a ≤ 1048576) : Sized (laws_szBase_k x a) a (tBase.wt x) := by
  rw [laws_szBase_e]
  unfold laws_szBase_d
  obtain ⟨r0, q0, p0⟩ := szVersionS_is (x := x.1) hx.1 (a := a) h0 h1
  simp only [q0]
  rcases p0 with p0 | ⟨p0, e0⟩
  · exact ⟨-1, fun k => by simp [p0], .inl (by omega)⟩
  have c0 : ¬ r0 < 0 := by omega
  simp only [c0, decide_false, cond_false]
  obtain ⟨r1, q1, p1⟩ := szTxnS_is (x := x.2.1) hx.2.1 (a := r0) p0 (by omega)
  simp only [q1]
  rcases p1 with p1 | ⟨p1, e1⟩
  · exact ⟨-1, fun k => by simp [p1], .inl (by omega)⟩
  have c1 : ¬ r1 < 0 := by omega
  simp only [c1, decide_false, cond_false]
  obtain ⟨r2, q2, p2⟩ := szTxnS_is (x := x.2.2.1) hx.2.2.1 (a := r1) p1 (by omega)
  simp only [q2]
  rcases p2 with p2 | ⟨p2, e2⟩
  · exact ⟨-1, fun k => by simp [p2], .inl (by omega)⟩
  have c2 : ¬ r2 < 0 := by omega
  simp only [c2, decide_false, cond_false]
  exact ⟨r2, fun k => rfl, .inr ⟨by omega, by rw [wtBase] <;> (push_cast; omega)⟩⟩

theorem toBase_is (x : tBase.D) (h0 : x.1.length ≤ 1048576) (h1 : x.2.1.length ≤ 1048576) (g1 : ∀ y ∈ x.2.1, tTxn.wt y ≤ 1048576) (h2 : x.2.2.1.length ≤ 1048576) (g2 : ∀ y ∈ x.2.2.1, tTxn.wt y ≤ 1048576) (k) : laws_toBase_k x k = k (x.2.2.2.1, x.2.2.2.2, x.1, x.2.1, x.2.2.1) := by
  rw [laws_toBase_e]
  simp only [laws_toBase_d, toVersionS_is h0, toTxnS_is h1 g1, toTxnS_is h2 g2]

theorem toBase_w {x : tBase.D} (h : tBase.wt x ≤ 1048576) (k) : laws_toBase_k x k = k (x.2.2.2.1, x.2.2.2.2, x.1, x.2.1, x.2.2.1) := by
  rw [wtBase] at h
  exact toBase_is x (len_le (T := tVersion) (by omega)) (len_le (T := tTxn) (by omega)) (fun y hy => wt_mem_le hy (by omega)) (len_le (T := tTxn) (by omega)) (fun y hy => wt_mem_le hy (by omega)) k

theorem eqBase_self (x : tBase.D) (h0 : x.1.length ≤ 1048576) (h1 : x.2.1.length ≤ 1048576) (g1 : ∀ y ∈ x.2.1, tTxn.wt y ≤ 1048576) (h2 : x.2.2.1.length ≤ 1048576) (g2 : ∀ y ∈ x.2.2.1, tTxn.wt y ≤ 1048576) (k) : laws_eqBase_k x x k = k true := by
  rw [laws_eqBase_e]
  simp [laws_eqBase_d, strEq_self, eqVersionS_self h0, eqTxnS_self h1 g1, eqTxnS_self h2 g2]

theorem eqBase_w {x : tBase.D} (h : tBase.wt x ≤ 1048576) (k) : laws_eqBase_k x x k = k true := by
  rw [wtBase] at h
  exact eqBase_self x (len_le (T := tVersion) (by omega)) (len_le (T := tTxn) (by omega)) (fun y hy => wt_mem_le hy (by omega)) (len_le (T := tTxn) (by omega)) (fun y hy => wt_mem_le hy (by omega)) k

theorem wtEngine (x : tEngine.D) : tEngine.wt x = tBase.wt x.1 + (Ty.slice tTxn).wt x.2 := by
  simp only [tEngine, Ty.wt] <;> omega

theorem szEngine_is {x : tEngine.D} (hx : tEngine.wf x) {a : Int} (h0 : 0 ≤ a) (h1 : a ≤ 1048576) : Sized (laws_szEngine_k x a) a (tEngine.wt x) := by
  rw [laws_szEngine_e]
  unfold laws_szEngine_d
  obtain ⟨r0, q0, p0⟩ := szBase_is (x := x.1) hx.1 (a := a) h0 h1
  simp only [q0]
  rcases p0 with p0 | ⟨p0, e0⟩
  · exact ⟨-1, fun k => by simp [p0], .inl (by omega)⟩
  have c0 : ¬ r0 < 0 := by omega
  simp only [c0, decide_false, cond_false]
  obtain ⟨r1, q1, p1⟩ := szTxnS_is (x := x.2) hx.2 (a := r0) p0 (by omega)
  simp only [q1]
  rcases p1 with p1 | ⟨p1, e1⟩
  · exact ⟨-1, fun k => by simp [p1], .inl (by omega)⟩
  have c1 : ¬ r1 < 0 := by omega
  simp only [c1, decide_false, cond_false]
  exact ⟨r1, fun k => rfl, .inr ⟨by omega, by rw [wtEngine] <;> (push_cast; omega)⟩⟩

theorem toEngine_is (x : tEngine.D) (h0 : tBase.wt x.1 ≤ 1048576) (h1 : x.2.length ≤ 1048576) (g1 : ∀ y ∈ x.2, tTxn.wt y ≤ 1048576) (k) : laws_toEngine_k x k = k (x.1.2.2.2.1, x.1.2.2.2.2, x.1.1, x.1.2.1, x.1.2.2.1, x.2) := by
  rw [laws_toEngine_e]
  simp only [laws_toEngine_d, toBase_w h0, toTxnS_is h1 g1]

theorem toEngine_w {x : tEngine.D} (h : tEngine.wt x ≤ 1048576) (k) : laws_toEngine_k x k = k (x.1.2.2.2.1, x.1.2.2.2.2, x.1.1, x.1.2.1, x.1.2.2.1, x.2) := by
  rw [wtEngine] at h
  exact toEngine_is x (by omega) (len_le (T := tTxn) (by omega)) (fun y hy => wt_mem_le hy (by omega)) k

theorem eqEngine_self (x : tEngine.D) (h0 : tBase.wt x.1 ≤ 1048576) (h1 : x.2.length ≤ 1048576) (g1 : ∀ y ∈ x.2, tTxn.wt y ≤ 1048576) (k) : laws_eqEngine_k x x k = k true := by
  rw [laws_eqEngine_e]
  simp [laws_eqEngine_d, strEq_self, eqBase_w h0, eqTxnS_self h1 g1]

theorem eqEngine_w {x : tEngine.D} (h : tEngine.wt x ≤ 1048576) (k) : laws_eqEngine_k x x k = k true := by
  rw [wtEngine] at h
  exact eqEngine_self x (by omega) (len_le (T := tTxn) (by omega)) (fun y hy => wt_mem_le hy (by omega)) k

end Go.VE
