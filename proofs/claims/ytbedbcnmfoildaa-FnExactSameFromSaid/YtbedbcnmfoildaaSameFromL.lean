/- Plain laws of the helpers of all laws: sizes, copies, comparisons; written by plib.py. -/
import Derived.Test.YtbedbcnmfoildaaSameFromW
import Derived.Test.YtbedbcnmfoildaaP2
namespace Go.VE
set_option linter.unusedVariables false
set_option linter.unusedSimpArgs false
set_option maxRecDepth 100000


theorem wtVersion (x : tVersion.D) : tVersion.wt x = x.1.size + x.2.1.size := by
  simp only [tVersion, Ty.wt] <;> omega

theorem szVersion_is {x : tVersion.D} (hx : tVersion.wf x) {a : Int} (h0 : 0 ≤ a) (h1 : a ≤ 1048576) : Sized (laws_szVersion_k x a) a (tVersion.wt x) := by
  rw [laws_szVersion_e]
  unfold laws_szVersion_d
  rw [sz_sub (n := x.1.size) h0 h1 hx.1]
  by_cases c0 : a - (x.1.size : Int) < 0
  · exact ⟨-1, fun k => by simp [c0], .inl (by omega)⟩
  simp only [c0, decide_false, cond_false]
  rw [sz_sub (n := x.2.1.size) (by omega) (by omega) hx.2.1]
  by_cases c1 : (a - (x.1.size : Int)) - (x.2.1.size : Int) < 0
  · exact ⟨-1, fun k => by simp [c1], .inl (by omega)⟩
  simp only [c1, decide_false, cond_false]
  exact ⟨((a - (x.1.size : Int)) - (x.2.1.size : Int)), fun k => rfl, .inr ⟨by omega, by rw [wtVersion]; push_cast; omega⟩⟩

theorem szVersionS_loop {u0 : List tVersion.D} {u2 : Int} : ∀ (l : List tVersion.D) (s : Int) (i : Nat), (∀ y ∈ l, tVersion.wf y) → 0 ≤ s → s ≤ 1048576 →
    ∃ e, (∀ k, laws_szVersionS_w0 u0 u2 l s i k = k e) ∧ ((∃ z, e = .inl z ∧ z.2.1 < 0) ∨ ∃ z, e = .inr z ∧ 0 ≤ z.1 ∧ z.1 = s - (wtL tVersion l : Int))
  | [], s, i, _, h0, h1 => ⟨.inr (s, (i : Int)), fun k => rfl, .inr ⟨_, rfl, h0, by simp [wtL]⟩⟩
  | y :: l, s, i, hl, h0, h1 => by
    obtain ⟨r, q, p⟩ := szVersion_is (hl y (by simp)) h0 h1
    simp only [laws_szVersionS_w0, q]
    rcases p with p | ⟨p, e⟩
    · exact ⟨.inl (r, (-1 : Int), (i : Int)), fun k => by simp only [p, decide_true, cond_true], .inl ⟨_, rfl, by simp⟩⟩
    · have c : ¬ r < 0 := by omega
      simp only [c, decide_false, cond_false]
      obtain ⟨e', q', p'⟩ := szVersionS_loop l r (i + 1) (fun y hy => hl y (by simp [hy])) p (by omega)
      exact ⟨e', q', p'.imp id fun ⟨z, z1, z2, z3⟩ => ⟨z, z1, z2, by rw [z3, e]; simp only [wtL]; push_cast; omega⟩⟩

theorem szVersionS_is {x : List tVersion.D} (hx : (Ty.slice tVersion).wf x) {a : Int} (h0 : 0 ≤ a) (h1 : a ≤ 1048576) : Sized (laws_szVersionS_k x a) a ((Ty.slice tVersion).wt x) := by
  rw [laws_szVersionS_e]
  unfold Sized
  simp only [laws_szVersionS_d]
  rw [sz_sub (n := x.length) h0 h1 hx.1]
  by_cases c0 : a - (x.length : Int) < 0
  · exact ⟨-1, fun k => by simp [c0], .inl (by omega)⟩
  simp only [c0, decide_false, cond_false]
  have hlen : x.length < 9223372036854775807 := by omega
  simp only [laws_szVersionS_lz0 hlen]
  obtain ⟨e, q, p⟩ := szVersionS_loop (u0 := x) (u2 := 0) x (a - (x.length : Int)) 0 hx.2 (by omega) (by omega)
  simp only [q]
  rcases p with ⟨z, rfl, p⟩ | ⟨z, rfl, p, e⟩
  · exact ⟨z.2.1, fun k => rfl, .inl p⟩
  · exact ⟨z.1, fun k => rfl, .inr ⟨p, by rw [e]; simp only [Ty.wt_slice]; push_cast; omega⟩⟩

theorem toVersion_is (x : tVersion.D) (k) : laws_toVersion_k x k = k x := by
  rw [laws_toVersion_e]; rfl

theorem toVersionS_loop {u0 : List tVersion.D} (z : tVersion.D) : ∀ (l : List tVersion.D) (i : Nat), u0.drop i = l → ∀ K : List tVersion.D → Option Res, laws_toVersionS_w0 u0 l (u0.take i ++ List.replicate (u0.length - i) z) i (fun z => K z.2) = K u0
  | [], i, h, K => by
    have : u0.length ≤ i := by have := congrArg List.length h; simp at this; omega
    simp [laws_toVersionS_w0, show u0.length - i = 0 by omega, List.take_of_length_le this]
  | y :: l, i, h, K => by
    have hlt := drop_lt h
    have hg : u0[i] = y := by have := drop_get h; rw [List.getElem?_eq_getElem hlt] at this; simpa using this
    have hrec := toVersionS_loop z l (i + 1) (drop_succ h) K
    have hsp := set_prefix u0 z i hlt
    rw [hg] at hsp
    simp only [laws_toVersionS_w0, toVersion_is, Int.toNat_natCast]
    rw [if_pos ⟨by omega, by simp; omega⟩]
    exact (congrArg (fun q => laws_toVersionS_w0 u0 l q (i + 1) (fun z => K z.2)) hsp).trans hrec

theorem toVersionS_is {x : List tVersion.D} (hl : x.length ≤ 1048576) (k) : laws_toVersionS_k x k = k x := by
  rw [laws_toVersionS_r (by omega)]
  simp only [laws_toVersionS_t, Int.toNat_natCast]
  rw [if_pos ⟨by omega, by omega, by have : ((VE.maxLen : Nat) : Int) = 4294967296 := rfl; omega⟩]
  have := toVersionS_loop (u0 := x) (Ty.zero tVersion) x 0 rfl k
  simpa using this

theorem eqVersion_self (x : tVersion.D) (k) : laws_eqVersion_k x x k = k true := by
  rw [laws_eqVersion_e]
  simp [laws_eqVersion_d, strEq_self]

theorem eqVersionS_loop {u0 : List tVersion.D} {u2 : Bool} : ∀ (l : List tVersion.D) (i : Nat), u0.drop i = l → ∃ z, ∀ k, laws_eqVersionS_w0 u0 u0 u2 l i k = k (.inr z)
  | [], i, h => ⟨_, fun k => rfl⟩
  | y :: l, i, h => by
    have hlt := drop_lt h
    obtain ⟨z, hz⟩ := eqVersionS_loop (u2 := u2) l (i + 1) (drop_succ h)
    have hy := (lwl_get h).1
    refine ⟨z, fun k => ?_⟩
    simp only [laws_eqVersionS_w0]
    rw [if_pos ⟨by omega, by omega⟩]
    simp only [hy, eqVersion_self, Bool.not_true, cond_false, hz]

theorem eqVersionS_self {x : List tVersion.D} (hl : x.length ≤ 1048576) (k) : laws_eqVersionS_k x x k = k true := by
  rw [laws_eqVersionS_r (by omega)]
  obtain ⟨z, hz⟩ := eqVersionS_loop (u0 := x) (u2 := false) x 0 rfl
  simp [laws_eqVersionS_t, hz]

end Go.VE
