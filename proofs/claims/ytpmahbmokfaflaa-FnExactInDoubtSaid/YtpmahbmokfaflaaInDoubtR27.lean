/- Plain laws of whole stores: sizes, copies, comparisons, marks; the law InDoubt. -/
import Derived.Test.YtpmahbmokfaflaaInDoubtR26
namespace Go.VE
noncomputable section
set_option linter.unusedVariables false
set_option linter.unusedSimpArgs false
set_option maxRecDepth 100000

theorem szStringS_loop {u0 : List ByteArray} {u2 : Int} : ∀ (l : List ByteArray) (s : Int) (i : Nat), (∀ y ∈ l, Ty.str.wf y) → 0 ≤ s → s ≤ 1048576 →
    ∃ e, (∀ k, laws_szStringS_w0 u0 u2 l s i k = k e) ∧ ((∃ z, e = .inl z ∧ z.2.1 < 0) ∨ ∃ z, e = .inr z ∧ 0 ≤ z.1 ∧ z.1 = s - (wtL .str l : Int))
  | [], s, i, _, h0, h1 => ⟨.inr (s, (i : Int)), fun k => rfl, .inr ⟨_, rfl, h0, by simp [wtL]⟩⟩
  | y :: l, s, i, hl, h0, h1 => by
    have hy : y.size ≤ Go.maxLen := hl y (by simp)
    simp only [laws_szStringS_w0]
    rw [sz_sub (n := y.size) h0 h1 hy]
    by_cases c : s - (y.size : Int) < 0
    · exact ⟨.inl (s - (y.size : Int), (-1 : Int), (i : Int)), fun k => by simp only [c, decide_true, cond_true], .inl ⟨_, rfl, by simp⟩⟩
    · simp only [c, decide_false, cond_false]
      obtain ⟨e', q', p'⟩ := szStringS_loop l (s - (y.size : Int)) (i + 1) (fun y hy => hl y (by simp [hy])) (by omega) (by omega)
      refine ⟨e', q', p'.imp id fun ⟨z, z1, z2, z3⟩ => ⟨z, z1, z2, ?_⟩⟩
      rw [z3]; simp only [wtL, Ty.wt]; push_cast; omega

theorem szStringS_is {x : List ByteArray} (hx : (Ty.slice .str).wf x) {a : Int} (h0 : 0 ≤ a) (h1 : a ≤ 1048576) : Sized (laws_szStringS_k x a) a ((Ty.slice .str).wt x) := by
  rw [laws_szStringS_e]
  unfold Sized
  simp only [laws_szStringS_d]
  rw [sz_sub (n := x.length) h0 h1 hx.1]
  by_cases c0 : a - (x.length : Int) < 0
  · exact ⟨-1, fun k => by simp [c0], .inl (by omega)⟩
  simp only [c0, decide_false, cond_false]
  have hlen : x.length < 9223372036854775807 := by omega
  simp only [laws_szStringS_lz0 hlen]
  obtain ⟨e, q, p⟩ := szStringS_loop (u0 := x) (u2 := 0) x (a - (x.length : Int)) 0 hx.2 (by omega) (by omega)
  simp only [q]
  rcases p with ⟨z, rfl, p⟩ | ⟨z, rfl, p, e⟩
  · exact ⟨z.2.1, fun k => rfl, .inl p⟩
  · exact ⟨z.1, fun k => rfl, .inr ⟨p, by rw [e]; simp only [Ty.wt_slice]; push_cast; omega⟩⟩

theorem wtDisk (x : tDisk.D) : tDisk.wt x = (Ty.slice .str).wt x.1 + (Ty.slice tPut).wt x.2 := by
  simp only [tDisk, Ty.wt] <;> omega

theorem szDisk_is {x : tDisk.D} (hx : tDisk.wf x) {a : Int} (h0 : 0 ≤ a) (h1 : a ≤ 1048576) : Sized (laws_szDisk_k x a) a (tDisk.wt x) := by
  rw [laws_szDisk_e]
  unfold laws_szDisk_d
  obtain ⟨r0, q0, p0⟩ := szStringS_is (x := x.1) hx.1 (a := a) h0 h1
  simp only [q0]
  rcases p0 with p0 | ⟨p0, e0⟩
  · exact ⟨-1, fun k => by simp [p0], .inl (by omega)⟩
  have c0 : ¬ r0 < 0 := by omega
  simp only [c0, decide_false, cond_false]
  obtain ⟨r1, q1, p1⟩ := szPutS_is (x := x.2) hx.2 (a := r0) p0 (by omega)
  simp only [q1]
  rcases p1 with p1 | ⟨p1, e1⟩
  · exact ⟨-1, fun k => by simp [p1], .inl (by omega)⟩
  have c1 : ¬ r1 < 0 := by omega
  simp only [c1, decide_false, cond_false]
  exact ⟨r1, fun k => rfl, .inr ⟨by omega, by rw [wtDisk] <;> (push_cast; omega)⟩⟩

theorem wtStore (x : tStore.D) : tStore.wt x = tEngine.wt x.1 + tDisk.wt x.2 := by
  simp only [tStore, Ty.wt] <;> omega

theorem szStore_is {x : tStore.D} (hx : tStore.wf x) {a : Int} (h0 : 0 ≤ a) (h1 : a ≤ 1048576) : Sized (laws_szStore_k x a) a (tStore.wt x) := by
  rw [laws_szStore_e]
  unfold laws_szStore_d
  obtain ⟨r0, q0, p0⟩ := szEngine_is (x := x.1) hx.1 (a := a) h0 h1
  simp only [q0]
  rcases p0 with p0 | ⟨p0, e0⟩
  · exact ⟨-1, fun k => by simp [p0], .inl (by omega)⟩
  have c0 : ¬ r0 < 0 := by omega
  simp only [c0, decide_false, cond_false]
  obtain ⟨r1, q1, p1⟩ := szDisk_is (x := x.2) hx.2 (a := r0) p0 (by omega)
  simp only [q1]
  rcases p1 with p1 | ⟨p1, e1⟩
  · exact ⟨-1, fun k => by simp [p1], .inl (by omega)⟩
  have c1 : ¬ r1 < 0 := by omega
  simp only [c1, decide_false, cond_false]
  exact ⟨r1, fun k => rfl, .inr ⟨by omega, by rw [wtStore] <;> (push_cast; omega)⟩⟩

theorem toStringS_loop {u0 : List ByteArray} (z : ByteArray) : ∀ (l : List ByteArray) (i : Nat), u0.drop i = l → ∀ K : List ByteArray → Option Res, laws_toStringS_w0 u0 l (u0.take i ++ List.replicate (u0.length - i) z) i (fun z => K z.2) = K u0
  | [], i, h, K => by
    have : u0.length ≤ i := by have := congrArg List.length h; simp at this; omega
    simp [laws_toStringS_w0, show u0.length - i = 0 by omega, List.take_of_length_le this]
  | y :: l, i, h, K => by
    have hlt := drop_lt h
    have hg : u0[i] = y := by have := drop_get h; rw [List.getElem?_eq_getElem hlt] at this; simpa using this
    have hrec := toStringS_loop z l (i + 1) (drop_succ h) K
    have hsp := set_prefix u0 z i hlt
    rw [hg] at hsp
    simp only [laws_toStringS_w0, Int.toNat_natCast]
    rw [if_pos ⟨by omega, by simp; omega⟩]
    exact (congrArg (fun q => laws_toStringS_w0 u0 l q (i + 1) (fun z => K z.2)) hsp).trans hrec

theorem toStringS_is {x : List ByteArray} (hl : x.length ≤ 1048576) (k) : laws_toStringS_k x k = k x := by
  rw [laws_toStringS_r (by omega)]
  simp only [laws_toStringS_t, Int.toNat_natCast]
  rw [if_pos ⟨by omega, by omega, by have : ((VE.maxLen : Nat) : Int) = 4294967296 := rfl; omega⟩]
  have := toStringS_loop (u0 := x) (Ty.zero .str) x 0 rfl k
  simpa using this

theorem toDisk_w {x : tDisk.D} (h : tDisk.wt x ≤ 1048576) (k) : laws_toDisk_k x k = k (x.1, x.2) := by
  rw [wtDisk] at h
  rw [laws_toDisk_e]
  simp only [laws_toDisk_d, toStringS_is (x := x.1) (len_le (T := .str) (by omega)), toPutS_is (x := x.2) (len_le (T := tPut) (by omega))]

theorem toStore_w {x : tStore.D} (h : tStore.wt x ≤ 1048576) (k) : laws_toStore_k x k = k (x.1.1.2.2.2.1, x.1.1.2.2.2.2, x.1.1.1, x.1.1.2.1, x.1.1.2.2.1, x.1.2, x.2.1, x.2.2) := by
  rw [wtStore] at h
  rw [laws_toStore_e]
  simp only [laws_toStore_d, toEngine_w (x := x.1) (by omega), toDisk_w (x := x.2) (by omega)]

theorem eqStringS_self {x : List ByteArray} (hl : x.length ≤ 1048576) (k) : laws_eqStringS_k x x k = k true := by
  rw [laws_eqStringS_r (by omega)]
  obtain ⟨z, hz⟩ := eqStringS_loop (u0 := x) (u2 := false) x 0 rfl
  simp [laws_eqStringS_t, hz]

theorem eqDisk_w {x : tDisk.D} (h : tDisk.wt x ≤ 1048576) (k) : laws_eqDisk_k x x k = k true := by
  rw [wtDisk] at h
  rw [laws_eqDisk_e]
  simp [laws_eqDisk_d, eqStringS_self (x := x.1) (len_le (T := .str) (by omega)), eqPutS_self (x := x.2) (len_le (T := tPut) (by omega))]

theorem eqStore_w {x : tStore.D} (h : tStore.wt x ≤ 1048576) (k) : laws_eqStore_k x x k = k true := by
  rw [wtStore] at h
  rw [laws_eqStore_e]
  simp [laws_eqStore_d, eqEngine_w (x := x.1) (by omega), eqDisk_w (x := x.2) (by omega)]


theorem markStringS_at {l : List ByteArray} (hl : l.length ≤ 1048576) {c : Int} (h0 : 0 ≤ c) (hc : c + l.length ≤ 9000000) (k) : laws_markStringS_vo_k c l k = k (c + l.length, markS c l) := by
  rw [laws_markStringS_vo_e]
  unfold laws_markStringS_vo_d
  obtain ⟨j, hj⟩ := markStringS_loop l [] c Fuel h0 hc (by simpa using hl) (by have := fuel_big; omega)
  simp only [List.length_nil, List.nil_append] at hj
  rw [show ((0 : Int)) = ((0 : Nat) : Int) from rfl, hj]

theorem heldStringS_at {l : List ByteArray} (hl : l.length ≤ 1048576) {c : Int} (h0 : 0 ≤ c) (hc : c + l.length ≤ 9000000) (k) : laws_heldStringS_k (markS c l) c k = k (c + (l.length : Int)) := by
  rw [laws_heldStringS_r (by rw [markS_length]; omega)]
  obtain ⟨j, hj⟩ := heldStringS_loop (u0 := markS c l) (u2 := 0) l c 0 h0 hc
  simp only [laws_heldStringS_t, hj, Sum.elim_inr]

def markP : Int → List tPut.D → List tPut.D
  | _, [] => []
  | c, y :: l => (c, markB (c + 1)) :: markP (c + 2) l

theorem markPutS_at_loop : ∀ (l pre : List tPut.D) (c : Int) (q : Nat), 0 ≤ c → c + 2 * l.length ≤ 9000000 → pre.length + l.length ≤ 1048576 → l.length < q →
    ∃ j : Int, ∀ k, loopK laws_markPutS_vo_b0 q (c, (pre.length : Int), pre ++ l) k = k (c + 2 * l.length, j, pre ++ markP c l)
  | [], pre, c, q, h0, hc, hl, hq => by
    obtain ⟨q, rfl⟩ : ∃ r, q = r + 1 := ⟨q - 1, by omega⟩
    refine ⟨pre.length, fun k => ?_⟩
    simp only [loopK, laws_markPutS_vo_b0, List.append_nil, Int.lt_irrefl, decide_false, cond_false, Sum.elim_inr, List.length_nil, markP]
    simp
  | y :: l, pre, c, q, h0, hc, hl, hq => by
    obtain ⟨q, rfl⟩ : ∃ r, q = r + 1 := ⟨q - 1, by omega⟩
    simp only [List.length_cons] at hc hl hq
    obtain ⟨j, hj⟩ := markPutS_at_loop l (pre ++ [(c, markB (c + 1))]) (c + 2) q (by omega) (by omega) (by rw [List.length_append, List.length_singleton]; omega) (by omega)
    refine ⟨j, fun k => ?_⟩
    have hlt : ∀ v : tPut.D, (pre.length : Int) < ((pre ++ v :: l).length : Int) := fun v => by rw [List.length_append, List.length_cons]; omega
    have w1 : IntKind.wrap .i64 (c + 1) = c + 1 := wrap64 (by omega) (by omega)
    have w2 : IntKind.wrap .i64 (c + 1 + 1) = c + 2 := by rw [wrap64 (by omega) (by omega)]; omega
    have w3 : IntKind.wrap .i64 ((pre.length : Int) + 1) = ((pre.length + 1 : Nat) : Int) := wrap_succ (by omega)
    have hp : (0 : Int) ≤ (pre.length : Int) := Int.natCast_nonneg _
    have hj' := hj k
    rw [List.length_append, List.length_singleton, List.append_assoc, List.singleton_append, List.append_assoc, List.singleton_append] at hj'
    simp only [loopK, laws_markPutS_vo_b0, hlt, decide_true, cond_true, w1, markText_is (show c + 1 ≤ 10000000 by omega), Int.toNat_natCast, set_mid, getD_mid, hp, and_self, if_true, w2, w3, Sum.elim_inl]
    refine Eq.trans (b := loopK laws_markPutS_vo_b0 q (c + 2, ((pre.length + 1 : Nat) : Int), pre ++ (c, markB (c + 1)) :: l) k) rfl ?_
    rw [hj']
    simp only [markP, List.length_cons]
    congr 2
    push_cast
    omega

theorem markPutS_at {l : List tPut.D} (hl : l.length ≤ 1048576) {c : Int} (h0 : 0 ≤ c) (hc : c + 2 * l.length ≤ 9000000) (k) : laws_markPutS_vo_k c l k = k (c + 2 * l.length, markP c l) := by
  rw [laws_markPutS_vo_e]
  unfold laws_markPutS_vo_d
  obtain ⟨j, hj⟩ := markPutS_at_loop l [] c Fuel h0 hc (by simpa using hl) (by have := fuel_big; omega)
  simp only [List.length_nil, List.nil_append] at hj
  rw [show ((0 : Int)) = ((0 : Nat) : Int) from rfl, hj]

def cntD (x : tDisk.D) : Int := (x.1.length : Int) + 2 * (x.2.length : Int)
def cntS (x : tStore.D) : Int := cntE x.1 + cntD x.2

theorem cntS_pos (x : tStore.D) : 0 ≤ cntS x := by unfold cntS cntD; have := cntE_pos x.1; omega

theorem cntS_wt (x : tStore.D) : cntS x ≤ 6 * (tStore.wt x : Nat) := by
  have h0 := cntE_wt x.1
  have h1 : x.2.1.length ≤ (Ty.slice .str).wt x.2.1 := len_le (T := .str) (Nat.le_refl _)
  have h2 : x.2.2.length ≤ (Ty.slice tPut).wt x.2.2 := len_le (T := tPut) (Nat.le_refl _)
  have h3 := wtStore x
  have h4 := wtDisk x.2
  unfold cntS cntD
  omega

theorem markStore_at {x : tStore.D} (h : tStore.wt x ≤ 1048576) (a0 a1 : Int) (k) :
    laws_markStore_vAodddoo_k a0 a1 1 x.1.1.1 x.1.1.2.1 x.1.1.2.2.1 x.1.2 x.2.1 x.2.2 k =
      k (1 + cntS x, (markE 1 x.1).1.1, (markE 1 x.1).1.2.1, (markE 1 x.1).1.2.2.1, (markE 1 x.1).2, markS (1 + cntE x.1) x.2.1, markP (1 + cntE x.1 + x.2.1.length) x.2.2) := by
  have hc := cntS_wt x
  have hp := cntE_pos x.1
  have hS := wtStore x
  have hD := wtDisk x.2
  have h1 : x.2.1.length ≤ 1048576 := len_le (T := .str) (by omega)
  have h2 : x.2.2.length ≤ 1048576 := len_le (T := tPut) (by omega)
  have hs : cntS x = cntE x.1 + ((x.2.1.length : Int) + 2 * (x.2.2.length : Int)) := rfl
  rw [laws_markStore_vAodddoo_e]
  simp only [laws_markStore_vAodddoo_d]
  rw [markEngine_at (e := x.1) (okE_wt (by omega)) (c := 1) (by omega) (by omega)]
  simp only
  rw [laws_markDisk_va_e]
  simp only [laws_markDisk_va_d]
  rw [markStringS_at h1 (c := 1 + cntE x.1) (by omega) (by omega)]
  simp only
  rw [markPutS_at h2 (c := 1 + cntE x.1 + (x.2.1.length : Int)) (by omega) (by omega)]
  simp only
  rw [show 1 + cntE x.1 + (x.2.1.length : Int) + 2 * (x.2.2.length : Int) = 1 + cntS x by omega]


theorem spec_InDoubt_loop {u1 u2 u3 u4 u5 u6 u7 u8} : ∀ (l : List tTxn.D) (acc : List ByteArray) (i : Nat), acc.length + l.length ≤ 1048576 →
    ∃ j : Int, ∀ K, spec_InDoubt_w0 u1 u2 u3 u4 u5 u6 u7 u8 l acc i K = K (j, acc ++ l.map (fun y => y.2.2.2.2.2.2.2))
  | [], acc, i, _ => ⟨_, fun K => by simp only [spec_InDoubt_w0, List.map_nil, List.append_nil]; rfl⟩
  | y :: l, acc, i, h => by
    simp only [List.length_cons] at h
    obtain ⟨j, hj⟩ := spec_InDoubt_loop (u1 := u1) (u2 := u2) (u3 := u3) (u4 := u4) (u5 := u5) (u6 := u6) (u7 := u7) (u8 := u8) l (acc ++ [y.2.2.2.2.2.2.2]) (i + 1) (by rw [List.length_append, List.length_singleton]; omega)
    refine ⟨j, fun K => ?_⟩
    simp only [spec_InDoubt_w0]
    rw [if_pos (by rw [List.length_singleton]; have : VE.maxLen = 4294967296 := rfl; omega), hj]
    simp only [List.map_cons, List.append_assoc, List.singleton_append]

theorem impl_InDoubt_loop {u0} : ∀ (l : List tTxn.D) (acc : List ByteArray) (i : Nat), acc.length + l.length ≤ 1048576 →
    ∃ j : Int, ∀ K, impl_InDoubt_w0 u0 l acc i K = K (j, acc ++ l.map (fun y => y.2.2.2.2.2.2.2))
  | [], acc, i, _ => ⟨_, fun K => by simp only [impl_InDoubt_w0, List.map_nil, List.append_nil]; rfl⟩
  | y :: l, acc, i, h => by
    simp only [List.length_cons] at h
    obtain ⟨j, hj⟩ := impl_InDoubt_loop (u0 := u0) l (acc ++ [y.2.2.2.2.2.2.2]) (i + 1) (by rw [List.length_append, List.length_singleton]; omega)
    refine ⟨j, fun K => ?_⟩
    simp only [impl_InDoubt_w0]
    rw [if_pos (by rw [List.length_singleton]; have : VE.maxLen = 4294967296 := rfl; omega), hj]
    simp only [List.map_cons, List.append_assoc, List.singleton_append]

def doubts (x : tStore.D) : List ByteArray := x.1.1.2.2.1.map (fun y => y.2.2.2.2.2.2.2)

theorem spec_InDoubt_is {x : tStore.D} (h : x.1.1.2.2.1.length ≤ 1048576) (k) : spec_InDoubt_k x k = k (doubts x) := by
  rw [spec_InDoubt_r (by omega)]
  obtain ⟨j, hj⟩ := spec_InDoubt_loop (u1 := x.1.1.1) (u2 := x.1.1.2.1) (u3 := x.1.1.2.2.1) (u4 := x.1.1.2.2.2.1) (u5 := x.1.1.2.2.2.2) (u6 := x.1.2) (u7 := x.2.1) (u8 := x.2.2) x.1.1.2.2.1 [] 0 (by simpa using h)
  simp only [spec_InDoubt_t, hj, List.nil_append]
  rfl

theorem impl_InDoubt_is {x : tStore.D} (h : x.1.1.2.2.1.length ≤ 1048576) (k) : impl_InDoubt_k x k = k (doubts x) := by
  rw [impl_InDoubt_r (by omega)]
  obtain ⟨j, hj⟩ := impl_InDoubt_loop (u0 := x.1.1.2.2.1) x.1.1.2.2.1 [] 0 (by simpa using h)
  simp only [impl_InDoubt_t, hj, List.nil_append]
  rfl

theorem inDoubt_end {x : tStore.D} (h : tStore.wt x ≤ 1048576) (l : List ByteArray) (hl : l.length ≤ 1048576) (he : l = doubts x) (k : Bool × List ByteArray → Option Res) :
    ∃ e, laws_FnExactInDoubt_wj5000016 false x.1.1.1 x.1.1.2.1 x.1.1.2.2.1 x.1.1.2.2.2.1 x.1.1.2.2.2.2 x.1.2 x.2.1 x.2.2 l l k = k (true, e) := by
  refine ⟨markS 1 l, ?_⟩
  have hS := wtStore x
  have hE := wtEngine x.1
  have hB := wtBase x.1.1
  have hd : x.1.1.2.2.1.length ≤ 1048576 := len_le (T := tTxn) (by omega)
  have c1 : decide (1 + (l.length : Int) < 0) = false := decide_eq_false (by omega)
  have hT := toStore_w h
  have hI := fun k => impl_InDoubt_is (x := x) hd k
  simp only [laws_FnExactInDoubt_wj5000016, markStringS_at hl (show (0:Int) ≤ 1 by omega) (show 1 + (l.length : Int) ≤ 9000000 by omega), heldStringS_at hl (show (0:Int) ≤ 1 by omega) (show 1 + (l.length : Int) ≤ 9000000 by omega), c1, cond_false, bne_self_eq_false]
  refine (hT _).trans ?_
  refine (hI _).trans ?_
  rw [← he]
  simp only [eqStringS_self hl, Bool.not_true, cond_false]

end
end Go.VE
