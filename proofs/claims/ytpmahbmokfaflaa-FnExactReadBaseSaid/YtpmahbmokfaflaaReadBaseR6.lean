/- Plain laws of the marks: what is marked in place is held. -/
import Derived.Test.YtpmahbmokfaflaaReadBaseR5
namespace Go.VE
noncomputable section
set_option linter.unusedVariables false
set_option linter.unusedSimpArgs false
set_option maxRecDepth 100000
theorem vrj (n : Int) : (vd4 [n]).size = 1 := rfl
theorem v4g : ∀ (m : Nat) (n : Int) (s : ByteArray) (q : Nat), n ≤ m → m < q → s.size + m ≤ 100000000 → Gives (vai vmo q (n, s)) (fun z => z.2.size ≤ s.size + m) := by
  intro m
  induction m with
  | zero =>
    intro n s q hn hq hs
    obtain ⟨q, rfl⟩ : ∃ r, q = r + 1 := ⟨q - 1, by omega⟩
    apply v2a
    unfold vmo
    exact vwp (fun c => by have c := of_decide_eq_true c; dsimp only at c; omega) (fun _ => vnk (ws8 (by dsimp only; omega)))
  | succ m ih =>
    intro n s q hn hq hs
    obtain ⟨q, rfl⟩ : ∃ r, q = r + 1 := ⟨q - 1, by omega⟩
    apply v2a
    unfold vmo
    refine vwp (fun c => v7o ?_ (vnk (wxg ?_))) (fun _ => vnk (ws8 (by dsimp only; omega)))
    · rw [vrj]; dsimp only; omega
    · have c := of_decide_eq_true c
      dsimp only at c
      have e : n.tdiv 10 = n / 10 := Int.tdiv_eq_ediv_of_nonneg (by omega)
      dsimp only
      rw [e, vax (by omega) (by omega)]
      refine (ih (n / 10) _ q (by omega) (by omega) (by rw [ByteArray.size_append, vrj]; omega)).mono (fun z hz => ?_)
      rw [ByteArray.size_append, vrj] at hz
      omega
theorem wge {n : Int} (h : n ≤ 10000000) : Gives (vcp n) (fun _ => True) := by
  rw [wi1]
  unfold wbq
  refine vwp (fun _ => vnk trivial) (fun _ => (v4g 10000000 n _ Fuel (by omega) (by have := vbq; omega) (by decide)).bind (fun z hz => v7o ?_ (vnk trivial)))
  have : (⟨#[109]⟩ : ByteArray).size = 1 := rfl
  have : (⟨#[]⟩ : ByteArray).size = 0 := rfl
  omega
open Classical in
def vmv (n : Int) : ByteArray := if h : ∃ v, ∀ k, vcp n k = k v then Classical.choose h else ⟨#[]⟩
theorem vbw {n : Int} (h : n ≤ 10000000) (k) : vcp n k = k (vmv n) := by
  obtain ⟨v, _, hv⟩ := wge h
  have h1 : ∃ v, ∀ k, vcp n k = k v := ⟨v, hv⟩
  unfold vmv
  rw [dif_pos h1]
  exact Classical.choose_spec h1 k
theorem v3y {α : Type} (pre : List α) (y v : α) (l : List α) : (pre ++ y :: l).set pre.length v = pre ++ v :: l := by simp
theorem vv2 {α : Type} (pre : List α) (y d : α) (l : List α) : (pre ++ y :: l).getD pre.length d = y := by simp [List.getD]
def vul : Int → List tRange.D → List tRange.D
  | _, [] => []
  | c, y :: l => (vmv c, vmv (c + 1)) :: vul (c + 2) l
theorem vnb : ∀ (l pre : List tRange.D) (c : Int) (q : Nat), 0 ≤ c → c + 2 * l.length ≤ 9000000 → pre.length + l.length ≤ 1048576 → l.length < q →
    ∃ j : Int, ∀ k, vai vmf q (c, (pre.length : Int), pre ++ l) k = k (c + 2 * l.length, j, pre ++ vul c l)
  | [], pre, c, q, h0, hc, hl, hq => by
    obtain ⟨q, rfl⟩ : ∃ r, q = r + 1 := ⟨q - 1, by omega⟩
    refine ⟨pre.length, fun k => ?_⟩
    simp only [vai, vmf, List.append_nil, Int.lt_irrefl, decide_false, cond_false, Sum.elim_inr, List.length_nil, vul]
    simp
  | y :: l, pre, c, q, h0, hc, hl, hq => by
    obtain ⟨q, rfl⟩ : ∃ r, q = r + 1 := ⟨q - 1, by omega⟩
    simp only [List.length_cons] at hc hl hq
    obtain ⟨j, hj⟩ := vnb l (pre ++ [(vmv c, vmv (c + 1))]) (c + 2) q (by omega) (by omega) (by rw [List.length_append, List.length_singleton]; omega) (by omega)
    refine ⟨j, fun k => ?_⟩
    have hlt : (pre.length : Int) < ((pre ++ y :: l).length : Int) := by rw [List.length_append, List.length_cons]; omega
    have hlt2 : ∀ v : tRange.D, (pre.length : Int) < ((pre ++ v :: l).length : Int) := fun v => by rw [List.length_append, List.length_cons]; omega
    have w1 : IntKind.wrap .i64 (c + 1) = c + 1 := vax (by omega) (by omega)
    have w2 : IntKind.wrap .i64 (c + 1 + 1) = c + 2 := by rw [vax (by omega) (by omega)]; omega
    have w3 : IntKind.wrap .i64 ((pre.length : Int) + 1) = ((pre.length + 1 : Nat) : Int) := vbl (by omega)
    have hp : (0 : Int) ≤ (pre.length : Int) := Int.natCast_nonneg _
    have hj' := hj k
    rw [List.length_append, List.length_singleton, List.append_assoc, List.singleton_append, List.append_assoc, List.singleton_append] at hj'
    simp only [vai, vmf, hlt, decide_true, cond_true, vbw (show c ≤ 10000000 by omega), w1, vbw (show c + 1 ≤ 10000000 by omega), Int.toNat_natCast, v3y, vv2, hlt2, hp, and_self, if_true, w2, w3, Sum.elim_inl]
    rw [hj']
    simp only [vul, List.length_cons]
    congr 2
    push_cast
    omega
def vuk : Int → List tWrite.D → List tWrite.D
  | _, [] => []
  | c, y :: l => (vmv c, (vmv (c + 1), ((c + 2).tmod 3 == 0))) :: vuk (c + 3) l
theorem vm1 : ∀ (l pre : List tWrite.D) (c : Int) (q : Nat), 0 ≤ c → c + 3 * l.length ≤ 9000000 → pre.length + l.length ≤ 1048576 → l.length < q →
    ∃ j : Int, ∀ k, vai vm8 q (c, (pre.length : Int), pre ++ l) k = k (c + 3 * l.length, j, pre ++ vuk c l)
  | [], pre, c, q, h0, hc, hl, hq => by
    obtain ⟨q, rfl⟩ : ∃ r, q = r + 1 := ⟨q - 1, by omega⟩
    refine ⟨pre.length, fun k => ?_⟩
    simp only [vai, vm8, List.append_nil, Int.lt_irrefl, decide_false, cond_false, Sum.elim_inr, List.length_nil, vuk]
    simp
  | y :: l, pre, c, q, h0, hc, hl, hq => by
    obtain ⟨q, rfl⟩ : ∃ r, q = r + 1 := ⟨q - 1, by omega⟩
    simp only [List.length_cons] at hc hl hq
    obtain ⟨j, hj⟩ := vm1 l (pre ++ [(vmv c, (vmv (c + 1), ((c + 2).tmod 3 == 0)))]) (c + 3) q (by omega) (by omega) (by rw [List.length_append, List.length_singleton]; omega) (by omega)
    refine ⟨j, fun k => ?_⟩
    have hlt : (pre.length : Int) < ((pre ++ y :: l).length : Int) := by rw [List.length_append, List.length_cons]; omega
    have hlt2 : ∀ v : tWrite.D, (pre.length : Int) < ((pre ++ v :: l).length : Int) := fun v => by rw [List.length_append, List.length_cons]; omega
    have w1 : IntKind.wrap .i64 (c + 1) = c + 1 := vax (by omega) (by omega)
    have w2 : IntKind.wrap .i64 (c + 1 + 1) = c + 2 := by rw [vax (by omega) (by omega)]; omega
    have w4 : IntKind.wrap .i64 (c + 2 + 1) = c + 3 := by rw [vax (by omega) (by omega)]; omega
    have w3 : IntKind.wrap .i64 ((pre.length : Int) + 1) = ((pre.length + 1 : Nat) : Int) := vbl (by omega)
    have hp : (0 : Int) ≤ (pre.length : Int) := Int.natCast_nonneg _
    have hj' := hj k
    rw [List.length_append, List.length_singleton, List.append_assoc, List.singleton_append, List.append_assoc, List.singleton_append] at hj'
    simp only [vai, vm8, hlt, decide_true, cond_true, vbw (show c ≤ 10000000 by omega), w1, vbw (show c + 1 ≤ 10000000 by omega), Int.toNat_natCast, v3y, vv2, hlt2, hp, and_self, if_true, w2, w3, w4, Sum.elim_inl]
    rw [hj']
    simp only [vuk, List.length_cons]
    congr 2
    push_cast
    omega
theorem vnj {u0 u2} : ∀ (l : List tRange.D) (c : Int) (i : Nat), 0 ≤ c → c + 2 * l.length ≤ 9000000 → ∃ j : Int, ∀ k, vk5 u0 u2 (vul c l) c i k = k (.inr (c + 2 * l.length, j))
  | [], c, i, _, _ => ⟨_, fun k => by simp only [vul, vk5, List.length_nil]; simp; rfl⟩
  | y :: l, c, i, h0, hc => by
    simp only [List.length_cons] at hc
    obtain ⟨j, hj⟩ := vnj (u0 := u0) (u2 := u2) l (c + 2) (i + 1) (by omega) (by omega)
    have w1 : IntKind.wrap .i64 (c + 1) = c + 1 := vax (by omega) (by omega)
    have w2 : IntKind.wrap .i64 (c + 1 + 1) = c + 2 := by rw [vax (by omega) (by omega)]; omega
    refine ⟨j, fun k => ?_⟩
    simp only [vul, vk5, vbw (show c ≤ 10000000 by omega), w1, vbw (show c + 1 ≤ 10000000 by omega), vdp, Bool.not_true, cond_false, w2, hj, List.length_cons]
    congr 3
    push_cast
    omega
theorem vno {u0 u2} : ∀ (l : List tWrite.D) (c : Int) (i : Nat), 0 ≤ c → c + 3 * l.length ≤ 9000000 → ∃ j : Int, ∀ k, vln u0 u2 (vuk c l) c i k = k (.inr (c + 3 * l.length, j))
  | [], c, i, _, _ => ⟨_, fun k => by simp only [vuk, vln, List.length_nil]; simp; rfl⟩
  | y :: l, c, i, h0, hc => by
    simp only [List.length_cons] at hc
    obtain ⟨j, hj⟩ := vno (u0 := u0) (u2 := u2) l (c + 3) (i + 1) (by omega) (by omega)
    have w1 : IntKind.wrap .i64 (c + 1) = c + 1 := vax (by omega) (by omega)
    have w2 : IntKind.wrap .i64 (c + 1 + 1) = c + 2 := by rw [vax (by omega) (by omega)]; omega
    have w4 : IntKind.wrap .i64 (c + 2 + 1) = c + 3 := by rw [vax (by omega) (by omega)]; omega
    refine ⟨j, fun k => ?_⟩
    simp only [vuk, vln, vbw (show c ≤ 10000000 by omega), w1, vbw (show c + 1 ≤ 10000000 by omega), vdp, Bool.not_true, cond_false, w2, w4, hj, List.length_cons, beq_self_eq_true]
    congr 3
    push_cast
    omega
end
end Go.VE
