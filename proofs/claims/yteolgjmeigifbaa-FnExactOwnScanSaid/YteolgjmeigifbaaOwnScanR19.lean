/- Plain laws: what scans see. -/
import Derived.Test.YteolgjmeigifbaaOwnScanR18
namespace Go.VE
noncomputable section
set_option linter.unusedVariables false
set_option linter.unusedSimpArgs false
set_option maxRecDepth 100000

theorem keys_b2 {u0 : List tVersion.D} {u1 : Int} {ky r1 r2 : ByteArray} {out : List ByteArray} (ho : out.length ≤ 1048576) : ∀ (l acc : List ByteArray) (j q : Nat), out.drop j = l → l.length < q → acc.length + l.length ≤ 3000000 → ∃ j' : Int, ∀ K,
    loopK spec_l06Keys_b2 q (u0, u1, ky, (j : Int), r1, r2, out, acc) K = K (u0, u1, ky, j', r1, r2, out, acc ++ l.filter fun y => strLess y ky)
  | l, acc, j, 0, _, h, _ => by omega
  | [], acc, j, q + 1, hd, _, _ => by
    have hge := lwl_nil hd
    refine ⟨(j : Int), fun K => ?_⟩
    simp only [loopK, spec_l06Keys_b2, hge, decide_false, cond_false, Sum.elim_inr, List.filter_nil, List.append_nil]
  | y :: l, acc, j, q + 1, hd, hq, ha => by
    simp only [List.length_cons] at ha
    have hlt := drop_lt hd
    have hy : out.getD j (Ty.zero .str) = y := (lwl_get hd).2 _
    have w : IntKind.wrap .i64 ((j : Int) + 1) = ((j + 1 : Nat) : Int) := wrap_succ (by omega)
    have c1 : (j : Int) < (out.length : Int) := by omega
    have c2 : (0 : Int) ≤ (j : Int) := by omega
    have hm : acc.length + [y].length ≤ VE.maxLen := by show _ ≤ 4294967296; simp; omega
    cases he : strLess y ky
    · obtain ⟨j', hj⟩ := keys_b2 (u0 := u0) (u1 := u1) (ky := ky) (r1 := r1) (r2 := r2) ho l acc (j + 1) q (drop_succ hd) (by simpa using hq) (by omega)
      refine ⟨j', fun K => ?_⟩
      simp only [loopK, spec_l06Keys_b2, c1, c2, decide_true, cond_true, and_self, if_true, Int.toNat_natCast, hy, he, cond_false, Sum.elim_inl, w, List.filter_cons]
      exact hj K
    · obtain ⟨j', hj⟩ := keys_b2 (u0 := u0) (u1 := u1) (ky := ky) (r1 := r1) (r2 := r2) ho l (acc ++ [y]) (j + 1) q (drop_succ hd) (by simpa using hq) (by simp; omega)
      refine ⟨j', fun K => ?_⟩
      simp only [loopK, spec_l06Keys_b2, c1, c2, decide_true, cond_true, and_self, if_true, Int.toNat_natCast, hy, he, if_pos hm, Sum.elim_inl, w, List.filter_cons]
      rw [hj K, List.append_assoc, List.singleton_append]

theorem keys_b4 {u0 : List tVersion.D} {u1 : Int} {ky r1 r2 : ByteArray} {out : List ByteArray} (ho : out.length ≤ 1048576) : ∀ (l acc : List ByteArray) (j q : Nat), out.drop j = l → l.length < q → acc.length + l.length ≤ 3000000 → ∃ j' : Int, ∀ K,
    loopK spec_l06Keys_b4 q (u0, u1, ky, (j : Int), r1, r2, out, acc) K = K (u0, u1, ky, j', r1, r2, out, acc ++ l.filter fun y => !(strLess y ky || strEq y ky))
  | l, acc, j, 0, _, h, _ => by omega
  | [], acc, j, q + 1, hd, _, _ => by
    have hge := lwl_nil hd
    refine ⟨(j : Int), fun K => ?_⟩
    simp only [loopK, spec_l06Keys_b4, hge, decide_false, cond_false, Sum.elim_inr, List.filter_nil, List.append_nil]
  | y :: l, acc, j, q + 1, hd, hq, ha => by
    simp only [List.length_cons] at ha
    have hlt := drop_lt hd
    have hy : out.getD j (Ty.zero .str) = y := (lwl_get hd).2 _
    have w : IntKind.wrap .i64 ((j : Int) + 1) = ((j + 1 : Nat) : Int) := wrap_succ (by omega)
    have c1 : (j : Int) < (out.length : Int) := by omega
    have c2 : (0 : Int) ≤ (j : Int) := by omega
    have hm : acc.length + [y].length ≤ VE.maxLen := by show _ ≤ 4294967296; simp; omega
    cases he : (!(strLess y ky || strEq y ky))
    · obtain ⟨j', hj⟩ := keys_b4 (u0 := u0) (u1 := u1) (ky := ky) (r1 := r1) (r2 := r2) ho l acc (j + 1) q (drop_succ hd) (by simpa using hq) (by omega)
      refine ⟨j', fun K => ?_⟩
      simp only [loopK, spec_l06Keys_b4, c1, c2, decide_true, cond_true, and_self, if_true, Int.toNat_natCast, hy, he, cond_false, Sum.elim_inl, w, List.filter_cons]
      exact hj K
    · obtain ⟨j', hj⟩ := keys_b4 (u0 := u0) (u1 := u1) (ky := ky) (r1 := r1) (r2 := r2) ho l (acc ++ [y]) (j + 1) q (drop_succ hd) (by simpa using hq) (by simp; omega)
      refine ⟨j', fun K => ?_⟩
      simp only [loopK, spec_l06Keys_b4, c1, c2, decide_true, cond_true, and_self, if_true, Int.toNat_natCast, hy, he, if_pos hm, Sum.elim_inl, w, List.filter_cons]
      rw [hj K, List.append_assoc, List.singleton_append]

/-- An ascending list of keys out of others is no longer than they. -/
theorem asc_length : ∀ {l m : List ByteArray}, Asc l → (∀ x ∈ l, x ∈ m) → l.length ≤ m.length := by
  intro l m h hm
  have nd : l.Nodup := by
    refine List.Pairwise.imp ?_ h
    intro a b hab e
    rw [e, strLess_irrV] at hab
    cases hab
  exact List.Nodup.length_le_of_subset nd hm

theorem keys_b0 {u0 : List tVersion.D} (hu : u0.length ≤ 1048576) {r : tRange.D} : ∀ (l : List tVersion.D) (out : List ByteArray) (i q : Nat), u0.drop i = l → l.length < q → Asc out → (∀ x ∈ out, x ∈ u0.map fun v => v.1) → ∃ j : Int, ∀ K,
    loopK spec_l06Keys_b0 q (u0, (i : Int), r.1, r.2, out) K = K (u0, j, r.1, r.2, keysS r l out)
  | l, out, i, 0, _, h, _, _ => by omega
  | [], out, i, q + 1, hd, _, _, _ => by
    have hge := lwl_nil hd
    refine ⟨(i : Int), fun K => ?_⟩
    simp only [loopK, spec_l06Keys_b0, hge, decide_false, cond_false, Sum.elim_inr, keysS]
  | y :: l, out, i, q + 1, hd, hq, ha, hsub => by
    have hlt := drop_lt hd
    have hy : rd (Ty.zero tVersion) u0 (i : Int) = y := (lwl_get hd).1 _
    have w : IntKind.wrap .i64 ((i : Int) + 1) = ((i + 1 : Nat) : Int) := wrap_succ (by omega)
    have c1 : (i : Int) < (u0.length : Int) := by omega
    have c2 : (0 : Int) ≤ (i : Int) := by omega
    have hol : out.length ≤ 1048576 := by
      have := asc_length ha hsub
      rw [List.length_map] at this
      omega
    have hin : ∀ k, spec_InRange_k (r.1, r.2) y.1 k = k (inRangeB r y.1) := fun k => spec_InRange_is r y.1 k
    simp only [keysS]
    cases hr : inRangeB r y.1
    · obtain ⟨j, hj⟩ := keys_b0 hu (r := r) l out (i + 1) q (drop_succ hd) (by simpa using hq) ha hsub
      refine ⟨j, fun K => ?_⟩
      simp only [loopK, spec_l06Keys_b0, c1, c2, decide_true, cond_true, and_self, if_true, hy, hin, hr, Bool.not_false, Sum.elim_inl, w, cond_false]
      exact hj K
    · obtain ⟨j1, h1⟩ := keys_b2 (u0 := u0) (u1 := (i : Int)) (ky := y.1) (r1 := r.1) (r2 := r.2) (out := out) (by omega) out [] 0 Fuel rfl (Nat.lt_of_lt_of_le (by omega) fuel_big) (by simp; omega)
      have hfl := List.length_filter_le (fun z => strLess z y.1) out
      obtain ⟨j2, h2⟩ := keys_b4 (u0 := u0) (u1 := (i : Int)) (ky := y.1) (r1 := r.1) (r2 := r.2) (out := out) (by omega) out ((out.filter fun z => strLess z y.1) ++ [y.1]) 0 Fuel rfl (Nat.lt_of_lt_of_le (by omega) fuel_big) (by simp; omega)
      have hz : ((0 : Nat) : Int) = 0 := rfl
      rw [hz] at h1 h2
      obtain ⟨a1, a2⟩ := insK_asc ha y.1
      obtain ⟨j, hj⟩ := keys_b0 hu (r := r) l (insK out y.1) (i + 1) q (drop_succ hd) (by simpa using hq) a1 (fun x hx => by
        rcases (a2 x).1 hx with e | e
        · rw [e]; exact List.mem_map.2 ⟨y, mem_of_drop hd, rfl⟩
        · exact hsub x e)
      refine ⟨j, fun K => ?_⟩
      have hm : (out.filter fun z => strLess z y.1).length + [y.1].length ≤ VE.maxLen := by show _ ≤ 4294967296; simp only [List.length_singleton]; omega
      simp only [loopK, spec_l06Keys_b0, c1, c2, decide_true, cond_true, and_self, if_true, hy, hin, hr, Bool.not_true, cond_false, h1, List.nil_append, if_pos hm, h2, Sum.elim_inl, w]
      have e : (out.filter fun z => strLess z y.1) ++ [y.1] ++ (out.filter fun z => !(strLess z y.1 || strEq z y.1)) = insK out y.1 := by unfold insK; rw [List.append_assoc, List.singleton_append]
      rw [e]
      exact hj K

theorem spec_l06Keys_is {l : List tVersion.D} (hl : l.length ≤ 1048576) (r : tRange.D) (k) : spec_l06Keys_k l r k = k (keysS r l []) := by
  rw [spec_l06Keys_e]
  unfold spec_l06Keys_d
  obtain ⟨j, hj⟩ := keys_b0 hl (r := r) l [] 0 Fuel rfl (Nat.lt_of_lt_of_le (by omega) fuel_big) List.Pairwise.nil (fun x h => by cases h)
  have hz : ((0 : Nat) : Int) = 0 := rfl
  rw [hz] at hj
  rw [hj]

theorem filterMap_filter' {α β : Type} (p : α → Bool) (f : α → Option β) : ∀ l : List α, l.filterMap (fun x => bif p x then f x else none) = (l.filter p).filterMap f
  | [] => rfl
  | x :: l => by
    simp only [List.filterMap_cons, List.filter_cons, filterMap_filter' p f l]
    cases p x <;> rfl

theorem keysS_length {l : List tVersion.D} (r : tRange.D) : (keysS r l []).length ≤ l.length := by
  obtain ⟨k1, k2⟩ := keysS_asc r l [] List.Pairwise.nil
  have := asc_length (m := l.map fun v => v.1) k1 (fun x hx => by
    rcases (k2 x).1 hx with e | e
    · cases e
    · exact e.2)
  rw [List.length_map] at this
  exact this
theorem keysI_length (l : List tVersion.D) : (keysI l).length ≤ l.length := by
  obtain ⟨s1, s2⟩ := sortL_asc (l.map fun v => v.1)
  obtain ⟨d1, d2⟩ := dd_asc s1
  have := asc_length (m := l.map fun v => v.1) d1 (fun x hx => (s2 x).1 ((d2 x).1 hx))
  rw [List.length_map] at this
  exact this
end
end Go.VE
