/- Plain laws: an engine and a record are right. -/
import Derived.Test.YteolgjmeigifbaaBeginR10
namespace Go.VE
noncomputable section
set_option linter.unusedVariables false
set_option linter.unusedSimpArgs false
set_option maxRecDepth 100000
theorem wop {a b c : List tTxn.D} (ha : a.length ≤ 1048577) (hb : b.length ≤ 1048577) (hc : c.length ≤ 1048577) (f) : vli [a, b, c] (Sum.elim f f) = f (a ++ (b ++ c)) := by
  rw [wdo (by simp) (by simp; omega)]
  simp
/-- What is open: right, numbers ascending. -/
def vhd (cs : Int) : Option tTxn.D → List tTxn.D → Bool
  | _, [] => true
  | p, y :: l => vd0 y && (y.2.1 == 1) && decide (y.2.2.1 ≤ cs) && (match p with | none => true | some x => decide (x.1 < y.1)) && vhd cs (some y) l
def vkp (y : Int) (l : List tTxn.D) : Bool := !(l.any fun z => z.1 == y)
def vph (cs nx : Int) (p r : List tTxn.D) : Option tTxn.D → List tTxn.D → Bool
  | _, [] => true
  | o, y :: l => vd0 y && (y.2.1 == 1) && decide (y.1 < nx) && decide (y.2.2.1 ≤ cs) && (match o with | none => true | some x => decide (x.1 < y.1)) && vkp y.1 p && vkp y.1 r && vph cs nx p r (some y) l
theorem vzc {u9 : List tTxn.D} (hu : ∀ y ∈ u9, tTxn.wt y ≤ 1048576) (hl : u9.length ≤ 1048576) {u0 u1 u4 u5 u6 u7 u8} : ∀ (l : List tTxn.D) (i : Nat), u9.drop i = l → ∃ j : Int, ∀ k,
    vla u0 u1 u4 u5 u6 u7 u8 u9 l i k = k (bif vhd u7 (if i = 0 then none else some (u9.getD (i - 1) (Ty.zero tTxn))) l then .inr j else .inl (false, j))
  | [], i, _ => ⟨_, fun k => rfl⟩
  | y :: l, i, h => by
    obtain ⟨j, hj⟩ := vzc hu hl (u0 := u0) (u1 := u1) (u4 := u4) (u5 := u5) (u6 := u6) (u7 := u7) (u8 := u8) l (i + 1) (vbj h)
    have hlt := vca h
    have hy := (vaw h).2 (Ty.zero tTxn)
    rw [if_neg (by omega), show i + 1 - 1 = i by omega, hy] at hj
    have hcs : decide (y.2.2.1 > u7) = !decide (y.2.2.1 ≤ u7) := by rw [Bool.eq_iff_iff]; simp
    have hb : (y.2.1 != 1) = !(y.2.1 == 1) := rfl
    simp only [vla, v6c (hu y (vbx h)), hj, vhd, hcs, hb]
    by_cases hi : i = 0
    · subst hi
      simp only [if_pos, show ¬ ((0 : Nat) : Int) > 0 by omega, decide_false, cond_false, Bool.and_true]
      cases vd0 y <;> cases (y.2.1 == 1) <;> cases decide (y.2.2.1 ≤ u7) <;> first | (refine ⟨((0 : Nat) : Int), fun k => ?_⟩; simp; done) | (refine ⟨j, fun k => ?_⟩; simp; done)
    · have hw : IntKind.wrap .i64 ((i : Int) - 1) = ((i - 1 : Nat) : Int) := by rw [vbb (by omega) (by omega)]; omega
      have hrd : rd (Ty.zero tTxn) u9 ((i - 1 : Nat) : Int) = u9.getD (i - 1) (Ty.zero tTxn) := rfl
      simp only [if_neg hi, show (i : Int) > 0 by omega, decide_true, cond_true, hw, hrd, if_pos (show 0 ≤ ((i - 1 : Nat) : Int) ∧ ((i - 1 : Nat) : Int) < (u9.length : Int) by omega)]
      generalize u9.getD (i - 1) (Ty.zero tTxn) = x
      have hge : decide (x.1 ≥ y.1) = !decide (x.1 < y.1) := by rw [Bool.eq_iff_iff]; simp
      rw [hge]
      cases vd0 y <;> cases (y.2.1 == 1) <;> cases decide (y.2.2.1 ≤ u7) <;> cases decide (x.1 < y.1) <;> first | (refine ⟨(i : Int), fun k => ?_⟩; simp; done) | (refine ⟨j, fun k => ?_⟩; simp; done)
theorem vz8 {u0 u1 u3 u4 u5 u6 u7 u8 u9 u10 u11 u12 u13 u14 u15 u16} : ∀ (l : List tTxn.D) (i : Nat), ∃ j : Int, ∀ k,
    vl8 u0 u1 u3 u4 u5 u6 u7 u8 u9 u10 u11 u12 u13 u14 u15 u16 l i k = k (bif vkp u9 l then .inr j else .inl (false, j))
  | [], i => ⟨_, fun k => rfl⟩
  | y :: l, i => by
    obtain ⟨j, hj⟩ := vz8 (u0 := u0) (u1 := u1) (u3 := u3) (u4 := u4) (u5 := u5) (u6 := u6) (u7 := u7) (u8 := u8) (u9 := u9) (u10 := u10) (u11 := u11) (u12 := u12) (u13 := u13) (u14 := u14) (u15 := u15) (u16 := u16) l (i + 1)
    unfold vkp at hj ⊢
    simp only [vl8, hj, List.any_cons]
    cases (y.1 == u9)
    · exact ⟨j, fun k => rfl⟩
    · exact ⟨(i : Int), fun k => rfl⟩
theorem vz4 {u0 u1 u3 u4 u5 u6 u7 u8 u9 u10 u11 u12 u13 u14 u15 u16} : ∀ (l : List tTxn.D) (i : Nat), ∃ j : Int, ∀ k,
    vmr u0 u1 u3 u4 u5 u6 u7 u8 u9 u10 u11 u12 u13 u14 u15 u16 l i k = k (bif vkp u9 l then .inr j else .inl (false, j))
  | [], i => ⟨_, fun k => rfl⟩
  | y :: l, i => by
    obtain ⟨j, hj⟩ := vz4 (u0 := u0) (u1 := u1) (u3 := u3) (u4 := u4) (u5 := u5) (u6 := u6) (u7 := u7) (u8 := u8) (u9 := u9) (u10 := u10) (u11 := u11) (u12 := u12) (u13 := u13) (u14 := u14) (u15 := u15) (u16 := u16) l (i + 1)
    unfold vkp at hj ⊢
    simp only [vmr, hj, List.any_cons]
    cases (y.1 == u9)
    · exact ⟨j, fun k => rfl⟩
    · exact ⟨(i : Int), fun k => rfl⟩
theorem wfl {u0 u1 u2 u3 u4 u5 u6 u7 u8 u9 u10 u11 u12 u13 u14 u15} (k) :
    vc8 u0 u1 u2 u3 u4 u5 u6 u7 u8 u9 u10 u11 u12 u13 u14 u15 k = k (bif vkp u8 u3 && vkp u8 u4 then .inr () else .inl false) := by
  unfold vc8
  obtain ⟨j, hj⟩ := vz8 (u0 := u0) (u1 := u1) (u3 := u2) (u4 := u3) (u5 := u4) (u6 := u5) (u7 := u6) (u8 := u7) (u9 := u8) (u10 := u9) (u11 := u10) (u12 := u11) (u13 := u12) (u14 := u13) (u15 := u14) (u16 := u15) u3 0
  obtain ⟨j2, hj2⟩ := vz4 (u0 := u0) (u1 := u1) (u3 := u2) (u4 := u3) (u5 := u4) (u6 := u5) (u7 := u6) (u8 := u7) (u9 := u8) (u10 := u9) (u11 := u10) (u12 := u11) (u13 := u12) (u14 := u13) (u15 := u14) (u16 := u15) u4 0
  rw [hj]
  cases vkp u8 u3
  · rfl
  · simp only [cond_true, Sum.elim_inr, hj2, Bool.true_and]
    cases vkp u8 u4 <;> rfl
theorem vzs {u7 : List tTxn.D} (hu : ∀ y ∈ u7, tTxn.wt y ≤ 1048576) (hl : u7.length ≤ 1048576) {u0 u2 u3 u4 u5 u6} : ∀ (l : List tTxn.D) (i : Nat), u7.drop i = l → ∃ j : Int, ∀ k,
    vka u0 u2 u3 u4 u5 u6 u7 l i k = k (bif vph u5 u6 u3 u4 (if i = 0 then none else some (u7.getD (i - 1) (Ty.zero tTxn))) l then .inr j else .inl (false, j))
  | [], i, _ => ⟨_, fun k => rfl⟩
  | y :: l, i, h => by
    obtain ⟨j, hj⟩ := vzs hu hl (u0 := u0) (u2 := u2) (u3 := u3) (u4 := u4) (u5 := u5) (u6 := u6) l (i + 1) (vbj h)
    have hlt := vca h
    have hy := (vaw h).2 (Ty.zero tTxn)
    rw [if_neg (by omega), show i + 1 - 1 = i by omega, hy] at hj
    have hcs : decide (y.2.2.1 > u5) = !decide (y.2.2.1 ≤ u5) := by rw [Bool.eq_iff_iff]; simp
    have hnx : decide (y.1 ≥ u6) = !decide (y.1 < u6) := by rw [Bool.eq_iff_iff]; simp
    have hb : (y.2.1 != 1) = !(y.2.1 == 1) := rfl
    simp only [vka, v6t (hu y (vbx h)), wfl, hj, vph, hcs, hnx, hb]
    by_cases hi : i = 0
    · subst hi
      simp only [if_pos, show ¬ ((0 : Nat) : Int) > 0 by omega, decide_false, cond_false, Bool.and_true]
      cases vd0 y <;> cases (y.2.1 == 1) <;> cases decide (y.1 < u6) <;> cases decide (y.2.2.1 ≤ u5) <;> cases vkp y.1 u3 <;> cases vkp y.1 u4 <;> first | (refine ⟨((0 : Nat) : Int), fun k => ?_⟩; simp; done) | (refine ⟨j, fun k => ?_⟩; simp; done)
    · have hw : IntKind.wrap .i64 ((i : Int) - 1) = ((i - 1 : Nat) : Int) := by rw [vbb (by omega) (by omega)]; omega
      have hrd : rd (Ty.zero tTxn) u7 ((i - 1 : Nat) : Int) = u7.getD (i - 1) (Ty.zero tTxn) := rfl
      simp only [if_neg hi, show (i : Int) > 0 by omega, decide_true, cond_true, hw, hrd, if_pos (show 0 ≤ ((i - 1 : Nat) : Int) ∧ ((i - 1 : Nat) : Int) < (u7.length : Int) by omega)]
      generalize u7.getD (i - 1) (Ty.zero tTxn) = x
      have hge : decide (x.1 ≥ y.1) = !decide (x.1 < y.1) := by rw [Bool.eq_iff_iff]; simp
      rw [hge]
      cases vd0 y <;> cases (y.2.1 == 1) <;> cases decide (y.1 < u6) <;> cases decide (y.2.2.1 ≤ u5) <;> cases decide (x.1 < y.1) <;> cases vkp y.1 u3 <;> cases vkp y.1 u4 <;> first | (refine ⟨(i : Int), fun k => ?_⟩; simp; done) | (refine ⟨j, fun k => ?_⟩; simp; done)
theorem vn8 (nx : Int) : ∀ (A pre B : List Int), vdb nx pre (A ++ B) = (vdb nx pre A && vdb nx (pre ++ A) B)
  | [], pre, B => by simp [vdb]
  | y :: A, pre, B => by
    simp only [List.cons_append, vdb, vn8 nx A (pre ++ [y]) B, List.append_assoc, List.nil_append, Bool.and_assoc]
theorem vtk (cs nx : Int) (P : List Int) : ∀ (l : List tTxn.D) (Q : List Int) (o : Option tTxn.D), (∀ x, o = some x → ∀ q ∈ Q, q ≤ x.1) → (o = none → Q = []) → vhd cs o l = true →
    vdb nx (P ++ Q) (l.map (·.1)) = l.all (fun y => decide (y.1 < nx) && !(P.any fun z => z == y.1))
  | [], Q, o, _, _, _ => rfl
  | y :: l, Q, o, h1, h2, h => by
    simp only [vhd, Bool.and_eq_true] at h
    have hQ : ∀ q ∈ Q, q < y.1 := by
      intro q hq
      cases o with
      | none => rw [h2 rfl] at hq; cases hq
      | some x =>
        have a1 := h1 x rfl q hq
        have a2 : x.1 < y.1 := of_decide_eq_true h.1.2
        exact Int.lt_of_le_of_lt a1 a2
    have hno : (Q.any fun z => z == y.1) = false := by
      rw [List.any_eq_false]
      intro q hq hc
      have a1 := hQ q hq
      have : q = y.1 := by simpa using hc
      omega
    have ih := vtk cs nx P l (Q ++ [y.1]) (some y) (fun x hx q hq => by
      cases hx
      rcases List.mem_append.1 hq with hq | hq
      · exact Int.le_of_lt (hQ q hq)
      · rw [List.mem_singleton] at hq; omega) (fun h => by cases h) h.2
    simp only [List.map_cons, vdb, List.all_cons, List.any_append, hno, Bool.or_false]
    rw [List.append_assoc, ih]
theorem vzw (cs nx : Int) (p r : List tTxn.D) : ∀ (l : List tTxn.D) (o : Option tTxn.D), vph cs nx p r o l = (vhd cs o l && l.all (fun y => decide (y.1 < nx) && !((p.map (·.1) ++ r.map (·.1)).any fun z => z == y.1)))
  | [], o => rfl
  | y :: l, o => by
    have e : (!((p.map (·.1) ++ r.map (·.1)).any fun z => z == y.1)) = (vkp y.1 p && vkp y.1 r) := by
      unfold vkp
      rw [List.any_append, List.any_map, List.any_map, Bool.not_or]; rfl
    simp only [vph, vhd, List.all_cons, vzw cs nx p r l (some y), e]
    generalize vhd cs (some y) l = c1
    generalize (match o with | none => true | some x => decide (x.1 < y.1)) = c2
    generalize (l.all fun y => decide (y.1 < nx) && !((p.map (·.1) ++ r.map (·.1)).any fun z => z == y.1)) = c3
    cases vd0 y <;> cases (y.2.1 == 1) <;> cases decide (y.1 < nx) <;> cases decide (y.2.2.1 ≤ cs) <;> cases c2 <;> cases vkp y.1 p <;> cases vkp y.1 r <;> cases c1 <;> cases c3 <;> rfl
def vem (e : tEngine.D) : Bool := vje e.1 && decide ((e.2.length : Int) ≤ 4) && vph e.1.2.2.2.1 e.1.2.2.2.2 e.1.2.1 e.1.2.2.1 none e.2
theorem wu0 {e : tEngine.D} (he : tEngine.wt e ≤ 1048576) (k) : vwx e k = k (vem e) := by
  rw [vkb] at he
  have hb : tBase.wt e.1 ≤ 1048576 := by omega
  have ho : (Ty.slice tTxn).wt e.2 ≤ 1048576 := by omega
  obtain ⟨h1, h2, h3⟩ := vql hb
  have l2 := vb1 h2
  have l3 := vb1 h3
  have l4 := vb1 ho
  rw [wx5 (by omega) (by omega) (by omega)]
  unfold wgl vem
  have hs : decide ((e.2.length : Int) > 4) = !decide ((e.2.length : Int) ≤ 4) := by rw [Bool.eq_iff_iff]; simp
  simp only [wvn hb, hs]
  cases vje e.1
  · rfl
  cases decide ((e.2.length : Int) ≤ 4)
  · rfl
  obtain ⟨j, hj⟩ := vzs (u7 := e.2) (fun y hy => vbt hy ho) l4 (u0 := false) (u2 := e.1.1) (u3 := e.1.2.1) (u4 := e.1.2.2.1) (u5 := e.1.2.2.2.1) (u6 := e.1.2.2.2.2) e.2 0 rfl
  simp only [Bool.not_true, cond_false, vgd, hj, if_true, Bool.true_and]
  cases vph e.1.2.2.2.1 e.1.2.2.2.2 e.1.2.1 e.1.2.2.1 none e.2 <;> rfl
theorem wuy {e : tEngine.D} (he : tEngine.wt e ≤ 1048576) (k) : vuo e k = k (vem e) := by
  rw [vkb] at he
  have hb : tBase.wt e.1 ≤ 1048576 := by omega
  have ho : (Ty.slice tTxn).wt e.2 ≤ 1048576 := by omega
  obtain ⟨h1, h2, h3⟩ := vql hb
  have l2 := vb1 h2
  have l3 := vb1 h3
  have l4 := vb1 ho
  rw [w0r (by omega)]
  unfold wlo vem
  have hs : decide ((e.2.length : Int) > 4) = !decide ((e.2.length : Int) ≤ 4) := by rw [Bool.eq_iff_iff]; simp
  simp only [wvk hb, hs]
  cases hB : vje e.1
  · rfl
  cases decide ((e.2.length : Int) ≤ 4)
  · rfl
  have hids : vdb e.1.2.2.2.2 [] (e.1.2.1.map (·.1) ++ e.1.2.2.1.map (·.1)) = true := by
    unfold vje at hB
    simp only [Bool.and_eq_true] at hB
    exact hB.2
  obtain ⟨j, hj⟩ := vzc (u9 := e.2) (fun y hy => vbt hy ho) l4 (u0 := false) (u1 := e.2) (u4 := e.1.1) (u5 := e.1.2.1) (u6 := e.1.2.2.1) (u7 := e.1.2.2.2.1) (u8 := e.1.2.2.2.2) e.2 0 rfl
  have hlen : (e.1.2.1 ++ (e.1.2.2.1 ++ e.2)).length ≤ 3145728 := by simp only [List.length_append]; omega
  have hlen2 : (e.1.2.1 ++ (e.1.2.2.1 ++ e.2)).length ≤ 3000000 := by
    have : e.1.2.1.length + e.1.2.2.1.length + e.2.length ≤ 2097152 := by
      have q1 : tBase.wt e.1 = _ := vxa e.1
      rw [Ty.wt_slice, Ty.wt_slice, Ty.wt_slice] at q1
      rw [Ty.wt_slice] at he
      omega
    simp only [List.length_append]; omega
  simp only [Bool.not_true, cond_false, Bool.true_and, wop (show e.1.2.1.length ≤ 1048577 by omega) (show e.1.2.2.1.length ≤ 1048577 by omega) (show e.2.length ≤ 1048577 by omega), wl8 hlen2, vd3, hj, if_true]
  rw [show (e.1.2.1 ++ (e.1.2.2.1 ++ e.2)).map (·.1) = (e.1.2.1.map (·.1) ++ e.1.2.2.1.map (·.1)) ++ e.2.map (·.1) by simp, vn8, hids, vzw, Bool.true_and, List.nil_append]
  cases hO : vhd e.1.2.2.2.1 none e.2
  · cases vdb e.1.2.2.2.2 (e.1.2.1.map (·.1) ++ e.1.2.2.1.map (·.1)) (e.2.map (·.1)) <;> rfl
  · have := vtk e.1.2.2.2.1 e.1.2.2.2.2 (e.1.2.1.map (·.1) ++ e.1.2.2.1.map (·.1)) e.2 [] none (fun x h => by cases h) (fun _ => rfl) hO
    rw [List.append_nil] at this
    rw [this, Bool.true_and]
    cases e.2.all (fun y => decide (y.1 < e.1.2.2.2.2) && !((e.1.2.1.map (·.1) ++ e.1.2.2.1.map (·.1)).any fun z => z == y.1)) <;> rfl
end
end Go.VE
