/- Plain laws: draws of others; danger's small cases. -/
import Derived.Test.YtbedbcnmfoildaaFnDangersR14
namespace Go.VE
noncomputable section
set_option linter.unusedVariables false
set_option linter.unusedSimpArgs false
set_option maxRecDepth 100000

theorem spec_l07Any_G2 {l : List Int} {p s : Int} (h : Dr l p) : Gives (spec_l07Any_k l p s) (fun y => OkT y ∧ (y.1 ≤ 6 ∨ 9999 ≤ y.1)) := by
  rw [spec_l07Any_e]
  unfold spec_l07Any_d
  refine (spec_l01Below_G (by decide) (by decide) h).bind (fun y1 h1 => (spec_l01Below_G (by decide) (by decide) h1.2.2).bind (fun y2 h2 => (spec_l07Txn_G h2.2.2).bind (fun y3 h3 => (spec_l07Copy_G (n := 3) (m := 64) (by decide) (by decide) h3.2.1 h3.2.2.1).bind (fun y4 h4 => ?_))))
  subst h4
  obtain ⟨⟨hn, hd, hr4, hw65⟩, hr, hw, _, hi, _⟩ := h3
  have m3 : ∀ {n : Int}, 0 ≤ n → 0 ≤ n.tmod 3 ∧ n.tmod 3 < ((3 : Nat) : Int) := fun h => ⟨Int.tmod_nonneg _ h, Int.tmod_lt_of_pos _ (by decide)⟩
  refine gives_bif (fun _ => gives_ite (m3 h2.1) (gives_ret ⟨⟨hn, hd, hr4, hw65⟩, ?_⟩)) (fun _ => gives_bif (fun _ => gives_ret ⟨⟨hn, hd, hr4, hw65⟩, .inl hi⟩) (fun _ => gives_bif (fun _ => gives_ret ⟨⟨hn, hd, hr4, hw65⟩, .inl hi⟩) (fun _ => gives_bif (fun _ => gives_ite (m3 h2.1) (gives_ret ⟨⟨?_, hd, hr4, hw65⟩, .inl hi⟩)) (fun _ => gives_bif (fun _ => gives_ite ?_ (gives_ret ⟨⟨hn, hd, okR_append hr (okR_one (by decide) (by decide)), hw65⟩, .inl hi⟩)) (fun _ => gives_bif (fun _ => (spec_l05Any_G hd).bind (fun y5 h5 => gives_ite ?_ (gives_ret ⟨⟨hn, h5.2.2, hr4, okW_append hw (okW_one h5.1 h5.2.1)⟩, .inl hi⟩))) (fun _ => gives_bif (fun _ => gives_ret ⟨⟨hn, hd, hr4, hw65⟩, .inl hi⟩) (fun _ => gives_ret ⟨⟨hn, hd, hr4, hw65⟩, .inl hi⟩)))))))
  · have := m3 h2.1
    have hb : ∀ x ∈ [(0 : Int), (9999 : Int), (10000 : Int)], x ≤ 6 ∨ 9999 ≤ x := by decide
    exact hb _ (rd_mem this.1 this.2)
  · have := m3 h2.1
    have hb : ∀ x ∈ [(⟨#[]⟩ : ByteArray), (⟨#[65]⟩ : ByteArray), (⟨#[97, 98]⟩ : ByteArray)], x.size ≤ 20 := by decide
    exact hb _ (rd_mem this.1 this.2)
  · have := hr.1; simp only [List.length_cons, List.length_nil, VE.maxLen]; omega
  · have := hw.1; simp only [List.length_cons, List.length_nil, VE.maxLen]; omega

theorem wt_small' {a b c d : Int} {f : Bool} {n : ByteArray} {r : List tRange.D} {w : List tWrite.D} (hn : n.size ≤ 20) (hr : okR 4 r) (hw : okW 65 w) : tTxn.wt (a, (b, (c, (d, (r, (w, (f, n))))))) ≤ 5000 := by
  have e := wtTxn (a, (b, (c, (d, (r, (w, (f, n)))))))
  have h1 := wtL_le (T := tRange) (c := 40) (l := r) (fun y hy => by have := hr.2 y hy; rw [wtRange]; omega)
  have h2 := wtL_le (T := tWrite) (c := 40) (l := w) (fun y hy => by have := hw.2 y hy; rw [wtWrite]; omega)
  rw [Ty.wt_slice, Ty.wt_slice] at e
  have := hr.1
  have := hw.1
  dsimp only at e
  omega

/-- A drawn list: few, small, its Ids from ten on. -/
def okL (n : Nat) (l : List tTxn.D) : Prop := l.length ≤ n ∧ ∀ y ∈ l, tTxn.wt y ≤ 5000 ∧ 10 ≤ y.1 ∧ y.1 ≤ 100

theorem spec_l08List_loop : ∀ (m i : Nat) (l : List Int) (p s : Int) (acc : List tTxn.D) (n : Nat), i + m = 5 → m < n → okL i acc → Dr l p →
    Gives (loopK spec_l08List_b0 n ((i : Int), l, p, s, acc)) (fun z => okL 5 z.2.2.2.2) := by
  intro m
  induction m with
  | zero =>
    intro i l p s acc n hm hn ha h
    obtain ⟨n, rfl⟩ : ∃ q, n = q + 1 := ⟨n - 1, by omega⟩
    apply gives_loop
    unfold spec_l08List_b0
    refine (spec_l01Below_G (by decide) (by decide) h).bind (fun y hy => gives_bif (fun c => by have c := of_decide_eq_true c; have := hy.2.1; dsimp only at c; omega) (fun _ => gives_ret (go_inr ⟨by have := ha.1; dsimp only; omega, ha.2⟩)))
  | succ m ih =>
    intro i l p s acc n hm hn ha h
    obtain ⟨n, rfl⟩ : ∃ q, n = q + 1 := ⟨n - 1, by omega⟩
    apply gives_loop
    unfold spec_l08List_b0
    refine (spec_l01Below_G (by decide) (by decide) h).bind (fun y hy => gives_bif (fun c => (spec_l07Txn_G hy.2.2).bind (fun y3 h3 => gives_ite ?_ (gives_ret (go_inl ?_)))) (fun _ => gives_ret (go_inr ⟨by have := ha.1; dsimp only; omega, ha.2⟩)))
    · have := ha.1; simp only [List.length_cons, List.length_nil, VE.maxLen]; omega
    · have e : IntKind.wrap .i64 ((i : Int) + 1) = ((i + 1 : Nat) : Int) := wrap_succ (by omega)
      have e2 : IntKind.wrap .i64 ((10 : Int) + (i : Int)) = 10 + (i : Int) := wrap64 (by omega) (by omega)
      simp only [e, e2]
      refine ih (i + 1) _ _ _ _ n (by omega) (by omega) ⟨by have := ha.1; simp only [List.length_append, List.length_singleton]; omega, fun z hz => ?_⟩ h3.1.2.1
      rcases List.mem_append.1 hz with hz | hz
      · exact ha.2 z hz
      · rw [List.mem_singleton] at hz
        subst hz
        exact ⟨wt_small' h3.1.1 h3.1.2.2.1 h3.1.2.2.2, show (10 : Int) ≤ 10 + (i : Int) by omega, show (10 : Int) + (i : Int) ≤ 100 by omega⟩

theorem spec_l08List_G {l : List Int} {p s : Int} (h : Dr l p) : Gives (spec_l08List_k l p s) (fun y => okL 5 y.2.2.2) := by
  rw [spec_l08List_e]
  unfold spec_l08List_d
  exact (spec_l08List_loop 5 0 l p s [] Fuel rfl (by have := fuel_big; omega) ⟨Nat.le_refl _, fun y hy => by cases hy⟩ h).bind (fun z hz => gives_ret hz)

theorem okL_wt {l : List tTxn.D} (h : okL 5 l) : (Ty.slice tTxn).wt l ≤ 1048576 := by
  have h1 := wtL_le (T := tTxn) (c := 5000) (l := l) (fun y hy => (h.2 y hy).1)
  rw [Ty.wt_slice]
  have := h.1
  omega

/-- A transaction and others, drawn. -/
def OkO (y : Int × Int × Int × Int × Bool × ByteArray × List tRange.D × List tWrite.D × List tTxn.D) : Prop :=
  y.2.2.2.2.2.1.size ≤ 20 ∧ okR 4 y.2.2.2.2.2.2.1 ∧ okW 65 y.2.2.2.2.2.2.2.1 ∧ okL 5 y.2.2.2.2.2.2.2.2 ∧ (y.1 ≤ 6 ∨ 9999 ≤ y.1)

theorem spec_DrawOthers_G {a0 : List Int} (hl : a0.length ≤ 1048576) : Gives (spec_DrawOthers_k a0) OkO := by
  rw [spec_DrawOthers_e]
  unfold spec_DrawOthers_d
  exact (spec_l01New_G hl).bind (fun y1 h1 => (spec_l05Ranges_G h1).bind (fun y2 h2 => (spec_l05Writes_G h2.1).bind (fun y3 h3 => (spec_l01Below_G (by decide) (by decide) h3.1).bind (fun y4 h4 => (spec_l08List_G h4.2.2).bind (fun y5 h5 => gives_ret ⟨size0, okR_more h2.2 (by decide), okW_more h3.2 (by decide), h5, .inl (show (1 : Int) ≤ 6 by decide)⟩)))))

theorem spec_DrawDanger_G {a0 : List Int} (hl : a0.length ≤ 1048576) : Gives (spec_DrawDanger_k a0) OkO := by
  rw [spec_DrawDanger_e]
  unfold spec_DrawDanger_d
  rw [spec_l08Some_e]
  unfold spec_l08Some_d
  exact (spec_l01New_G hl).bind (fun y1 h1 => (spec_l07Any_G2 h1).bind (fun y2 h2 => (spec_l08List_G h2.1.2.1).bind (fun y3 h3 => gives_ret ⟨h2.1.1, h2.1.2.2.1, h2.1.2.2.2, h3, h2.2⟩)))

theorem okO_ids {i : Int} {l : List tTxn.D} (hl : okL 5 l) (hi : i ≤ 6 ∨ 9999 ≤ i) : ∀ y ∈ l, (y.1 != i) = true := by
  intro y hy
  have := hl.2 y hy
  have h : y.1 ≠ i := by
    intro e
    have e1 : (10 : Int) ≤ i := e ▸ this.2.1
    have e2 : i ≤ (100 : Int) := e ▸ this.2.2
    omega
  simpa using h


theorem any_no {α : Type} {f : α → Bool} {l : List α} (h : ∀ x ∈ l, f x = false) : l.any f = false := by
  rw [any_congr' (g := fun _ => false) h]
  induction l with
  | nil => rfl
  | cons y l ih => simp

theorem ahead_noreads {a b : tTxn.D} (h : a.2.2.2.2.1 = []) : aheadB a b = false := by unfold aheadB touchesB; rw [h]; simp
theorem ahead_nowrites {a b : tTxn.D} (h : b.2.2.2.2.2.1 = []) : aheadB a b = false := by unfold aheadB touchesB; rw [h]; simp

theorem danger_quiet {t : tTxn.D} (h1 : t.2.2.2.2.1 = []) (h2 : t.2.2.2.2.2.1 = []) (l : List tTxn.D) : dangerB t l = false := by
  unfold dangerB
  rw [any_no (f := fun x => inOfB t x) (fun x _ => by unfold inOfB; rw [ahead_nowrites h2, Bool.and_false]), any_no (f := fun x => dA t x) (fun x _ => by unfold dA; rw [ahead_noreads h1, Bool.and_false]), any_no (f := fun x => dC t l x) (fun x _ => by unfold dC; rw [ahead_nowrites h2, Bool.and_false, Bool.false_and])]
  rfl

theorem danger_noready {t : tTxn.D} (h1 : t.2.2.2.2.1 = []) {l : List tTxn.D} (h : (l.any fun x => x.2.1 == 2) = false) : dangerB t l = false := by
  unfold dangerB
  have hr : ∀ x ∈ l, (x.2.1 == 2) = false := fun x hx => by
    cases e : (x.2.1 == 2)
    · rfl
    · rw [List.any_eq_false] at h
      exact absurd e (h x hx)
  rw [any_no (f := fun x => outOfB t x) (fun x _ => by unfold outOfB; rw [ahead_noreads h1, Bool.and_false]), any_no (f := fun x => dA t x) (fun x _ => by unfold dA; rw [ahead_noreads h1, Bool.and_false]), any_no (f := fun x => dC t l x) (fun x hx => by unfold dC; rw [hr x hx, Bool.false_and, Bool.false_and]), Bool.and_false]
  rfl

theorem blocked_quiet {t : tTxn.D} (h2 : t.2.2.2.2.2.1 = []) (l : List tTxn.D) : (l.any fun x => blockedB t x) = false :=
  any_no (fun x _ => by unfold blockedB meetsB; rw [h2]; simp)

theorem danger_facts (t : tTxn.D) (l : List tTxn.D) : (!((l.any fun x => inOfB t x) && (l.any fun x => outOfB t x)) || dangerB t l) = true ∧ (readyDangerB t l || !dangerB t l) = true := by
  unfold readyDangerB dangerB
  generalize (l.any fun x => inOfB t x) = a
  generalize (l.any fun x => outOfB t x) = b
  generalize (l.any fun x => dA t x) = c
  generalize (l.any fun x => dC t l x) = d
  generalize (l.any fun x => dE t x) = e
  generalize (l.any fun x => dG l t x) = f
  cases a <;> cases b <;> cases c <;> cases d <;> cases e <;> cases f <;> exact ⟨rfl, rfl⟩

theorem laws_FnDangers_loop {a b : Bool} {R4 R5 R6 R7 : Int} {R8 : Bool} {R9 : ByteArray} {L : List tTxn.D} (hL : L.length ≤ 1048576) {R} : ∀ (l : List tTxn.D) (s : Bool) (i : Nat) (q : Nat), L.drop i = l → l.length < q → ∃ j : Int, ∀ K,
    loopK laws_FnDangers_b0 q (a, b, s, (i : Int), R4, R5, R6, R7, R8, R9, L, R) K = K (a, b, (s || l.any fun x => x.2.1 == 2), j, R4, R5, R6, R7, R8, R9, L, R)
  | l, s, i, 0, _, h => by omega
  | [], s, i, q + 1, hd, _ => by
    have hge := lwl_nil hd
    refine ⟨(i : Int), fun K => ?_⟩
    simp only [loopK, laws_FnDangers_b0, hge, decide_false, cond_false, Sum.elim_inr, List.any_nil, Bool.or_false]
  | y :: l, s, i, q + 1, hd, hq => by
    have hlt := drop_lt hd
    have hy : L.getD i (Ty.zero tTxn) = y := (lwl_get hd).2 _
    have hw1 : IntKind.wrap .i64 ((i : Int) + 1) = ((i + 1 : Nat) : Int) := wrap_succ (by omega)
    cases s
    · obtain ⟨j, hj⟩ := laws_FnDangers_loop (a := a) (b := b) (R4 := R4) (R5 := R5) (R6 := R6) (R7 := R7) (R8 := R8) (R9 := R9) hL (R := R) l (y.2.1 == 2) (i + 1) q (drop_succ hd) (by simpa using hq)
      refine ⟨j, fun K => ?_⟩
      simp only [loopK, laws_FnDangers_b0, show (i : Int) < (L.length : Int) by omega, show (0 : Int) ≤ (i : Int) by omega, and_self, if_true, decide_true, cond_true, cond_false, Int.toNat_natCast, hy, hw1, Sum.elim_inl, List.any_cons, Bool.false_or]
      exact hj K
    · obtain ⟨j, hj⟩ := laws_FnDangers_loop (a := a) (b := b) (R4 := R4) (R5 := R5) (R6 := R6) (R7 := R7) (R8 := R8) (R9 := R9) hL (R := R) l true (i + 1) q (drop_succ hd) (by simpa using hq)
      refine ⟨j, fun K => ?_⟩
      simp only [loopK, laws_FnDangers_b0, show (i : Int) < (L.length : Int) by omega, decide_true, cond_true, hw1, Sum.elim_inl, Bool.true_or]
      rw [hj K, Bool.true_or]

end
end Go.VE
