/- The plain laws behind FnExactWriteKey. -/
import Derived.Test.YtiajamilfgkecaaWriteKeyL
import Derived.Sort.Walk0
/- Plain laws: keys, ranges, writes, transactions, who is ahead of whom. -/
namespace Go.VE
noncomputable section
set_option linter.unusedVariables false
set_option linter.unusedSimpArgs false
set_option maxRecDepth 100000
def vb1 (n lo hi : Int) : Bool := decide (n ≥ lo) && decide (n ≤ hi)
theorem v1n (a b c) (k) : vez a b c k = k (vb1 a b c) := by
  rw [v0p]; unfold vyv vb1; cases decide (a ≥ b) <;> rfl
theorem vwr (a b c) (k) : vex a b c k = k (vb1 a b c) := by
  rw [v08]; unfold vxe vb1; cases decide (a ≥ b) <;> rfl
def vdd (s : ByteArray) : Bool := !((vbv s).any fun y => decide (y < 97) || decide (y > 122)) && vb1 s.size 1 3
theorem vqt {u0} {u1} : ∀ l i, ∃ j : Int, ∀ k, vid u0 u1 l i k = k (bif l.any (fun y => decide (y < 97) || decide (y > 122)) then .inl (false, j) else .inr j)
  | [], i => ⟨_, fun k => rfl⟩
  | y :: l, i => by
    obtain ⟨j, hj⟩ := vqt (u0 := u0) (u1 := u1) l (i + 1)
    simp only [vid, hj, List.any_cons]
    cases hp : (decide (y < 97) || decide (y > 122))
    · exact ⟨j, fun k => by (try simp only [Bool.false_or]) <;> (try (revert hp; cases decide (y < 97) <;> cases decide (y > 122) <;> simp))⟩
    · exact ⟨(i : Int), fun k => by (try simp only [Bool.true_or, cond_true]) <;> (try (revert hp; cases decide (y < 97) <;> cases decide (y > 122) <;> simp))⟩
theorem vsl {s : ByteArray} (hs : s.size ≤ 1048576) (k) : vi7 s k = k (vdd s) := by
  rw [v80 (by omega)]
  unfold v2r vdd
  obtain ⟨j, hj⟩ := vqt (u0 := s) (u1 := false) (vbv s) 0
  rw [hj]
  cases ((vbv s).any fun y => decide (y < 97) || decide (y > 122))
  · simp [v1n]
  · rfl
theorem vrn {u0} {u1} : ∀ l i, ∃ j : Int, ∀ k, vhu u0 u1 l i k = k (bif l.any (fun y => decide (y < 97) || decide (y > 122)) then .inl (false, j) else .inr j)
  | [], i => ⟨_, fun k => rfl⟩
  | y :: l, i => by
    obtain ⟨j, hj⟩ := vrn (u0 := u0) (u1 := u1) l (i + 1)
    simp only [vhu, hj, List.any_cons]
    cases hp : (decide (y < 97) || decide (y > 122))
    · exact ⟨j, fun k => by (try simp only [Bool.false_or]) <;> (try (revert hp; cases decide (y < 97) <;> cases decide (y > 122) <;> simp))⟩
    · exact ⟨(i : Int), fun k => by (try simp only [Bool.true_or, cond_true]) <;> (try (revert hp; cases decide (y < 97) <;> cases decide (y > 122) <;> simp))⟩
theorem vs8 {s : ByteArray} (hs : s.size ≤ 1048576) (k) : vjg s k = k (vdd s) := by
  rw [v9z (by omega)]
  unfold v2z vdd
  obtain ⟨j, hj⟩ := vrn (u0 := s) (u1 := false) (vbv s) 0
  rw [hj]
  cases ((vbv s).any fun y => decide (y < 97) || decide (y > 122))
  · simp [vwr]
  · rfl
def vb7 (r : tRange.D) : Bool := vdd r.1 && vdd r.2 && (vac r.1 r.2 || vay r.1 r.2)
def vbd (w : tWrite.D) : Bool := vdd w.1 && decide ((w.2.1.size : Int) ≤ 12) && (!w.2.2 || vay w.2.1 ⟨#[]⟩)
/-- Behind one that stood before: all right, keys ascending. -/
def vbh : Option tWrite.D → List tWrite.D → Bool
  | _, [] => true
  | p, y :: l => vbd y && (match p with | none => true | some x => vac x.1 y.1) && vbh (some y) l
def vbm (l : List tWrite.D) : Bool := vbh none l && decide ((l.length : Int) ≤ 8)
theorem v74 {r : tRange.D} (hr : tRange.wt r ≤ 1048576) (k) : vpz r k = k (vb7 r) := by
  rw [vsz] at hr
  rw [v1q]
  unfold vyi vb7
  simp only [vsl (show r.1.size ≤ 1048576 by omega), vsl (show r.2.size ≤ 1048576 by omega)]
  cases vdd r.1 <;> cases vdd r.2 <;> simp
theorem v2d {r : tWrite.D} (hr : tWrite.wt r ≤ 1048576) (k) : vl0 r k = k (vbd r) := by
  rw [vta] at hr
  rw [v2l]
  unfold vyg vbd
  simp only [vsl (show r.1.size ≤ 1048576 by omega)]
  cases vdd r.1 <;> cases decide ((r.2.1.size : Int) ≤ 12) <;> cases r.2.2 <;> simp
theorem vqy {u0 : List tWrite.D} (hu : ∀ y ∈ u0, tWrite.wt y ≤ 1048576) (hl : u0.length ≤ 1048576) {u1 u2} : ∀ (l : List tWrite.D) (i : Nat), u0.drop i = l → ∃ j : Int, ∀ k,
    vgl u0 u1 u2 l i k = k (bif vbh (if i = 0 then none else some (u0.getD (i - 1) (Ty.zero tWrite))) l then .inr j else .inl (false, j))
  | [], i, _ => ⟨_, fun k => rfl⟩
  | y :: l, i, h => by
    obtain ⟨j, hj⟩ := vqy hu hl (u1 := u1) (u2 := u2) l (i + 1) (ven h)
    have hlt := vhg h
    have hy := (vby h).2 (Ty.zero tWrite)
    rw [if_neg (by omega), show i + 1 - 1 = i by omega, hy] at hj
    simp only [vgl, v2d (hu y (von h)), hj, vbh]
    by_cases hi : i = 0
    · subst hi
      simp only [if_pos, show ¬ ((0 : Nat) : Int) > 0 by omega, decide_false, cond_false, Bool.and_true]
      cases vbd y
      · exact ⟨((0 : Nat) : Int), fun k => by simp⟩
      · exact ⟨j, fun k => by simp⟩
    · have hw : IntKind.wrap .i64 ((i : Int) - 1) = ((i - 1 : Nat) : Int) := by rw [vd4 (by omega) (by omega)]; omega
      have hrd : rd (Ty.zero (.pair .str (.pair .str .bool))) u0 ((i - 1 : Nat) : Int) = u0.getD (i - 1) (Ty.zero tWrite) := rfl
      simp only [if_neg hi, show (i : Int) > 0 by omega, decide_true, cond_true, hw, hrd, if_pos (show 0 ≤ ((i - 1 : Nat) : Int) ∧ ((i - 1 : Nat) : Int) < (u0.length : Int) by omega)]
      cases vbd y
      · exact ⟨(i : Int), fun k => by simp⟩
      · cases vac (u0.getD (i - 1) (Ty.zero tWrite)).1 y.1
        · exact ⟨(i : Int), fun k => by simp⟩
        · exact ⟨j, fun k => by simp⟩
theorem v7y {x : List tWrite.D} (hx : (Ty.slice tWrite).wt x ≤ 1048576) (k) : vm5 x k = k (vbm x) := by
  have hl := vg3 hx
  rw [v8t (by omega)]
  unfold v1s vbm
  obtain ⟨j, hj⟩ := vqy (u0 := x) (fun y hy => vka hy hx) hl (u1 := false) (u2 := x) x 0 rfl
  rw [hj]
  simp only [if_true]
  cases vbh none x <;> rfl
theorem v7n {r : tRange.D} (hr : tRange.wt r ≤ 1048576) (k) : vqw r k = k (vb7 r) := by
  rw [vsz] at hr
  rw [v1d]
  unfold vyq vb7
  simp only [vs8 (show r.1.size ≤ 1048576 by omega), vs8 (show r.2.size ≤ 1048576 by omega)]
  cases vdd r.1 <;> cases vdd r.2 <;> simp
theorem v10 {r : tWrite.D} (hr : tWrite.wt r ≤ 1048576) (k) : vl4 r k = k (vbd r) := by
  rw [vta] at hr
  rw [v2p]
  unfold vx1 vbd
  simp only [vs8 (show r.1.size ≤ 1048576 by omega)]
  cases vdd r.1 <;> cases decide ((r.2.1.size : Int) ≤ 12) <;> cases r.2.2 <;> simp
theorem vrh {u0 : List tWrite.D} (hu : ∀ y ∈ u0, tWrite.wt y ≤ 1048576) (hl : u0.length ≤ 1048576) {u1} : ∀ (l : List tWrite.D) (i : Nat), u0.drop i = l → ∃ j : Int, ∀ k,
    vgx u0 u1 l i k = k (bif vbh (if i = 0 then none else some (u0.getD (i - 1) (Ty.zero tWrite))) l then .inr j else .inl (false, j))
  | [], i, _ => ⟨_, fun k => rfl⟩
  | y :: l, i, h => by
    obtain ⟨j, hj⟩ := vrh hu hl (u1 := u1) l (i + 1) (ven h)
    have hlt := vhg h
    have hy := (vby h).2 (Ty.zero tWrite)
    rw [if_neg (by omega), show i + 1 - 1 = i by omega, hy] at hj
    simp only [vgx, v10 (hu y (von h)), hj, vbh]
    by_cases hi : i = 0
    · subst hi
      simp only [if_pos, show ¬ ((0 : Nat) : Int) > 0 by omega, decide_false, cond_false, Bool.and_true]
      cases vbd y
      · exact ⟨((0 : Nat) : Int), fun k => by simp⟩
      · exact ⟨j, fun k => by simp⟩
    · have hw : IntKind.wrap .i64 ((i : Int) - 1) = ((i - 1 : Nat) : Int) := by rw [vd4 (by omega) (by omega)]; omega
      have hrd : rd (Ty.zero (.pair .str (.pair .str .bool))) u0 ((i - 1 : Nat) : Int) = u0.getD (i - 1) (Ty.zero tWrite) := rfl
      simp only [if_neg hi, show (i : Int) > 0 by omega, decide_true, cond_true, hw, hrd, if_pos (show 0 ≤ ((i - 1 : Nat) : Int) ∧ ((i - 1 : Nat) : Int) < (u0.length : Int) by omega)]
      cases vbd y
      · exact ⟨(i : Int), fun k => by simp⟩
      · cases vac (u0.getD (i - 1) (Ty.zero tWrite)).1 y.1
        · exact ⟨(i : Int), fun k => by simp⟩
        · exact ⟨j, fun k => by simp⟩
theorem v0z {x : List tWrite.D} (hx : (Ty.slice tWrite).wt x ≤ 1048576) (k) : vk8 x k = k (vbm x) := by
  have hl := vg3 hx
  rw [v91 (by omega)]
  unfold v0e vbm
  obtain ⟨j, hj⟩ := vrh (u0 := x) (fun y hy => vka hy hx) hl (u1 := false) x 0 rfl
  rw [hj]
  simp only [if_true]
  cases vbh none x <;> rfl
def vdv (t : tTxn.D) : Bool :=
  vb1 t.1 1 9999 && vb1 t.2.1 1 3 && vb1 t.2.2.1 0 9999 && !decide ((t.2.2.2.2.1.length : Int) > 8) && vbm t.2.2.2.2.2.1 && !(t.2.2.2.2.1.any fun r => !vb7 r) &&
  !((t.2.1 == 3) && !vb1 t.2.2.2.1 (IntKind.wrap .i64 (t.2.2.1 + 1)) 9999) && !((t.2.1 != 3) && (t.2.2.2.1 != 0)) &&
  !((t.2.1 == 2) && !vdd t.2.2.2.2.2.2.2) && !((t.2.1 != 2) && !vay t.2.2.2.2.2.2.2 ⟨#[]⟩) && ((t.2.1 != 1) || !t.2.2.2.2.2.2.1)
theorem vpx {u0} {u1} {u4} {u5} {u6} {u7} {u8} {u9} {u10} {u11} : ∀ (l : List tRange.D) (i : Nat), (∀ y ∈ l, tRange.wt y ≤ 1048576) → ∃ j : Int, ∀ k, vhi u0 u1 u4 u5 u6 u7 u8 u9 u10 u11 l i k = k (bif l.any (fun r => !vb7 r) then .inl (false, j) else .inr j)
  | [], i, _ => ⟨_, fun k => rfl⟩
  | y :: l, i, h => by
    obtain ⟨j, hj⟩ := vpx (u0 := u0) (u1 := u1) (u4 := u4) (u5 := u5) (u6 := u6) (u7 := u7) (u8 := u8) (u9 := u9) (u10 := u10) (u11 := u11) l (i + 1) (fun y hy => h y (by simp [hy]))
    simp only [vhi, v74 (h y (by simp)), hj, List.any_cons]
    cases vb7 y
    · exact ⟨(i : Int), fun k => by simp⟩
    · exact ⟨j, fun k => by simp⟩
theorem vrj {u0} {u2} {u3} {u4} {u5} {u6} {u7} {u8} {u9} : ∀ (l : List tRange.D) (i : Nat), (∀ y ∈ l, tRange.wt y ≤ 1048576) → ∃ j : Int, ∀ k, vhf u0 u2 u3 u4 u5 u6 u7 u8 u9 l i k = k (bif l.any (fun r => !vb7 r) then .inl (false, j) else .inr j)
  | [], i, _ => ⟨_, fun k => rfl⟩
  | y :: l, i, h => by
    obtain ⟨j, hj⟩ := vrj (u0 := u0) (u2 := u2) (u3 := u3) (u4 := u4) (u5 := u5) (u6 := u6) (u7 := u7) (u8 := u8) (u9 := u9) l (i + 1) (fun y hy => h y (by simp [hy]))
    simp only [vhf, v7n (h y (by simp)), hj, List.any_cons]
    cases vb7 y
    · exact ⟨(i : Int), fun k => by simp⟩
    · exact ⟨j, fun k => by simp⟩
theorem v7j {t : tTxn.D} (ht : tTxn.wt t ≤ 1048576) (k) : vm8 t k = k (vdv t) := by
  rw [vvl] at ht
  have h1 := vg3 (T := tRange) (xs := t.2.2.2.2.1) (n := 1048576) (by omega)
  have h2 := vg3 (T := tWrite) (xs := t.2.2.2.2.2.1) (n := 1048576) (by omega)
  rw [v8e (by omega)]
  unfold v13 vdv
  simp only [vwr, v0z (show (Ty.slice tWrite).wt t.2.2.2.2.2.1 ≤ 1048576 by omega)]
  obtain ⟨j, hj⟩ := vrj (u0 := false) (u2 := t.1) (u3 := t.2.1) (u4 := t.2.2.1) (u5 := t.2.2.2.1) (u6 := t.2.2.2.2.1) (u7 := t.2.2.2.2.2.1) (u8 := t.2.2.2.2.2.2.1) (u9 := t.2.2.2.2.2.2.2) t.2.2.2.2.1 0 (fun y hy => vka hy (by omega))
  simp only [vdl, vbr, vbq, hj, vwr, vs8 (show t.2.2.2.2.2.2.2.size ≤ 1048576 by omega)]
  cases vb1 t.1 1 9999 <;> simp only [Bool.not_true, Bool.not_false, cond_true, cond_false, Bool.true_and, Bool.false_and]
  cases vb1 t.2.1 1 3 <;> simp only [Bool.not_true, Bool.not_false, cond_true, cond_false, Bool.true_and, Bool.false_and]
  cases vb1 t.2.2.1 0 9999 <;> simp only [Bool.not_true, Bool.not_false, cond_true, cond_false, Bool.true_and, Bool.false_and]
  cases decide ((t.2.2.2.2.1.length : Int) > 8) <;> simp only [Bool.not_true, Bool.not_false, cond_true, cond_false, Bool.true_and, Bool.false_and]
  cases vbm t.2.2.2.2.2.1 <;> simp only [Bool.not_true, Bool.not_false, cond_true, cond_false, Bool.true_and, Bool.false_and]
  cases (t.2.2.2.2.1.any fun r => !vb7 r) <;> simp only [Bool.not_true, Bool.not_false, cond_true, cond_false, Bool.true_and, Bool.false_and, Sum.elim_inl, Sum.elim_inr]
  simp only [bne]
  cases t.2.1 == 3 <;> cases t.2.1 == 2 <;> cases t.2.1 == 1 <;> cases vb1 t.2.2.2.1 (IntKind.wrap .i64 (t.2.2.1 + 1)) 9999 <;> cases t.2.2.2.1 == 0 <;> cases vdd t.2.2.2.2.2.2.2 <;> cases vay t.2.2.2.2.2.2.2 ⟨#[]⟩ <;> cases t.2.2.2.2.2.2.1 <;> rfl
theorem v2e {t : tTxn.D} (ht : tTxn.wt t ≤ 1048576) (k) : vkg t k = k (vdv t) := by
  rw [vvl] at ht
  have h1 := vg3 (T := tRange) (xs := t.2.2.2.2.1) (n := 1048576) (by omega)
  have h2 := vg3 (T := tWrite) (xs := t.2.2.2.2.2.1) (n := 1048576) (by omega)
  rw [v81 (by omega)]
  unfold v0d vdv
  obtain ⟨j, hj⟩ := vpx (u0 := false) (u1 := t.2.2.2.2.1) (u4 := t.1) (u5 := t.2.1) (u6 := t.2.2.1) (u7 := t.2.2.2.1) (u8 := t.2.2.2.2.1) (u9 := t.2.2.2.2.2.1) (u10 := t.2.2.2.2.2.2.1) (u11 := t.2.2.2.2.2.2.2) t.2.2.2.2.1 0 (fun y hy => vka hy (by omega))
  simp only [hj, v1n, v7y (show (Ty.slice tWrite).wt t.2.2.2.2.2.1 ≤ 1048576 by omega), vcs, vbo, vsl (show t.2.2.2.2.2.2.2.size ≤ 1048576 by omega)]
  cases (t.2.2.2.2.1.any fun r => !vb7 r) <;> simp only [Bool.not_true, Bool.not_false, cond_true, cond_false, Bool.true_and, Bool.and_true, Bool.and_false, Bool.false_and, Sum.elim_inl, Sum.elim_inr]
  cases vb1 t.1 1 9999 <;> simp only [Bool.not_true, Bool.not_false, cond_true, cond_false, Bool.true_and, Bool.false_and]
  cases vb1 t.2.1 1 3 <;> simp only [Bool.not_true, Bool.not_false, cond_true, cond_false, Bool.true_and, Bool.false_and]
  cases vb1 t.2.2.1 0 9999 <;> simp only [Bool.not_true, Bool.not_false, cond_true, cond_false, Bool.true_and, Bool.false_and]
  cases decide ((t.2.2.2.2.1.length : Int) > 8) <;> simp only [Bool.not_true, Bool.not_false, cond_true, cond_false, Bool.true_and, Bool.false_and]
  cases vbm t.2.2.2.2.2.1 <;> simp only [Bool.not_true, Bool.not_false, cond_true, cond_false, Bool.true_and, Bool.false_and]
  simp only [bne]
  cases t.2.1 == 3 <;> cases t.2.1 == 2 <;> cases t.2.1 == 1 <;> cases vb1 t.2.2.2.1 (IntKind.wrap .i64 (t.2.2.1 + 1)) 9999 <;> cases t.2.2.2.1 == 0 <;> cases vdd t.2.2.2.2.2.2.2 <;> cases vay t.2.2.2.2.2.2.2 ⟨#[]⟩ <;> cases t.2.2.2.2.2.2.1 <;> rfl
end
end Go.VE
/- Plain laws: where a name or an Id stands; a transaction's text. -/
namespace Go.VE
noncomputable section
set_option linter.unusedVariables false
set_option linter.unusedSimpArgs false
set_option maxRecDepth 100000
theorem vug {a b : ByteArray} (h : a.data.toList = b.data.toList) : a = b := by
  cases a; cases b; congr 1; exact Array.toList_inj.mp h
theorem vlo {a b : ByteArray} (h : vay a b = true) : a = b := by
  rw [viv, beq_iff_eq, ByteArray.toList_eq, ByteArray.toList_eq] at h
  exact vug h
theorem vf8 {s : ByteArray} (h : vdd s = true) : s.size ≤ 3 := by
  unfold vdd vb1 at h
  simp only [Bool.and_eq_true, decide_eq_true_eq] at h
  omega
theorem vi6 : ∀ {l : List tWrite.D} {p}, vbh p l = true → ∀ y ∈ l, vbd y = true
  | [], _, _, y, hy => by cases hy
  | z :: l, p, h, y, hy => by
    simp only [vbh, Bool.and_eq_true] at h
    cases hy with
    | head => exact h.1.1
    | tail _ hm => exact vi6 h.2 y hm
def vu0 (n : Int) : Prop := 0 ≤ n ∧ n ≤ 16383
theorem vjz {t : tTxn.D} (h : vdv t = true) : vu0 t.1 ∧ vu0 t.2.1 ∧ vu0 t.2.2.1 ∧ vu0 t.2.2.2.1 ∧
    t.2.2.2.2.1.length ≤ 8 ∧ (∀ y ∈ t.2.2.2.2.1, y.1.size ≤ 12 ∧ y.2.size ≤ 12) ∧ t.2.2.2.2.2.1.length ≤ 8 ∧ (∀ y ∈ t.2.2.2.2.2.1, y.1.size ≤ 12 ∧ y.2.1.size ≤ 12) ∧ t.2.2.2.2.2.2.2.size ≤ 12 := by
  unfold vdv vb1 vbm at h
  simp only [Bool.and_eq_true, Bool.not_eq_true', decide_eq_true_eq, decide_eq_false_iff_not, List.any_eq_false, Bool.not_eq_true, Bool.and_eq_false_iff, beq_eq_false_iff_ne, bne_eq_false_iff_eq, Bool.not_eq_false', Bool.or_eq_true, ne_eq] at h
  obtain ⟨⟨⟨⟨⟨⟨⟨⟨⟨⟨a1, a2⟩, a3⟩, a4⟩, ⟨a5, a6⟩⟩, a7⟩, a8⟩, a9⟩, a10⟩, a11⟩, a12⟩ := h
  unfold vu0
  refine ⟨by omega, by omega, by omega, ?_, by omega, fun y hy => ?_, by omega, fun y hy => ?_, ?_⟩
  · by_cases c : t.2.1 = 3
    · have := a8.resolve_left (fun hc => hc c)
      have w : IntKind.wrap .i64 (t.2.2.1 + 1) = t.2.2.1 + 1 := vd4 (by omega) (by omega)
      rw [w] at this
      omega
    · have : @Eq Int t.2.2.2.1 0 := a9.resolve_left (fun hc => c hc)
      omega
  · have : vb7 y = true := by have := a7 y hy; revert this; cases vb7 y <;> simp
    unfold vb7 at this
    simp only [Bool.and_eq_true] at this
    have b1 := vf8 this.1.1
    have b2 := vf8 this.1.2
    omega
  · have := vi6 a5 y hy
    unfold vbd at this
    simp only [Bool.and_eq_true, decide_eq_true_eq] at this
    have b1 := vf8 this.1.1
    omega
  · by_cases c : t.2.1 = 2
    · have := vf8 (a10.resolve_left (fun hc => hc c))
      omega
    · have := vlo (a11.resolve_left (fun hc => c hc))
      rw [this]; decide
end
end Go.VE
/- Plain laws of the draws: each gives, whatever the bytes. -/
namespace Go.VE
noncomputable section
set_option linter.unusedVariables false
set_option linter.unusedSimpArgs false
set_option maxRecDepth 100000
/-- A native program that hands on one value, of which this holds. -/
def Gives {α : Type} (F : (α → Option Res) → Option Res) (Q : α → Prop) : Prop := ∃ v, Q v ∧ ∀ k, F k = k v
theorem vhj {α : Type} {v : α} {Q : α → Prop} (h : Q v) : Gives (fun k => k v) Q := ⟨v, h, fun _ => rfl⟩
theorem Gives.bind {α β : Type} {F : (β → Option Res) → Option Res} {R : β → Prop} (hF : Gives F R) {H : β → (α → Option Res) → Option Res} {Q : α → Prop} (hH : ∀ v, R v → Gives (H v) Q) : Gives (fun k => F fun v => H v k) Q := by
  obtain ⟨v, h1, h2⟩ := hF
  obtain ⟨y, h3, h4⟩ := hH v h1
  exact ⟨y, h3, fun k => (h2 _).trans (h4 k)⟩
theorem vnd {α : Type} {c : Bool} {F G : (α → Option Res) → Option Res} {Q : α → Prop} (hF : c = true → Gives F Q) (hG : c = false → Gives G Q) : Gives (fun k => bif c then F k else G k) Q := by
  cases c
  · exact hG rfl
  · exact hF rfl
theorem vul {α : Type} {c : Prop} [Decidable c] {F : (α → Option Res) → Option Res} {Q : α → Prop} (hc : c) (hF : Gives F Q) : Gives (fun k => if c then F k else none) Q := by
  simp only [hc, if_true]; exact hF
theorem Gives.mono {α : Type} {F : (α → Option Res) → Option Res} {Q R : α → Prop} (h : Gives F Q) (hq : ∀ v, Q v → R v) : Gives F R := by
  obtain ⟨v, h1, h2⟩ := h
  exact ⟨v, hq v h1, h2⟩
theorem vq2 {β γ : Type} {b : β → (β ⊕ γ → Option Res) → Option Res} {x : β} {n : Nat} {Q : γ → Prop} (h : Gives (b x) (fun r => (∀ y, r = .inl y → Gives (vai b n y) Q) ∧ ∀ z, r = .inr z → Q z)) : Gives (vai b (n + 1) x) Q := by
  obtain ⟨v, h1, h2⟩ := h
  cases v with
  | inl y =>
    obtain ⟨w, h3, h4⟩ := h1.1 y rfl
    exact ⟨w, h3, fun k => by rw [vai, h2]; exact h4 k⟩
  | inr z => exact ⟨z, h1.2 z rfl, fun k => by rw [vai, h2]; rfl⟩
theorem v9m {β γ : Type} {Q : γ → Prop} {G : β → Prop} {y : β} (h : G y) : (∀ x, (Sum.inl y : β ⊕ γ) = .inl x → G x) ∧ ∀ z, (Sum.inl y : β ⊕ γ) = .inr z → Q z := ⟨fun _ e => by cases e; exact h, fun _ e => (nomatch e)⟩
theorem v6p {β γ : Type} {Q : γ → Prop} {G : β → Prop} {z : γ} (h : Q z) : (∀ x, (Sum.inr z : β ⊕ γ) = .inl x → G x) ∧ ∀ w, (Sum.inr z : β ⊕ γ) = .inr w → Q w := ⟨fun _ e => (nomatch e), fun _ e => by cases e; exact h⟩
def okW (n : Nat) (l : List tWrite.D) : Prop := l.length ≤ n ∧ ∀ y ∈ l, y.1.size ≤ 20 ∧ y.2.1.size ≤ 20
theorem v2m {T : Ty} {c : Nat} : ∀ {l : List T.D}, (∀ y ∈ l, T.wt y ≤ c) → wtL T l ≤ c * l.length
  | [], _ => by simp [wtL]
  | y :: l, h => by
    have h1 := h y (by simp)
    have h2 := v2m (l := l) (fun z hz => h z (List.mem_cons_of_mem y hz))
    simp only [wtL, List.length_cons, Nat.mul_add]; omega
end
end Go.VE
/- Plain laws of the marks: what is marked in place is held. -/
namespace Go.VE
noncomputable section
set_option linter.unusedVariables false
set_option linter.unusedSimpArgs false
set_option maxRecDepth 100000
theorem vjp (n : Int) : (vjl [n]).size = 1 := rfl
theorem vsp : ∀ (m : Nat) (n : Int) (s : ByteArray) (q : Nat), n ≤ m → m < q → s.size + m ≤ 100000000 → Gives (vai vj8 q (n, s)) (fun z => z.2.size ≤ s.size + m) := by
  intro m
  induction m with
  | zero =>
    intro n s q hn hq hs
    obtain ⟨q, rfl⟩ : ∃ r, q = r + 1 := ⟨q - 1, by omega⟩
    apply vq2
    unfold vj8
    exact vnd (fun c => by have c := of_decide_eq_true c; dsimp only at c; omega) (fun _ => vhj (v6p (by dsimp only; omega)))
  | succ m ih =>
    intro n s q hn hq hs
    obtain ⟨q, rfl⟩ : ∃ r, q = r + 1 := ⟨q - 1, by omega⟩
    apply vq2
    unfold vj8
    refine vnd (fun c => vul ?_ (vhj (v9m ?_))) (fun _ => vhj (v6p (by dsimp only; omega)))
    · rw [vjp]; dsimp only; omega
    · have c := of_decide_eq_true c
      dsimp only at c
      have e : n.tdiv 10 = n / 10 := Int.tdiv_eq_ediv_of_nonneg (by omega)
      dsimp only
      rw [e, vd4 (by omega) (by omega)]
      refine (ih (n / 10) _ q (by omega) (by omega) (by rw [ByteArray.size_append, vjp]; omega)).mono (fun z hz => ?_)
      rw [ByteArray.size_append, vjp] at hz
      omega
theorem vz1 {n : Int} (h : n ≤ 10000000) : Gives (vdb n) (fun _ => True) := by
  rw [v3c]
  unfold vxf
  refine vnd (fun _ => vhj trivial) (fun _ => (vsp 10000000 n _ Fuel (by omega) (by have := vk2; omega) (by decide)).bind (fun z hz => vul ?_ (vhj trivial)))
  have : (⟨#[109]⟩ : ByteArray).size = 1 := rfl
  have : (⟨#[]⟩ : ByteArray).size = 0 := rfl
  omega
open Classical in
def vpk (n : Int) : ByteArray := if h : ∃ v, ∀ k, vdb n k = k v then Classical.choose h else ⟨#[]⟩
theorem vcb {n : Int} (h : n ≤ 10000000) (k) : vdb n k = k (vpk n) := by
  obtain ⟨v, _, hv⟩ := vz1 h
  have h1 : ∃ v, ∀ k, vdb n k = k v := ⟨v, hv⟩
  unfold vpk
  rw [dif_pos h1]
  exact Classical.choose_spec h1 k
theorem v1c {α : Type} (pre : List α) (y v : α) (l : List α) : (pre ++ y :: l).set pre.length v = pre ++ v :: l := by simp
theorem vx8 {α : Type} (pre : List α) (y d : α) (l : List α) : (pre ++ y :: l).getD pre.length d = y := by simp [List.getD]
def vks : Int → List tRange.D → List tRange.D
  | _, [] => []
  | c, y :: l => (vpk c, vpk (c + 1)) :: vks (c + 2) l
theorem vii : ∀ (l pre : List tRange.D) (c : Int) (q : Nat), 0 ≤ c → c + 2 * l.length ≤ 9000000 → pre.length + l.length ≤ 1048576 → l.length < q →
    ∃ j : Int, ∀ k, vai vjj q (c, (pre.length : Int), pre ++ l) k = k (c + 2 * l.length, j, pre ++ vks c l)
  | [], pre, c, q, h0, hc, hl, hq => by
    obtain ⟨q, rfl⟩ : ∃ r, q = r + 1 := ⟨q - 1, by omega⟩
    refine ⟨pre.length, fun k => ?_⟩
    simp only [vai, vjj, List.append_nil, Int.lt_irrefl, decide_false, cond_false, Sum.elim_inr, List.length_nil, vks]
    simp
  | y :: l, pre, c, q, h0, hc, hl, hq => by
    obtain ⟨q, rfl⟩ : ∃ r, q = r + 1 := ⟨q - 1, by omega⟩
    simp only [List.length_cons] at hc hl hq
    obtain ⟨j, hj⟩ := vii l (pre ++ [(vpk c, vpk (c + 1))]) (c + 2) q (by omega) (by omega) (by rw [List.length_append, List.length_singleton]; omega) (by omega)
    refine ⟨j, fun k => ?_⟩
    have hlt : (pre.length : Int) < ((pre ++ y :: l).length : Int) := by rw [List.length_append, List.length_cons]; omega
    have hlt2 : ∀ v : tRange.D, (pre.length : Int) < ((pre ++ v :: l).length : Int) := fun v => by rw [List.length_append, List.length_cons]; omega
    have w1 : IntKind.wrap .i64 (c + 1) = c + 1 := vd4 (by omega) (by omega)
    have w2 : IntKind.wrap .i64 (c + 1 + 1) = c + 2 := by rw [vd4 (by omega) (by omega)]; omega
    have w3 : IntKind.wrap .i64 ((pre.length : Int) + 1) = ((pre.length + 1 : Nat) : Int) := vkc (by omega)
    have hp : (0 : Int) ≤ (pre.length : Int) := Int.natCast_nonneg _
    have hj' := hj k
    rw [List.length_append, List.length_singleton, List.append_assoc, List.singleton_append, List.append_assoc, List.singleton_append] at hj'
    simp only [vai, vjj, hlt, decide_true, cond_true, vcb (show c ≤ 10000000 by omega), w1, vcb (show c + 1 ≤ 10000000 by omega), Int.toNat_natCast, v1c, vx8, hlt2, hp, and_self, if_true, w2, w3, Sum.elim_inl]
    rw [hj']
    simp only [vks, List.length_cons]
    congr 2
    push_cast
    omega
theorem v7l {l : List tRange.D} (hl : l.length ≤ 1048576) {c : Int} (h0 : 0 ≤ c) (hc : c ≤ 5000000) (k) : vty c l k = k (c + 2 * l.length, vks c l) := by
  rw [v1k]
  unfold vx3
  obtain ⟨j, hj⟩ := vii l [] c Fuel h0 (by omega) (by simpa using hl) (by have := vk2; omega)
  simp only [List.length_nil, List.nil_append] at hj
  rw [show ((0 : Int)) = ((0 : Nat) : Int) from rfl, hj]
def vkf : Int → List tWrite.D → List tWrite.D
  | _, [] => []
  | c, y :: l => (vpk c, (vpk (c + 1), ((c + 2).tmod 3 == 0))) :: vkf (c + 3) l
theorem vif : ∀ (l pre : List tWrite.D) (c : Int) (q : Nat), 0 ≤ c → c + 3 * l.length ≤ 9000000 → pre.length + l.length ≤ 1048576 → l.length < q →
    ∃ j : Int, ∀ k, vai vjy q (c, (pre.length : Int), pre ++ l) k = k (c + 3 * l.length, j, pre ++ vkf c l)
  | [], pre, c, q, h0, hc, hl, hq => by
    obtain ⟨q, rfl⟩ : ∃ r, q = r + 1 := ⟨q - 1, by omega⟩
    refine ⟨pre.length, fun k => ?_⟩
    simp only [vai, vjy, List.append_nil, Int.lt_irrefl, decide_false, cond_false, Sum.elim_inr, List.length_nil, vkf]
    simp
  | y :: l, pre, c, q, h0, hc, hl, hq => by
    obtain ⟨q, rfl⟩ : ∃ r, q = r + 1 := ⟨q - 1, by omega⟩
    simp only [List.length_cons] at hc hl hq
    obtain ⟨j, hj⟩ := vif l (pre ++ [(vpk c, (vpk (c + 1), ((c + 2).tmod 3 == 0)))]) (c + 3) q (by omega) (by omega) (by rw [List.length_append, List.length_singleton]; omega) (by omega)
    refine ⟨j, fun k => ?_⟩
    have hlt : (pre.length : Int) < ((pre ++ y :: l).length : Int) := by rw [List.length_append, List.length_cons]; omega
    have hlt2 : ∀ v : tWrite.D, (pre.length : Int) < ((pre ++ v :: l).length : Int) := fun v => by rw [List.length_append, List.length_cons]; omega
    have w1 : IntKind.wrap .i64 (c + 1) = c + 1 := vd4 (by omega) (by omega)
    have w2 : IntKind.wrap .i64 (c + 1 + 1) = c + 2 := by rw [vd4 (by omega) (by omega)]; omega
    have w4 : IntKind.wrap .i64 (c + 2 + 1) = c + 3 := by rw [vd4 (by omega) (by omega)]; omega
    have w3 : IntKind.wrap .i64 ((pre.length : Int) + 1) = ((pre.length + 1 : Nat) : Int) := vkc (by omega)
    have hp : (0 : Int) ≤ (pre.length : Int) := Int.natCast_nonneg _
    have hj' := hj k
    rw [List.length_append, List.length_singleton, List.append_assoc, List.singleton_append, List.append_assoc, List.singleton_append] at hj'
    simp only [vai, vjy, hlt, decide_true, cond_true, vcb (show c ≤ 10000000 by omega), w1, vcb (show c + 1 ≤ 10000000 by omega), Int.toNat_natCast, v1c, vx8, hlt2, hp, and_self, if_true, w2, w3, w4, Sum.elim_inl]
    rw [hj']
    simp only [vkf, List.length_cons]
    congr 2
    push_cast
    omega
theorem v7b {l : List tWrite.D} (hl : l.length ≤ 1048576) {c : Int} (h0 : 0 ≤ c) (hc : c ≤ 5000000) (k) : vu3 c l k = k (c + 3 * l.length, vkf c l) := by
  rw [v03]
  unfold vw0
  obtain ⟨j, hj⟩ := vif l [] c Fuel h0 (by omega) (by simpa using hl) (by have := vk2; omega)
  simp only [List.length_nil, List.nil_append] at hj
  rw [show ((0 : Int)) = ((0 : Nat) : Int) from rfl, hj]
theorem vhk {u0 u2} : ∀ (l : List tRange.D) (c : Int) (i : Nat), 0 ≤ c → c + 2 * l.length ≤ 9000000 → ∃ j : Int, ∀ k, vgg u0 u2 (vks c l) c i k = k (.inr (c + 2 * l.length, j))
  | [], c, i, _, _ => ⟨_, fun k => by simp only [vks, vgg, List.length_nil]; simp; rfl⟩
  | y :: l, c, i, h0, hc => by
    simp only [List.length_cons] at hc
    obtain ⟨j, hj⟩ := vhk (u0 := u0) (u2 := u2) l (c + 2) (i + 1) (by omega) (by omega)
    have w1 : IntKind.wrap .i64 (c + 1) = c + 1 := vd4 (by omega) (by omega)
    have w2 : IntKind.wrap .i64 (c + 1 + 1) = c + 2 := by rw [vd4 (by omega) (by omega)]; omega
    refine ⟨j, fun k => ?_⟩
    simp only [vks, vgg, vcb (show c ≤ 10000000 by omega), w1, vcb (show c + 1 ≤ 10000000 by omega), ved, Bool.not_true, cond_false, w2, hj, List.length_cons]
    congr 3
    push_cast
    omega
theorem vh4 {u0 u2} : ∀ (l : List tWrite.D) (c : Int) (i : Nat), 0 ≤ c → c + 3 * l.length ≤ 9000000 → ∃ j : Int, ∀ k, vgh u0 u2 (vkf c l) c i k = k (.inr (c + 3 * l.length, j))
  | [], c, i, _, _ => ⟨_, fun k => by simp only [vkf, vgh, List.length_nil]; simp; rfl⟩
  | y :: l, c, i, h0, hc => by
    simp only [List.length_cons] at hc
    obtain ⟨j, hj⟩ := vh4 (u0 := u0) (u2 := u2) l (c + 3) (i + 1) (by omega) (by omega)
    have w1 : IntKind.wrap .i64 (c + 1) = c + 1 := vd4 (by omega) (by omega)
    have w2 : IntKind.wrap .i64 (c + 1 + 1) = c + 2 := by rw [vd4 (by omega) (by omega)]; omega
    have w4 : IntKind.wrap .i64 (c + 2 + 1) = c + 3 := by rw [vd4 (by omega) (by omega)]; omega
    refine ⟨j, fun k => ?_⟩
    simp only [vkf, vgh, vcb (show c ≤ 10000000 by omega), w1, vcb (show c + 1 ≤ 10000000 by omega), ved, Bool.not_true, cond_false, w2, w4, hj, List.length_cons, beq_self_eq_true]
    congr 3
    push_cast
    omega
end
end Go.VE
/- Plain laws: a range is read. -/
namespace Go.VE
noncomputable section
set_option linter.unusedVariables false
set_option linter.unusedSimpArgs false
set_option maxRecDepth 100000
theorem vmt {a : tTxn.D} (ha : tTxn.wt a ≤ 1048576) : a.2.2.2.2.1.length ≤ 1048576 ∧ a.2.2.2.2.2.1.length ≤ 1048576 := by
  rw [vvl] at ha
  exact ⟨vg3 (T := tRange) (by omega), vg3 (T := tWrite) (by omega)⟩
theorem v2c {t : tTxn.D} (hr : t.2.2.2.2.1.length ≤ 1048576) (hw : t.2.2.2.2.2.1.length ≤ 1048576) (k) : vlw t k = k (t.1, t.2.1, t.2.2.1, t.2.2.2.1, t.2.2.2.2.2.2.1, t.2.2.2.2.2.2.2, t.2.2.2.2.1, t.2.2.2.2.2.1) := by
  rw [v22]
  unfold vyu
  rw [if_pos (by simp only [List.length_nil, VE.maxLen]; omega), if_pos (by simp only [List.length_nil, VE.maxLen]; omega)]
  rfl
theorem v1e {t : tTxn.D} (hr : t.2.2.2.2.1.length ≤ 1048576) (hw : t.2.2.2.2.2.1.length ≤ 1048576) (k) : vl5 t k = k (t.1, t.2.1, t.2.2.1, t.2.2.2.1, t.2.2.2.2.2.2.1, t.2.2.2.2.2.2.2, t.2.2.2.2.1, t.2.2.2.2.2.1) := by
  rw [v0x]
  unfold vye
  rw [if_pos (by simp only [VE.maxLen]; omega), if_pos (by simp only [VE.maxLen]; omega)]
end
end Go.VE
/- Plain laws: a transaction's marks. -/
namespace Go.VE
noncomputable section
set_option linter.unusedVariables false
set_option linter.unusedSimpArgs false
set_option maxRecDepth 100000
theorem vmb : ∀ (c : Int) (l : List tRange.D), (vks c l).length = l.length
  | _, [] => rfl
  | c, y :: l => by simp [vks, vmb (c + 2) l]
theorem vmi : ∀ (c : Int) (l : List tWrite.D), (vkf c l).length = l.length
  | _, [] => rfl
  | c, y :: l => by simp [vkf, vmi (c + 3) l]
theorem v2k {a0 a1 a2 a3 a4 a5} {r : List tRange.D} {w : List tWrite.D} (hr : r.length ≤ 1048577) (hw : w.length ≤ 1048576) (hr2 : r.length ≤ 1048576) (k) :
    vl6 a0 a1 a2 a3 a4 a5 1 r w k = k (1 + 2 * (r.length : Int) + 3 * (w.length : Int), vks 1 r, vkf (1 + 2 * (r.length : Int)) w) := by
  rw [v3h]
  unfold vw2
  simp only [v7l hr2 (show (0 : Int) ≤ 1 by decide) (show (1 : Int) ≤ 5000000 by decide), v7b hw (show (0 : Int) ≤ 1 + 2 * (r.length : Int) by omega) (show 1 + 2 * (r.length : Int) ≤ 5000000 by omega)]
theorem vni {a b c d : Int} {f : Bool} {n : ByteArray} {r : List tRange.D} {w : List tWrite.D} (hr : r.length ≤ 1048576) (hw : w.length ≤ 1048576) (k) :
    vma (a, (b, (c, (d, (vks 1 r, (vkf (1 + 2 * (r.length : Int)) w, (f, n))))))) 1 k = k (1 + 2 * (r.length : Int) + 3 * (w.length : Int)) := by
  have h1 : ∀ k, vqn (vks 1 r) 1 k = k (1 + 2 * (r.length : Int)) := fun k => by
    rw [v79 (by rw [vmb]; omega)]
    unfold v2i
    obtain ⟨j, hj⟩ := vhk (u0 := vks 1 r) (u2 := 0) r 1 0 (by decide) (by omega)
    rw [hj]; rfl
  have h2 : ∀ k, vp6 (vkf (1 + 2 * (r.length : Int)) w) (1 + 2 * (r.length : Int)) k = k (1 + 2 * (r.length : Int) + 3 * (w.length : Int)) := fun k => by
    rw [v9q (by rw [vmi]; omega)]
    unfold v0s
    obtain ⟨j, hj⟩ := vh4 (u0 := vkf (1 + 2 * (r.length : Int)) w) (u2 := 0) w (1 + 2 * (r.length : Int)) 0 (by omega) (by omega)
    rw [hj]; rfl
  rw [v1v]
  unfold vx4
  simp only [h1, h2, decide_eq_false (show ¬ (1 + 2 * (r.length : Int)) < 0 by omega), decide_eq_false (show ¬ (1 + 2 * (r.length : Int) + 3 * (w.length : Int)) < 0 by omega), cond_false]
end
end Go.VE
/- Plain laws: keys in order; what a scan sees. -/
namespace Go.VE
noncomputable section
set_option linter.unusedVariables false
set_option linter.unusedSimpArgs false
set_option maxRecDepth 100000
/-! ### the order of texts -/
theorem vq8 (x y : ByteArray) : vac x y = decide (x.data.toList < y.data.toList) := by
  rw [vdh, ByteArray.toList_eq, ByteArray.toList_eq]
  exact Go.Proofs.bytesLess_eq _ _
theorem vgv {x y z : ByteArray} (h1 : vac x y = true) (h2 : vac y z = true) : vac x z = true := by
  rw [vq8] at *
  exact decide_eq_true (List.lt_trans (of_decide_eq_true h1) (of_decide_eq_true h2))
theorem vt0 {x y : ByteArray} (h1 : vac x y = false) (h2 : vac y x = false) : x = y := by
  rw [vq8] at *
  have a := List.not_lt.1 (of_decide_eq_false h1)
  have b := List.not_lt.1 (of_decide_eq_false h2)
  exact vug (List.le_antisymm b a)
end
end Go.VE
/- Plain laws: a write that is put into others. -/
namespace Go.VE
noncomputable section
set_option linter.unusedVariables false
set_option linter.unusedSimpArgs false
set_option maxRecDepth 100000
theorem vlk {u0 u2 u3 u4} : ∀ (l s : List tWrite.D) (i : Nat), s.length + l.length ≤ 3000000 → ∃ j : Int, ∀ k, vfv u0 u2 u3 u4 l s i k = k (j, s ++ l.filter fun y => vac y.1 u2)
  | [], s, i, _ => ⟨_, fun k => by simp [vfv]; rfl⟩
  | y :: l, s, i, h => by
    simp only [List.length_cons] at h
    have hm : s.length + [y].length ≤ VE.maxLen := by show _ ≤ 4294967296; simp; omega
    simp only [vfv, List.filter_cons]
    cases vac y.1 u2
    · obtain ⟨j, hj⟩ := vlk (u0 := u0) (u2 := u2) (u3 := u3) (u4 := u4) l s (i + 1) (by omega)
      exact ⟨j, fun k => by simp only [cond_false]; exact hj k⟩
    · obtain ⟨j, hj⟩ := vlk (u0 := u0) (u2 := u2) (u3 := u3) (u4 := u4) l (s ++ [y]) (i + 1) (by simp; omega)
      exact ⟨j, fun k => by simp only [cond_true, if_pos hm, if_true]; rw [hj k, List.append_assoc, List.singleton_append]⟩
theorem vln {u0 u2 u3 u4} : ∀ (l s : List tWrite.D) (i : Nat), s.length + l.length ≤ 3000000 → ∃ j : Int, ∀ k, vfe u0 u2 u3 u4 l s i k = k (j, s ++ l.filter fun y => !(vac y.1 u2 || vay y.1 u2))
  | [], s, i, _ => ⟨_, fun k => by simp [vfe]; rfl⟩
  | y :: l, s, i, h => by
    simp only [List.length_cons] at h
    have hm : s.length + [y].length ≤ VE.maxLen := by show _ ≤ 4294967296; simp; omega
    simp only [vfe, List.filter_cons]
    cases (!(vac y.1 u2 || vay y.1 u2))
    · obtain ⟨j, hj⟩ := vln (u0 := u0) (u2 := u2) (u3 := u3) (u4 := u4) l s (i + 1) (by omega)
      exact ⟨j, fun k => by simp only [cond_false]; exact hj k⟩
    · obtain ⟨j, hj⟩ := vln (u0 := u0) (u2 := u2) (u3 := u3) (u4 := u4) l (s ++ [y]) (i + 1) (by simp; omega)
      exact ⟨j, fun k => by simp only [cond_true, if_pos hm, if_true]; rw [hj k, List.append_assoc, List.singleton_append]⟩
def putB (l : List tWrite.D) (w : tWrite.D) : List tWrite.D := (l.filter fun y => vac y.1 w.1) ++ w :: l.filter fun y => !(vac y.1 w.1 || vay y.1 w.1)
theorem v7a {l : List tWrite.D} (hl : l.length ≤ 1048576) (w : tWrite.D) (k) : vn9 l w k = k (putB l w) := by
  rw [v8a (by omega)]
  unfold v1z
  obtain ⟨j, hj⟩ := vlk (u0 := l) (u2 := w.1) (u3 := w.2.1) (u4 := w.2.2) l [] 0 (by simp; omega)
  have hf := List.length_filter_le (fun y : tWrite.D => vac y.1 w.1) l
  obtain ⟨j2, hj2⟩ := vln (u0 := l) (u2 := w.1) (u3 := w.2.1) (u4 := w.2.2) l ((l.filter fun y => vac y.1 w.1) ++ [w]) 0 (by simp; omega)
  rw [hj]
  simp only [List.nil_append]
  rw [if_pos (by show _ ≤ 4294967296; simp only [List.length_singleton]; omega), hj2]
  unfold putB
  rw [List.append_assoc, List.singleton_append]
end
end Go.VE
/- Plain laws: a key that is written. -/
namespace Go.VE
noncomputable section
set_option linter.unusedVariables false
set_option linter.unusedSimpArgs false
set_option maxRecDepth 100000
/-! ### the program's PutWrite -/
theorem vvb {u1 u2 : ByteArray} {u3 : Bool} {L : List tWrite.D} (hL : L.length ≤ 1048576) : ∀ (l : List tWrite.D) (i q : Nat), L.drop i = l → l.length < q → ∀ K,
    vai vj6 q ((i : Int), u1, u2, u3, L) K = K (((i + (l.takeWhile fun y => vac y.1 u1).length : Nat) : Int), u1, u2, u3, L)
  | l, i, 0, _, h => by omega
  | [], i, q + 1, hd, _ => fun K => by
    have hge := vcq hd
    simp only [vai, vj6, hge, decide_false, cond_false, Sum.elim_inr, List.takeWhile_nil, List.length_nil, Nat.add_zero]
  | y :: l, i, q + 1, hd, hq => fun K => by
    have hlt := vhg hd
    have hy : L.getD i (Ty.zero tWrite) = y := (vby hd).2 _
    have hw1 : IntKind.wrap .i64 ((i : Int) + 1) = ((i + 1 : Nat) : Int) := vkc (by omega)
    have ih := vvb (u1 := u1) (u2 := u2) (u3 := u3) hL l (i + 1) q (ven hd) (by simpa using hq) K
    simp only [vai, vj6, vc9, show (i : Int) < (L.length : Int) by omega, show (0 : Int) ≤ (i : Int) by omega, and_self, if_true, decide_true, cond_true, Int.toNat_natCast, hy, hw1, List.takeWhile_cons]
    cases vac y.1 u1
    · simp only [cond_false, Sum.elim_inr, Bool.false_eq_true, if_false, List.length_nil, Nat.add_zero]
    · simp only [cond_true, Sum.elim_inl, if_true, List.length_cons]
      rw [ih]
      congr 2
      omega
/-- Keys ascend. -/
def ascW (l : List tWrite.D) : Prop := l.Pairwise fun a b => vac a.1 b.1 = true
theorem vzz {l : List tWrite.D} (h : ascW l) (u : ByteArray) : l.takeWhile (fun y => vac y.1 u) = l.filter (fun y => vac y.1 u) ∧
    l.dropWhile (fun y => vac y.1 u) = l.filter (fun y => !vac y.1 u) := by
  induction l with
  | nil => exact ⟨rfl, rfl⟩
  | cons y l ih =>
    obtain ⟨h1, h2⟩ := List.pairwise_cons.1 h
    obtain ⟨a, b⟩ := ih h2
    cases hy : vac y.1 u with
    | true => simp [List.takeWhile_cons, List.dropWhile_cons, List.filter_cons, hy, a, b]
    | false =>
      have hall : ∀ z ∈ l, vac z.1 u = false := fun z hz => by
        cases hz2 : vac z.1 u with
        | false => rfl
        | true => rw [vgv (h1 z hz) hz2] at hy; cases hy
      have e1 : l.filter (fun y => vac y.1 u) = [] := List.filter_eq_nil_iff.2 fun z hz => by simp [hall z hz]
      have e2 : l.filter (fun y => !vac y.1 u) = l := List.filter_eq_self.2 fun z hz => by simp [hall z hz]
      simp [List.takeWhile_cons, List.dropWhile_cons, List.filter_cons, hy, e1, e2]
theorem vox (x : ByteArray) : vac x x = false := by
  cases h : vac x x
  · rfl
  · have := vgv h h
    rw [vdh] at h
    rw [Go.Proofs.bytesLess_eq, decide_eq_true_eq] at h
    exact absurd h (List.lt_irrefl _)
theorem v7u {l : List tWrite.D} (hl : l.length ≤ 1048576) (ha : ascW l) (w : tWrite.D) (k) : vqj l w k = k (putB l w) := by
  rw [v1g]
  unfold vwz
  rw [if_pos (by show _ ≤ 4294967296; omega)]
  have hj := vvb (u1 := w.1) (u2 := w.2.1) (u3 := w.2.2) hl l 0 Fuel rfl (vb2 (by omega))
  have hz : ((0 : Nat) : Int) = 0 := rfl
  rw [hz] at hj
  rw [hj]
  obtain ⟨s1, s2⟩ := vzz ha w.1
  generalize hP : l.takeWhile (fun y => vac y.1 w.1) = P at s1 s2
  generalize hD : l.dropWhile (fun y => vac y.1 w.1) = D at s1 s2
  have hPD : l = P ++ D := by rw [← hP, ← hD]; exact (List.takeWhile_append_dropWhile).symm
  have hlen : l.length = P.length + D.length := by rw [hPD, List.length_append]
  simp only [Nat.zero_add]
  have hins : insL l (P.length : Int) [(w.1, (w.2.1, w.2.2))] = P ++ w :: D := by
    unfold insL
    rw [Int.toNat_natCast, hPD, List.take_left, List.drop_left, List.append_assoc, List.singleton_append]
  have hasc : D.Pairwise fun a b => vac a.1 b.1 = true := by rw [s2]; exact List.Pairwise.filter _ ha
  cases hDD : D with
  | nil =>
    have e : ¬ ((P.length : Int) < (l.length : Int)) := by rw [hlen, hDD]; simp
    simp only [e, decide_false, cond_false]
    rw [vxg]
    unfold vqk
    rw [if_pos ⟨by omega, by omega, by simp, by simp; omega⟩, hins]
    unfold putB
    rw [← s1, hDD]
    have : (l.filter fun y => !(vac y.1 w.1 || vay y.1 w.1)) = [] := by
      have h0 : l.filter (fun y => !vac y.1 w.1) = [] := by rw [← s2, hDD]
      rw [List.filter_eq_nil_iff] at h0 ⊢
      intro z hz
      have := h0 z hz
      cases h1 : vac z.1 w.1 with
      | true => simp
      | false => rw [h1] at this; exact absurd rfl this
    rw [this]
  | cons d D' =>
    have e : ((P.length : Int) < (l.length : Int)) := by rw [hlen, hDD]; simp; omega
    have hd0 : vac d.1 w.1 = false := by
      have : d ∈ l.filter (fun y => !vac y.1 w.1) := by rw [← s2, hDD]; simp
      simpa using (List.mem_filter.1 this).2
    have hget : l.getD P.length (Ty.zero tWrite) = d := by rw [hPD, hDD]; simp
    have hrest : ∀ z ∈ D', vac d.1 z.1 = true := fun z hz => by rw [hDD] at hasc; exact (List.pairwise_cons.1 hasc).1 z hz
    have hf : (l.filter fun y => !(vac y.1 w.1 || vay y.1 w.1)) = D.filter fun y => !vay y.1 w.1 := by
      rw [s2, List.filter_filter]
      congr 1
      funext y
      cases vac y.1 w.1 <;> cases vay y.1 w.1 <;> rfl
    have hD'ne : vay d.1 w.1 = true ∨ vac w.1 d.1 = true := by
      cases h1 : vay d.1 w.1 with
      | true => exact .inl rfl
      | false =>
        refine .inr ?_
        cases h2 : vac w.1 d.1 with
        | true => rfl
        | false => rw [vt0 hd0 h2, ved] at h1; cases h1
    have hD'f : D'.filter (fun y => !vay y.1 w.1) = D' := List.filter_eq_self.2 fun z hz => by
      have hzd := hrest z hz
      cases h1 : vay z.1 w.1 with
      | false => rfl
      | true =>
        have hzw : z.1 = w.1 := vlo h1
        rw [hzw] at hzd
        rcases hD'ne with h2 | h2
        · rw [vlo h2, vox] at hzd; cases hzd
        · have := vgv hzd h2
          rw [vox] at this; cases this
    simp only [e, decide_true, cond_true]
    rw [if_pos ⟨by omega, trivial⟩, Int.toNat_natCast, hget]
    unfold putB
    rw [← s1, hf, hDD, List.filter_cons]
    cases he : vay d.1 w.1 with
    | true =>
      simp only [cond_true, Bool.not_true, Bool.false_eq_true, if_false, hD'f]
      rw [if_pos ⟨by omega, trivial⟩, hPD, hDD]
      congr 1
      rw [List.set_append_right _ _ (Nat.le_refl _), Nat.sub_self, List.set_cons_zero]
    | false =>
      simp only [cond_false, Bool.not_false, if_true, hD'f]
      rw [vxg]
      unfold vqk
      rw [if_pos ⟨by omega, by omega, by simp, by simp; omega⟩, hins, hDD]
theorem vjb : ∀ (l : List tWrite.D) (p : Option tWrite.D), vbh p l = true → ascW l ∧ (∀ x, p = some x → ∀ y ∈ l, vac x.1 y.1 = true) ∧ ∀ y ∈ l, vbd y = true
  | [], p, _ => ⟨List.Pairwise.nil, (fun _ _ y hy => by simp at hy), (fun y hy => by simp at hy)⟩
  | y :: l, p, h => by
    simp only [vbh, Bool.and_eq_true] at h
    obtain ⟨⟨h1, h2⟩, h3⟩ := h
    obtain ⟨a, b, c⟩ := vjb l (some y) h3
    refine ⟨List.pairwise_cons.2 ⟨b y rfl, a⟩, fun x hx z hz => ?_, fun z hz => ?_⟩
    · subst hx
      rcases List.mem_cons.1 hz with e | e
      · rw [e]; exact h2
      · exact vgv h2 (b y rfl z e)
    · rcases List.mem_cons.1 hz with e | e
      · rw [e]; exact h1
      · exact c z e
theorem vuc {t : tTxn.D} (h : vdv t = true) : vbm t.2.2.2.2.2.1 = true := by
  unfold vdv at h
  simp only [Bool.and_eq_true] at h
  exact h.1.1.1.1.1.1.2
theorem vyz {t : tTxn.D} (h : vdv t = true) (W : List tWrite.D) : vdv (t.1, (t.2.1, (t.2.2.1, (t.2.2.2.1, (t.2.2.2.2.1, (W, (t.2.2.2.2.2.2.1, t.2.2.2.2.2.2.2))))))) = vbm W := by
  unfold vdv at h ⊢
  simp only [Bool.and_eq_true] at h
  obtain ⟨⟨⟨⟨⟨⟨⟨⟨⟨⟨a1, a2⟩, a3⟩, a4⟩, a5⟩, a6⟩, a7⟩, a8⟩, a9⟩, a10⟩, a11⟩ := h
  simp only [a1, a2, a3, a4, a6, a7, a8, a9, a10, a11, Bool.true_and, Bool.and_true]
theorem v4i {l : List tWrite.D} {w y : tWrite.D} (h : y ∈ putB l w) : y ∈ l ∨ y = w := by
  unfold putB at h
  rcases List.mem_append.1 h with h | h
  · exact .inl (List.mem_filter.1 h).1
  · rcases List.mem_cons.1 h with h | h
    · exact .inr h
    · exact .inl (List.mem_filter.1 h).1
theorem vov (l : List tWrite.D) (w : tWrite.D) : (putB l w).length ≤ l.length + 1 := by
  unfold putB
  have h1 : l.length = (l.filter fun y => vac y.1 w.1).length + (l.filter fun y => !vac y.1 w.1).length := by
    induction l with
    | nil => rfl
    | cons y l ih => cases h : vac y.1 w.1 <;> simp [List.filter_cons, h] <;> omega
  have h2 : (l.filter fun y => !(vac y.1 w.1 || vay y.1 w.1)).length ≤ (l.filter fun y => !vac y.1 w.1).length := by
    have : (l.filter fun y => !(vac y.1 w.1 || vay y.1 w.1)) = (l.filter fun y => !vac y.1 w.1).filter fun y => !vay y.1 w.1 := by
      rw [List.filter_filter]
      congr 1
      funext y
      cases vac y.1 w.1 <;> cases vay y.1 w.1 <;> rfl
    rw [this]
    exact List.length_filter_le _ _
  rw [List.length_append, List.length_cons]
  omega
theorem vss {y : tWrite.D} (h : vbd y = true) : y.1.size ≤ 3 ∧ y.2.1.size ≤ 12 := by
  unfold vbd at h
  simp only [Bool.and_eq_true, decide_eq_true_eq] at h
  exact ⟨by have := vf8 h.1.1; omega, by omega⟩
/-- What WriteKey leaves: whether it did, and the writes. -/
def vct (t : tTxn.D) (w : tWrite.D) : Bool × List tWrite.D :=
  bif !vdv t then (false, t.2.2.2.2.2.1) else bif t.2.1 != 1 then (false, t.2.2.2.2.2.1) else bif !vbd w then (false, t.2.2.2.2.2.1) else
  bif !vbm (putB t.2.2.2.2.2.1 w) then (false, t.2.2.2.2.2.1) else (true, putB t.2.2.2.2.2.1 w)
theorem v7p {t : tTxn.D} (h : vdv t = true) {w : tWrite.D} (hw : vbd w = true) : okW 65 (putB t.2.2.2.2.2.1 w) := by
  have hs := vjz h
  refine ⟨by have := vov t.2.2.2.2.2.1 w; have := hs.2.2.2.2.2.2.1; omega, fun y hy => ?_⟩
  rcases v4i hy with hy | rfl
  · have := hs.2.2.2.2.2.2.2.1 y hy; omega
  · have := vss hw; omega
theorem v5x {t : tTxn.D} (h : vdv t = true) {w : tWrite.D} (hw : vbd w = true) : (Ty.slice tWrite).wt (putB t.2.2.2.2.2.1 w) ≤ 1048576 ∧
    tTxn.wt (t.1, (t.2.1, (t.2.2.1, (t.2.2.2.1, (t.2.2.2.2.1, (putB t.2.2.2.2.2.1 w, (t.2.2.2.2.2.2.1, t.2.2.2.2.2.2.2))))))) ≤ 1048576 := by
  have hk := v7p h hw
  have hs := vjz h
  have h2 := v2m (T := tWrite) (c := 40) (l := putB t.2.2.2.2.2.1 w) (fun y hy => by have := hk.2 y hy; rw [vta]; omega)
  have h1 := v2m (T := tRange) (c := 40) (l := t.2.2.2.2.1) (fun y hy => by have := hs.2.2.2.2.2.1 y hy; rw [vsz]; omega)
  have e := vvl (t.1, (t.2.1, (t.2.2.1, (t.2.2.2.1, (t.2.2.2.2.1, (putB t.2.2.2.2.2.1 w, (t.2.2.2.2.2.2.1, t.2.2.2.2.2.2.2)))))))
  have hl := hk.1
  have hr := hs.2.2.2.2.1
  have hn := hs.2.2.2.2.2.2.2.2
  rw [Ty.wt_slice, Ty.wt_slice] at e
  dsimp only at e
  constructor
  · rw [Ty.wt_slice]; omega
  · rw [e]; omega
theorem v7f {t : tTxn.D} (ht : tTxn.wt t ≤ 1048576) {w : tWrite.D} (hw : tWrite.wt w ≤ 1048576) (k) : vot t w k = k (t.1, t.2.1, t.2.2.1, t.2.2.2.1, t.2.2.2.2.2.2.1, t.2.2.2.2.2.2.2, (vct t w).1, t.2.2.2.2.1, (vct t w).2) := by
  have hl := vmt ht
  rw [v8y]
  unfold v0q vct
  simp only [v2c hl.1 hl.2, v7j ht, v10 hw]
  cases hok : vdv t
  · rfl
  · simp only [Bool.not_true, cond_false]
    cases t.2.1 != 1
    · cases hwo : vbd w
      · rfl
      · simp only [Bool.not_true, cond_false]
        unfold vdk
        simp only [v7a hl.2, vr2, v0z (v5x hok hwo).1, v2c hl.1 hl.2]
        cases vbm (putB t.2.2.2.2.2.1 w) <;> rfl
    · rfl
theorem v7q {t : tTxn.D} (ht : tTxn.wt t ≤ 1048576) {w : tWrite.D} (hw : tWrite.wt w ≤ 1048576) (k) : vkh t w k = k (t.1, t.2.1, t.2.2.1, t.2.2.2.1, t.2.2.2.2.2.2.1, t.2.2.2.2.2.2.2, (vct t w).1, t.2.2.2.2.1, (vct t w).2) := by
  have hl := vmt ht
  rw [v88]
  unfold v12 vct
  simp only [v1e hl.1 hl.2, v2e ht, v2d hw]
  cases hok : vdv t
  · rfl
  · simp only [Bool.not_true, cond_false]
    cases t.2.1 != 1
    · cases hwo : vbd w
      · rfl
      · simp only [Bool.not_true, cond_false]
        have hwr := vuc hok
        unfold vbm at hwr
        rw [Bool.and_eq_true] at hwr
        have ha := (vjb _ _ hwr.1).1
        have hsw := vyz hok (putB t.2.2.2.2.2.1 w)
        have hT := fun k => v2e (v5x hok hwo).2 k
        unfold vdn
        simp only [v7u hl.2 ha, vr2, hT, hsw, v1e hl.1 hl.2]
        cases vbm (putB t.2.2.2.2.2.1 w) <;> rfl
    · rfl
theorem vuw {t : tTxn.D} (ht : tTxn.wt t ≤ 1048576) (w : tWrite.D) : (vct t w).2.length ≤ 1048576 := by
  have hl := (vmt ht).2
  unfold vct
  cases hok : vdv t
  · exact hl
  · have h8 := (vjz hok).2.2.2.2.2.2.1
    have := vov t.2.2.2.2.2.1 w
    simp only [cond_eq_ite]
    repeat' split
    all_goals first | exact hl | (show (putB _ _).length ≤ _; omega)
end
end Go.VE
/- The plain laws. -/
namespace Go.VE
set_option linter.unusedVariables false
set_option linter.unusedSimpArgs false
set_option maxRecDepth 100000
theorem vji (x : tTxn.D) (y : tWrite.D) (hx : tTxn.wf x) (hy : tWrite.wf y) (k : Bool → Option Res) : vt9 x y k = k true := by
  rw [v8z]
  unfold v2q
  obtain ⟨r0, q0, p0⟩ := v32 hx (a := 1048576) (by omega) (by omega)
  rw [q0]
  rcases p0 with p0 | ⟨p0, e0⟩
  · simp [p0]
  have c0 : ¬ r0 < 0 := by omega
  simp only [c0, decide_false, cond_false]
  obtain ⟨r1, q1, p1⟩ := vqr hy (a := r0) p0 (by omega)
  rw [q1]
  rcases p1 with p1 | ⟨p1, e1⟩
  · simp [p1]
  have c1 : ¬ r1 < 0 := by omega
  simp only [c1, decide_false, cond_false]
  have wx : tTxn.wt x ≤ 1048576 := by omega
  have wy : tWrite.wt y ≤ 1048576 := by omega
  have hl := vmt wx
  have hq := vuw wx y
  have hE := fun k => vq3 (x.1, (x.2.1, (x.2.2.1, (x.2.2.2.1, (x.2.2.2.2.1, ((vct x y).2, (x.2.2.2.2.2.2.1, x.2.2.2.2.2.2.2))))))) hl.1 hq k
  have hM1 := fun (a0 a1 a2 a3 a4 a5) k => v2k (a0 := a0) (a1 := a1) (a2 := a2) (a3 := a3) (a4 := a4) (a5 := a5) (show x.2.2.2.2.1.length ≤ 1048577 by omega) hl.2 hl.1 k
  have hM2 := fun (a0 a1 a2 a3 a4 a5) k => v2k (a0 := a0) (a1 := a1) (a2 := a2) (a3 := a3) (a4 := a4) (a5 := a5) (show x.2.2.2.2.1.length ≤ 1048577 by omega) hq hl.1 k
  have hH1 := fun (a b c d f n) k => vni (a := a) (b := b) (c := c) (d := d) (f := f) (n := n) hl.1 hl.2 k
  have hH2 := fun (a b c d f n) k => vni (a := a) (b := b) (c := c) (d := d) (f := f) (n := n) hl.1 hq k
  have hn1 : decide (1 + 2 * (x.2.2.2.2.1.length : Int) + 3 * (x.2.2.2.2.2.1.length : Int) < 0) = false := decide_eq_false (by omega)
  have hn2 : decide (1 + 2 * (x.2.2.2.2.1.length : Int) + 3 * ((vct x y).2.length : Int) < 0) = false := decide_eq_false (by omega)
  simp only [v7o wx, vqg, v7f wx wy, v7q wx wy, v71 wx, hE, hM1, hM2, hH1, hH2, hn1, hn2, Sum.elim_inl, Sum.elim_inr, vdm, vdo, vdp, vr2, beq_self_eq_true, bne_self_eq_false, Bool.not_true, Bool.not_false, cond_true, cond_false]
end Go.VE
