/- Plain laws: keys, ranges, writes, transactions, who is ahead of whom. -/
import Derived.Test.YteolgjmeigifbaaBeginL
namespace Go.VE
noncomputable section
set_option linter.unusedVariables false
set_option linter.unusedSimpArgs false
set_option maxRecDepth 100000
def vbp (n lo hi : Int) : Bool := decide (n ≥ lo) && decide (n ≤ hi)
theorem v2n (a b c) (k) : vde a b c k = k (vbp a b c) := by
  rw [wmm]; unfold wci vbp; cases decide (a ≥ b) <;> rfl
theorem vuq (a b c) (k) : vdg a b c k = k (vbp a b c) := by
  rw [wk3]; unfold wei vbp; cases decide (a ≥ b) <;> rfl
def vdw (s : ByteArray) : Bool := !((vcs s).any fun y => decide (y < 97) || decide (y > 122)) && vbp s.size 1 3
theorem vz5 {u0} {u1} : ∀ l i, ∃ j : Int, ∀ k, vlp u0 u1 l i k = k (bif l.any (fun y => decide (y < 97) || decide (y > 122)) then .inl (false, j) else .inr j)
  | [], i => ⟨_, fun k => rfl⟩
  | y :: l, i => by
    obtain ⟨j, hj⟩ := vz5 (u0 := u0) (u1 := u1) l (i + 1)
    simp only [vlp, hj, List.any_cons]
    cases hp : (decide (y < 97) || decide (y > 122))
    · exact ⟨j, fun k => by (try simp only [Bool.false_or]) <;> (try (revert hp; cases decide (y < 97) <;> cases decide (y > 122) <;> simp))⟩
    · exact ⟨(i : Int), fun k => by (try simp only [Bool.true_or, cond_true]) <;> (try (revert hp; cases decide (y < 97) <;> cases decide (y > 122) <;> simp))⟩
theorem vww {s : ByteArray} (hs : s.size ≤ 1048576) (k) : vi2 s k = k (vdw s) := by
  rw [w02 (by omega)]
  unfold wlc vdw
  obtain ⟨j, hj⟩ := vz5 (u0 := s) (u1 := false) (vcs s) 0
  rw [hj]
  cases ((vcs s).any fun y => decide (y < 97) || decide (y > 122))
  · simp [v2n]
  · rfl
theorem vzq {u0} {u1} : ∀ l i, ∃ j : Int, ∀ k, vl0 u0 u1 l i k = k (bif l.any (fun y => decide (y < 97) || decide (y > 122)) then .inl (false, j) else .inr j)
  | [], i => ⟨_, fun k => rfl⟩
  | y :: l, i => by
    obtain ⟨j, hj⟩ := vzq (u0 := u0) (u1 := u1) l (i + 1)
    simp only [vl0, hj, List.any_cons]
    cases hp : (decide (y < 97) || decide (y > 122))
    · exact ⟨j, fun k => by (try simp only [Bool.false_or]) <;> (try (revert hp; cases decide (y < 97) <;> cases decide (y > 122) <;> simp))⟩
    · exact ⟨(i : Int), fun k => by (try simp only [Bool.true_or, cond_true]) <;> (try (revert hp; cases decide (y < 97) <;> cases decide (y > 122) <;> simp))⟩
theorem vu4 {s : ByteArray} (hs : s.size ≤ 1048576) (k) : vi1 s k = k (vdw s) := by
  rw [w08 (by omega)]
  unfold wg3 vdw
  obtain ⟨j, hj⟩ := vzq (u0 := s) (u1 := false) (vcs s) 0
  rw [hj]
  cases ((vcs s).any fun y => decide (y < 97) || decide (y > 122))
  · simp [vuq]
  · rfl
def vev (r : tRange.D) : Bool := vdw r.1 && vdw r.2 && (va2 r.1 r.2 || vbd r.1 r.2)
def vhe (w : tWrite.D) : Bool := vdw w.1 && decide ((w.2.1.size : Int) ≤ 12) && (!w.2.2 || vbd w.2.1 ⟨#[]⟩)
/-- Behind one that stood before: all right, keys ascending. -/
def veg : Option tWrite.D → List tWrite.D → Bool
  | _, [] => true
  | p, y :: l => vhe y && (match p with | none => true | some x => va2 x.1 y.1) && veg (some y) l
def vhv (l : List tWrite.D) : Bool := veg none l && decide ((l.length : Int) ≤ 8)
theorem wuq {r : tRange.D} (hr : tRange.wt r ≤ 1048576) (k) : vw9 r k = k (vev r) := by
  rw [v9y] at hr
  rw [wip]
  unfold wan vev
  simp only [vww (show r.1.size ≤ 1048576 by omega), vww (show r.2.size ≤ 1048576 by omega)]
  cases vdw r.1 <;> cases vdw r.2 <;> simp
theorem wvd {r : tWrite.D} (hr : tWrite.wt r ≤ 1048576) (k) : vwo r k = k (vhe r) := by
  rw [v6i] at hr
  rw [wkl]
  unfold wdc vhe
  simp only [vww (show r.1.size ≤ 1048576 by omega)]
  cases vdw r.1 <;> cases decide ((r.2.1.size : Int) ≤ 12) <;> cases r.2.2 <;> simp
theorem vzf {u0 : List tWrite.D} (hu : ∀ y ∈ u0, tWrite.wt y ≤ 1048576) (hl : u0.length ≤ 1048576) {u1 u2} : ∀ (l : List tWrite.D) (i : Nat), u0.drop i = l → ∃ j : Int, ∀ k,
    vj5 u0 u1 u2 l i k = k (bif veg (if i = 0 then none else some (u0.getD (i - 1) (Ty.zero tWrite))) l then .inr j else .inl (false, j))
  | [], i, _ => ⟨_, fun k => rfl⟩
  | y :: l, i, h => by
    obtain ⟨j, hj⟩ := vzf hu hl (u1 := u1) (u2 := u2) l (i + 1) (vbj h)
    have hlt := vca h
    have hy := (vaw h).2 (Ty.zero tWrite)
    rw [if_neg (by omega), show i + 1 - 1 = i by omega, hy] at hj
    simp only [vj5, wvd (hu y (vbx h)), hj, veg]
    by_cases hi : i = 0
    · subst hi
      simp only [if_pos, show ¬ ((0 : Nat) : Int) > 0 by omega, decide_false, cond_false, Bool.and_true]
      cases vhe y
      · exact ⟨((0 : Nat) : Int), fun k => by simp⟩
      · exact ⟨j, fun k => by simp⟩
    · have hw : IntKind.wrap .i64 ((i : Int) - 1) = ((i - 1 : Nat) : Int) := by rw [vbb (by omega) (by omega)]; omega
      have hrd : rd (Ty.zero (.pair .str (.pair .str .bool))) u0 ((i - 1 : Nat) : Int) = u0.getD (i - 1) (Ty.zero tWrite) := rfl
      simp only [if_neg hi, show (i : Int) > 0 by omega, decide_true, cond_true, hw, hrd, if_pos (show 0 ≤ ((i - 1 : Nat) : Int) ∧ ((i - 1 : Nat) : Int) < (u0.length : Int) by omega)]
      cases vhe y
      · exact ⟨(i : Int), fun k => by simp⟩
      · cases va2 (u0.getD (i - 1) (Ty.zero tWrite)).1 y.1
        · exact ⟨(i : Int), fun k => by simp⟩
        · exact ⟨j, fun k => by simp⟩
theorem wu9 {x : List tWrite.D} (hx : (Ty.slice tWrite).wt x ≤ 1048576) (k) : vtt x k = k (vhv x) := by
  have hl := vb1 hx
  rw [w0c (by omega)]
  unfold wkr vhv
  obtain ⟨j, hj⟩ := vzf (u0 := x) (fun y hy => vbt hy hx) hl (u1 := false) (u2 := x) x 0 rfl
  rw [hj]
  simp only [if_true]
  cases veg none x <;> rfl
theorem wvh {r : tRange.D} (hr : tRange.wt r ≤ 1048576) (k) : vwj r k = k (vev r) := by
  rw [v9y] at hr
  rw [wgm]
  unfold wb8 vev
  simp only [vu4 (show r.1.size ≤ 1048576 by omega), vu4 (show r.2.size ≤ 1048576 by omega)]
  cases vdw r.1 <;> cases vdw r.2 <;> simp
theorem wva {r : tWrite.D} (hr : tWrite.wt r ≤ 1048576) (k) : vw2 r k = k (vhe r) := by
  rw [v6i] at hr
  rw [wi1]
  unfold wbr vhe
  simp only [vu4 (show r.1.size ≤ 1048576 by omega)]
  cases vdw r.1 <;> cases decide ((r.2.1.size : Int) ≤ 12) <;> cases r.2.2 <;> simp
theorem v0q {u0 : List tWrite.D} (hu : ∀ y ∈ u0, tWrite.wt y ≤ 1048576) (hl : u0.length ≤ 1048576) {u1} : ∀ (l : List tWrite.D) (i : Nat), u0.drop i = l → ∃ j : Int, ∀ k,
    vjr u0 u1 l i k = k (bif veg (if i = 0 then none else some (u0.getD (i - 1) (Ty.zero tWrite))) l then .inr j else .inl (false, j))
  | [], i, _ => ⟨_, fun k => rfl⟩
  | y :: l, i, h => by
    obtain ⟨j, hj⟩ := v0q hu hl (u1 := u1) l (i + 1) (vbj h)
    have hlt := vca h
    have hy := (vaw h).2 (Ty.zero tWrite)
    rw [if_neg (by omega), show i + 1 - 1 = i by omega, hy] at hj
    simp only [vjr, wva (hu y (vbx h)), hj, veg]
    by_cases hi : i = 0
    · subst hi
      simp only [if_pos, show ¬ ((0 : Nat) : Int) > 0 by omega, decide_false, cond_false, Bool.and_true]
      cases vhe y
      · exact ⟨((0 : Nat) : Int), fun k => by simp⟩
      · exact ⟨j, fun k => by simp⟩
    · have hw : IntKind.wrap .i64 ((i : Int) - 1) = ((i - 1 : Nat) : Int) := by rw [vbb (by omega) (by omega)]; omega
      have hrd : rd (Ty.zero (.pair .str (.pair .str .bool))) u0 ((i - 1 : Nat) : Int) = u0.getD (i - 1) (Ty.zero tWrite) := rfl
      simp only [if_neg hi, show (i : Int) > 0 by omega, decide_true, cond_true, hw, hrd, if_pos (show 0 ≤ ((i - 1 : Nat) : Int) ∧ ((i - 1 : Nat) : Int) < (u0.length : Int) by omega)]
      cases vhe y
      · exact ⟨(i : Int), fun k => by simp⟩
      · cases va2 (u0.getD (i - 1) (Ty.zero tWrite)).1 y.1
        · exact ⟨(i : Int), fun k => by simp⟩
        · exact ⟨j, fun k => by simp⟩
theorem wvu {x : List tWrite.D} (hx : (Ty.slice tWrite).wt x ≤ 1048576) (k) : vtx x k = k (vhv x) := by
  have hl := vb1 hx
  rw [wyp (by omega)]
  unfold wiu vhv
  obtain ⟨j, hj⟩ := v0q (u0 := x) (fun y hy => vbt hy hx) hl (u1 := false) x 0 rfl
  rw [hj]
  simp only [if_true]
  cases veg none x <;> rfl
def vd0 (t : tTxn.D) : Bool :=
  vbp t.1 1 9999 && vbp t.2.1 1 3 && vbp t.2.2.1 0 9999 && !decide ((t.2.2.2.2.1.length : Int) > 8) && vhv t.2.2.2.2.2.1 && !(t.2.2.2.2.1.any fun r => !vev r) &&
  !((t.2.1 == 3) && !vbp t.2.2.2.1 (IntKind.wrap .i64 (t.2.2.1 + 1)) 9999) && !((t.2.1 != 3) && (t.2.2.2.1 != 0)) &&
  !((t.2.1 == 2) && !vdw t.2.2.2.2.2.2.2) && !((t.2.1 != 2) && !vbd t.2.2.2.2.2.2.2 ⟨#[]⟩) && ((t.2.1 != 1) || !t.2.2.2.2.2.2.1)
theorem vz6 {u0} {u1} {u4} {u5} {u6} {u7} {u8} {u9} {u10} {u11} : ∀ (l : List tRange.D) (i : Nat), (∀ y ∈ l, tRange.wt y ≤ 1048576) → ∃ j : Int, ∀ k, vme u0 u1 u4 u5 u6 u7 u8 u9 u10 u11 l i k = k (bif l.any (fun r => !vev r) then .inl (false, j) else .inr j)
  | [], i, _ => ⟨_, fun k => rfl⟩
  | y :: l, i, h => by
    obtain ⟨j, hj⟩ := vz6 (u0 := u0) (u1 := u1) (u4 := u4) (u5 := u5) (u6 := u6) (u7 := u7) (u8 := u8) (u9 := u9) (u10 := u10) (u11 := u11) l (i + 1) (fun y hy => h y (by simp [hy]))
    simp only [vme, wuq (h y (by simp)), hj, List.any_cons]
    cases vev y
    · exact ⟨(i : Int), fun k => by simp⟩
    · exact ⟨j, fun k => by simp⟩
theorem v0h {u0} {u2} {u3} {u4} {u5} {u6} {u7} {u8} {u9} : ∀ (l : List tRange.D) (i : Nat), (∀ y ∈ l, tRange.wt y ≤ 1048576) → ∃ j : Int, ∀ k, vl7 u0 u2 u3 u4 u5 u6 u7 u8 u9 l i k = k (bif l.any (fun r => !vev r) then .inl (false, j) else .inr j)
  | [], i, _ => ⟨_, fun k => rfl⟩
  | y :: l, i, h => by
    obtain ⟨j, hj⟩ := v0h (u0 := u0) (u2 := u2) (u3 := u3) (u4 := u4) (u5 := u5) (u6 := u6) (u7 := u7) (u8 := u8) (u9 := u9) l (i + 1) (fun y hy => h y (by simp [hy]))
    simp only [vl7, wvh (h y (by simp)), hj, List.any_cons]
    cases vev y
    · exact ⟨(i : Int), fun k => by simp⟩
    · exact ⟨j, fun k => by simp⟩
theorem v6t {t : tTxn.D} (ht : tTxn.wt t ≤ 1048576) (k) : vlh t k = k (vd0 t) := by
  rw [v70] at ht
  have h1 := vb1 (T := tRange) (xs := t.2.2.2.2.1) (n := 1048576) (by omega)
  have h2 := vb1 (T := tWrite) (xs := t.2.2.2.2.2.1) (n := 1048576) (by omega)
  rw [wz2 (by omega)]
  unfold wgy vd0
  simp only [vuq, wvu (show (Ty.slice tWrite).wt t.2.2.2.2.2.1 ≤ 1048576 by omega)]
  obtain ⟨j, hj⟩ := v0h (u0 := false) (u2 := t.1) (u3 := t.2.1) (u4 := t.2.2.1) (u5 := t.2.2.2.1) (u6 := t.2.2.2.2.1) (u7 := t.2.2.2.2.2.1) (u8 := t.2.2.2.2.2.2.1) (u9 := t.2.2.2.2.2.2.2) t.2.2.2.2.1 0 (fun y hy => vbt hy (by omega))
  simp only [vgm, vcr, vcp, hj, vuq, vu4 (show t.2.2.2.2.2.2.2.size ≤ 1048576 by omega)]
  cases vbp t.1 1 9999 <;> simp only [Bool.not_true, Bool.not_false, cond_true, cond_false, Bool.true_and, Bool.false_and]
  cases vbp t.2.1 1 3 <;> simp only [Bool.not_true, Bool.not_false, cond_true, cond_false, Bool.true_and, Bool.false_and]
  cases vbp t.2.2.1 0 9999 <;> simp only [Bool.not_true, Bool.not_false, cond_true, cond_false, Bool.true_and, Bool.false_and]
  cases decide ((t.2.2.2.2.1.length : Int) > 8) <;> simp only [Bool.not_true, Bool.not_false, cond_true, cond_false, Bool.true_and, Bool.false_and]
  cases vhv t.2.2.2.2.2.1 <;> simp only [Bool.not_true, Bool.not_false, cond_true, cond_false, Bool.true_and, Bool.false_and]
  cases (t.2.2.2.2.1.any fun r => !vev r) <;> simp only [Bool.not_true, Bool.not_false, cond_true, cond_false, Bool.true_and, Bool.false_and, Sum.elim_inl, Sum.elim_inr]
  simp only [bne]
  cases t.2.1 == 3 <;> cases t.2.1 == 2 <;> cases t.2.1 == 1 <;> cases vbp t.2.2.2.1 (IntKind.wrap .i64 (t.2.2.1 + 1)) 9999 <;> cases t.2.2.2.1 == 0 <;> cases vdw t.2.2.2.2.2.2.2 <;> cases vbd t.2.2.2.2.2.2.2 ⟨#[]⟩ <;> cases t.2.2.2.2.2.2.1 <;> rfl
theorem v6c {t : tTxn.D} (ht : tTxn.wt t ≤ 1048576) (k) : vlf t k = k (vd0 t) := by
  rw [v70] at ht
  have h1 := vb1 (T := tRange) (xs := t.2.2.2.2.1) (n := 1048576) (by omega)
  have h2 := vb1 (T := tWrite) (xs := t.2.2.2.2.2.1) (n := 1048576) (by omega)
  rw [w0w (by omega)]
  unfold wj2 vd0
  obtain ⟨j, hj⟩ := vz6 (u0 := false) (u1 := t.2.2.2.2.1) (u4 := t.1) (u5 := t.2.1) (u6 := t.2.2.1) (u7 := t.2.2.2.1) (u8 := t.2.2.2.2.1) (u9 := t.2.2.2.2.2.1) (u10 := t.2.2.2.2.2.2.1) (u11 := t.2.2.2.2.2.2.2) t.2.2.2.2.1 0 (fun y hy => vbt hy (by omega))
  simp only [hj, v2n, wu9 (show (Ty.slice tWrite).wt t.2.2.2.2.2.1 ≤ 1048576 by omega), vd1, vcn, vww (show t.2.2.2.2.2.2.2.size ≤ 1048576 by omega)]
  cases (t.2.2.2.2.1.any fun r => !vev r) <;> simp only [Bool.not_true, Bool.not_false, cond_true, cond_false, Bool.true_and, Bool.and_true, Bool.and_false, Bool.false_and, Sum.elim_inl, Sum.elim_inr]
  cases vbp t.1 1 9999 <;> simp only [Bool.not_true, Bool.not_false, cond_true, cond_false, Bool.true_and, Bool.false_and]
  cases vbp t.2.1 1 3 <;> simp only [Bool.not_true, Bool.not_false, cond_true, cond_false, Bool.true_and, Bool.false_and]
  cases vbp t.2.2.1 0 9999 <;> simp only [Bool.not_true, Bool.not_false, cond_true, cond_false, Bool.true_and, Bool.false_and]
  cases decide ((t.2.2.2.2.1.length : Int) > 8) <;> simp only [Bool.not_true, Bool.not_false, cond_true, cond_false, Bool.true_and, Bool.false_and]
  cases vhv t.2.2.2.2.2.1 <;> simp only [Bool.not_true, Bool.not_false, cond_true, cond_false, Bool.true_and, Bool.false_and]
  simp only [bne]
  cases t.2.1 == 3 <;> cases t.2.1 == 2 <;> cases t.2.1 == 1 <;> cases vbp t.2.2.2.1 (IntKind.wrap .i64 (t.2.2.1 + 1)) 9999 <;> cases t.2.2.2.1 == 0 <;> cases vdw t.2.2.2.2.2.2.2 <;> cases vbd t.2.2.2.2.2.2.2 ⟨#[]⟩ <;> cases t.2.2.2.2.2.2.1 <;> rfl
end
end Go.VE
