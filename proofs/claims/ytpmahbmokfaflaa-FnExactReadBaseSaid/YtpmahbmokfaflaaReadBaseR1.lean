/- Plain laws: keys, ranges, writes, transactions, who is ahead of whom. -/
import Derived.Test.YtpmahbmokfaflaaReadBaseL
namespace Go.VE
noncomputable section
set_option linter.unusedVariables false
set_option linter.unusedSimpArgs false
set_option maxRecDepth 100000
def vaw (n lo hi : Int) : Bool := decide (n ≥ lo) && decide (n ≤ hi)
theorem vrn (a b c) (k) : vdb a b c k = k (vaw a b c) := by
  rw [wnr]; unfold wcy vaw; cases decide (a ≥ b) <;> rfl
theorem vtb (a b c) (k) : vdx a b c k = k (vaw a b c) := by
  rw [wni]; unfold wet vaw; cases decide (a ≥ b) <;> rfl
def vdz (s : ByteArray) : Bool := !((va7 s).any fun y => decide (y < 97) || decide (y > 122)) && vaw s.size 1 3
theorem v1d {u0} {u1} : ∀ l i, ∃ j : Int, ∀ k, vmn u0 u1 l i k = k (bif l.any (fun y => decide (y < 97) || decide (y > 122)) then .inl (false, j) else .inr j)
  | [], i => ⟨_, fun k => rfl⟩
  | y :: l, i => by
    obtain ⟨j, hj⟩ := v1d (u0 := u0) (u1 := u1) l (i + 1)
    simp only [vmn, hj, List.any_cons]
    cases hp : (decide (y < 97) || decide (y > 122))
    · exact ⟨j, fun k => by (try simp only [Bool.false_or]) <;> (try (revert hp; cases decide (y < 97) <;> cases decide (y > 122) <;> simp))⟩
    · exact ⟨(i : Int), fun k => by (try simp only [Bool.true_or, cond_true]) <;> (try (revert hp; cases decide (y < 97) <;> cases decide (y > 122) <;> simp))⟩
theorem vw0 {s : ByteArray} (hs : s.size ≤ 1048576) (k) : vjw s k = k (vdz s) := by
  rw [w1s (by omega)]
  unfold wjn vdz
  obtain ⟨j, hj⟩ := v1d (u0 := s) (u1 := false) (va7 s) 0
  rw [hj]
  cases ((va7 s).any fun y => decide (y < 97) || decide (y > 122))
  · simp [vrn]
  · rfl
theorem v15 {u0} {u1} : ∀ l i, ∃ j : Int, ∀ k, vnl u0 u1 l i k = k (bif l.any (fun y => decide (y < 97) || decide (y > 122)) then .inl (false, j) else .inr j)
  | [], i => ⟨_, fun k => rfl⟩
  | y :: l, i => by
    obtain ⟨j, hj⟩ := v15 (u0 := u0) (u1 := u1) l (i + 1)
    simp only [vnl, hj, List.any_cons]
    cases hp : (decide (y < 97) || decide (y > 122))
    · exact ⟨j, fun k => by (try simp only [Bool.false_or]) <;> (try (revert hp; cases decide (y < 97) <;> cases decide (y > 122) <;> simp))⟩
    · exact ⟨(i : Int), fun k => by (try simp only [Bool.true_or, cond_true]) <;> (try (revert hp; cases decide (y < 97) <;> cases decide (y > 122) <;> simp))⟩
theorem vxk {s : ByteArray} (hs : s.size ≤ 1048576) (k) : vjz s k = k (vdz s) := by
  rw [wx7 (by omega)]
  unfold whs vdz
  obtain ⟨j, hj⟩ := v15 (u0 := s) (u1 := false) (va7 s) 0
  rw [hj]
  cases ((va7 s).any fun y => decide (y < 97) || decide (y > 122))
  · simp [vtb]
  · rfl
def vd0 (r : tRange.D) : Bool := vdz r.1 && vdz r.2 && (va2 r.1 r.2 || va9 r.1 r.2)
def vfg (w : tWrite.D) : Bool := vdz w.1 && decide ((w.2.1.size : Int) ≤ 12) && (!w.2.2 || va9 w.2.1 ⟨#[]⟩)
/-- Behind one that stood before: all right, keys ascending. -/
def vdr : Option tWrite.D → List tWrite.D → Bool
  | _, [] => true
  | p, y :: l => vfg y && (match p with | none => true | some x => va2 x.1 y.1) && vdr (some y) l
def vhv (l : List tWrite.D) : Bool := vdr none l && decide ((l.length : Int) ≤ 8)
theorem wvt {r : tRange.D} (hr : tRange.wt r ≤ 1048576) (k) : vw3 r k = k (vd0 r) := by
  rw [wmk] at hr
  rw [wlx]
  unfold wdq vd0
  simp only [vw0 (show r.1.size ≤ 1048576 by omega), vw0 (show r.2.size ≤ 1048576 by omega)]
  cases vdz r.1 <;> cases vdz r.2 <;> simp
theorem wv2 {r : tWrite.D} (hr : tWrite.wt r ≤ 1048576) (k) : vw9 r k = k (vfg r) := by
  rw [whe] at hr
  rw [wig]
  unfold wel vfg
  simp only [vw0 (show r.1.size ≤ 1048576 by omega)]
  cases vdz r.1 <;> cases decide ((r.2.1.size : Int) ≤ 12) <;> cases r.2.2 <;> simp
theorem v1c {u0 : List tWrite.D} (hu : ∀ y ∈ u0, tWrite.wt y ≤ 1048576) (hl : u0.length ≤ 1048576) {u1 u2} : ∀ (l : List tWrite.D) (i : Nat), u0.drop i = l → ∃ j : Int, ∀ k,
    vlr u0 u1 u2 l i k = k (bif vdr (if i = 0 then none else some (u0.getD (i - 1) (Ty.zero tWrite))) l then .inr j else .inl (false, j))
  | [], i, _ => ⟨_, fun k => rfl⟩
  | y :: l, i, h => by
    obtain ⟨j, hj⟩ := v1c hu hl (u1 := u1) (u2 := u2) l (i + 1) (vca h)
    have hlt := vds h
    have hy := (va8 h).2 (Ty.zero tWrite)
    rw [if_neg (by omega), show i + 1 - 1 = i by omega, hy] at hj
    simp only [vlr, wv2 (hu y (vdd h)), hj, vdr]
    by_cases hi : i = 0
    · subst hi
      simp only [if_pos, show ¬ ((0 : Nat) : Int) > 0 by omega, decide_false, cond_false, Bool.and_true]
      cases vfg y
      · exact ⟨((0 : Nat) : Int), fun k => by simp⟩
      · exact ⟨j, fun k => by simp⟩
    · have hw : IntKind.wrap .i64 ((i : Int) - 1) = ((i - 1 : Nat) : Int) := by rw [vax (by omega) (by omega)]; omega
      have hrd : rd (Ty.zero (.pair .str (.pair .str .bool))) u0 ((i - 1 : Nat) : Int) = u0.getD (i - 1) (Ty.zero tWrite) := rfl
      simp only [if_neg hi, show (i : Int) > 0 by omega, decide_true, cond_true, hw, hrd, if_pos (show 0 ≤ ((i - 1 : Nat) : Int) ∧ ((i - 1 : Nat) : Int) < (u0.length : Int) by omega)]
      cases vfg y
      · exact ⟨(i : Int), fun k => by simp⟩
      · cases va2 (u0.getD (i - 1) (Ty.zero tWrite)).1 y.1
        · exact ⟨(i : Int), fun k => by simp⟩
        · exact ⟨j, fun k => by simp⟩
theorem wuw {x : List tWrite.D} (hx : (Ty.slice tWrite).wt x ≤ 1048576) (k) : vuo x k = k (vhv x) := by
  have hl := vd3 hx
  rw [w0q (by omega)]
  unfold wkx vhv
  obtain ⟨j, hj⟩ := v1c (u0 := x) (fun y hy => vch hy hx) hl (u1 := false) (u2 := x) x 0 rfl
  rw [hj]
  simp only [if_true]
  cases vdr none x <;> rfl
theorem wu7 {r : tRange.D} (hr : tRange.wt r ≤ 1048576) (k) : vxq r k = k (vd0 r) := by
  rw [wmk] at hr
  rw [wmy]
  unfold wdj vd0
  simp only [vxk (show r.1.size ≤ 1048576 by omega), vxk (show r.2.size ≤ 1048576 by omega)]
  cases vdz r.1 <;> cases vdz r.2 <;> simp
theorem wvy {r : tWrite.D} (hr : tWrite.wt r ≤ 1048576) (k) : vxy r k = k (vfg r) := by
  rw [whe] at hr
  rw [wh4]
  unfold wb4 vfg
  simp only [vxk (show r.1.size ≤ 1048576 by omega)]
  cases vdz r.1 <;> cases decide ((r.2.1.size : Int) ≤ 12) <;> cases r.2.2 <;> simp
theorem v0r {u0 : List tWrite.D} (hu : ∀ y ∈ u0, tWrite.wt y ≤ 1048576) (hl : u0.length ≤ 1048576) {u1} : ∀ (l : List tWrite.D) (i : Nat), u0.drop i = l → ∃ j : Int, ∀ k,
    vl0 u0 u1 l i k = k (bif vdr (if i = 0 then none else some (u0.getD (i - 1) (Ty.zero tWrite))) l then .inr j else .inl (false, j))
  | [], i, _ => ⟨_, fun k => rfl⟩
  | y :: l, i, h => by
    obtain ⟨j, hj⟩ := v0r hu hl (u1 := u1) l (i + 1) (vca h)
    have hlt := vds h
    have hy := (va8 h).2 (Ty.zero tWrite)
    rw [if_neg (by omega), show i + 1 - 1 = i by omega, hy] at hj
    simp only [vl0, wvy (hu y (vdd h)), hj, vdr]
    by_cases hi : i = 0
    · subst hi
      simp only [if_pos, show ¬ ((0 : Nat) : Int) > 0 by omega, decide_false, cond_false, Bool.and_true]
      cases vfg y
      · exact ⟨((0 : Nat) : Int), fun k => by simp⟩
      · exact ⟨j, fun k => by simp⟩
    · have hw : IntKind.wrap .i64 ((i : Int) - 1) = ((i - 1 : Nat) : Int) := by rw [vax (by omega) (by omega)]; omega
      have hrd : rd (Ty.zero (.pair .str (.pair .str .bool))) u0 ((i - 1 : Nat) : Int) = u0.getD (i - 1) (Ty.zero tWrite) := rfl
      simp only [if_neg hi, show (i : Int) > 0 by omega, decide_true, cond_true, hw, hrd, if_pos (show 0 ≤ ((i - 1 : Nat) : Int) ∧ ((i - 1 : Nat) : Int) < (u0.length : Int) by omega)]
      cases vfg y
      · exact ⟨(i : Int), fun k => by simp⟩
      · cases va2 (u0.getD (i - 1) (Ty.zero tWrite)).1 y.1
        · exact ⟨(i : Int), fun k => by simp⟩
        · exact ⟨j, fun k => by simp⟩
theorem wvh {x : List tWrite.D} (hx : (Ty.slice tWrite).wt x ≤ 1048576) (k) : vve x k = k (vhv x) := by
  have hl := vd3 hx
  rw [wzf (by omega)]
  unfold wkj vhv
  obtain ⟨j, hj⟩ := v0r (u0 := x) (fun y hy => vch hy hx) hl (u1 := false) x 0 rfl
  rw [hj]
  simp only [if_true]
  cases vdr none x <;> rfl
def vc4 (t : tTxn.D) : Bool :=
  vaw t.1 1 9999 && vaw t.2.1 1 3 && vaw t.2.2.1 0 9999 && !decide ((t.2.2.2.2.1.length : Int) > 8) && vhv t.2.2.2.2.2.1 && !(t.2.2.2.2.1.any fun r => !vd0 r) &&
  !((t.2.1 == 3) && !vaw t.2.2.2.1 (IntKind.wrap .i64 (t.2.2.1 + 1)) 9999) && !((t.2.1 != 3) && (t.2.2.2.1 != 0)) &&
  !((t.2.1 == 2) && !vdz t.2.2.2.2.2.2.2) && !((t.2.1 != 2) && !va9 t.2.2.2.2.2.2.2 ⟨#[]⟩) && ((t.2.1 != 1) || !t.2.2.2.2.2.2.1)
theorem v13 {u0} {u1} {u4} {u5} {u6} {u7} {u8} {u9} {u10} {u11} : ∀ (l : List tRange.D) (i : Nat), (∀ y ∈ l, tRange.wt y ≤ 1048576) → ∃ j : Int, ∀ k, vna u0 u1 u4 u5 u6 u7 u8 u9 u10 u11 l i k = k (bif l.any (fun r => !vd0 r) then .inl (false, j) else .inr j)
  | [], i, _ => ⟨_, fun k => rfl⟩
  | y :: l, i, h => by
    obtain ⟨j, hj⟩ := v13 (u0 := u0) (u1 := u1) (u4 := u4) (u5 := u5) (u6 := u6) (u7 := u7) (u8 := u8) (u9 := u9) (u10 := u10) (u11 := u11) l (i + 1) (fun y hy => h y (by simp [hy]))
    simp only [vna, wvt (h y (by simp)), hj, List.any_cons]
    cases vd0 y
    · exact ⟨(i : Int), fun k => by simp⟩
    · exact ⟨j, fun k => by simp⟩
theorem v1r {u0} {u2} {u3} {u4} {u5} {u6} {u7} {u8} {u9} : ∀ (l : List tRange.D) (i : Nat), (∀ y ∈ l, tRange.wt y ≤ 1048576) → ∃ j : Int, ∀ k, vne u0 u2 u3 u4 u5 u6 u7 u8 u9 l i k = k (bif l.any (fun r => !vd0 r) then .inl (false, j) else .inr j)
  | [], i, _ => ⟨_, fun k => rfl⟩
  | y :: l, i, h => by
    obtain ⟨j, hj⟩ := v1r (u0 := u0) (u2 := u2) (u3 := u3) (u4 := u4) (u5 := u5) (u6 := u6) (u7 := u7) (u8 := u8) (u9 := u9) l (i + 1) (fun y hy => h y (by simp [hy]))
    simp only [vne, wu7 (h y (by simp)), hj, List.any_cons]
    cases vd0 y
    · exact ⟨(i : Int), fun k => by simp⟩
    · exact ⟨j, fun k => by simp⟩
theorem v8a {t : tTxn.D} (ht : tTxn.wt t ≤ 1048576) (k) : vmx t k = k (vc4 t) := by
  rw [v9m] at ht
  have h1 := vd3 (T := tRange) (xs := t.2.2.2.2.1) (n := 1048576) (by omega)
  have h2 := vd3 (T := tWrite) (xs := t.2.2.2.2.2.1) (n := 1048576) (by omega)
  rw [w19 (by omega)]
  unfold wkq vc4
  simp only [vtb, wvh (show (Ty.slice tWrite).wt t.2.2.2.2.2.1 ≤ 1048576 by omega)]
  obtain ⟨j, hj⟩ := v1r (u0 := false) (u2 := t.1) (u3 := t.2.1) (u4 := t.2.2.1) (u5 := t.2.2.2.1) (u6 := t.2.2.2.2.1) (u7 := t.2.2.2.2.2.1) (u8 := t.2.2.2.2.2.2.1) (u9 := t.2.2.2.2.2.2.2) t.2.2.2.2.1 0 (fun y hy => vch hy (by omega))
  simp only [vhp, vcx, vcu, hj, vtb, vxk (show t.2.2.2.2.2.2.2.size ≤ 1048576 by omega)]
  cases vaw t.1 1 9999 <;> simp only [Bool.not_true, Bool.not_false, cond_true, cond_false, Bool.true_and, Bool.false_and]
  cases vaw t.2.1 1 3 <;> simp only [Bool.not_true, Bool.not_false, cond_true, cond_false, Bool.true_and, Bool.false_and]
  cases vaw t.2.2.1 0 9999 <;> simp only [Bool.not_true, Bool.not_false, cond_true, cond_false, Bool.true_and, Bool.false_and]
  cases decide ((t.2.2.2.2.1.length : Int) > 8) <;> simp only [Bool.not_true, Bool.not_false, cond_true, cond_false, Bool.true_and, Bool.false_and]
  cases vhv t.2.2.2.2.2.1 <;> simp only [Bool.not_true, Bool.not_false, cond_true, cond_false, Bool.true_and, Bool.false_and]
  cases (t.2.2.2.2.1.any fun r => !vd0 r) <;> simp only [Bool.not_true, Bool.not_false, cond_true, cond_false, Bool.true_and, Bool.false_and, Sum.elim_inl, Sum.elim_inr]
  simp only [bne]
  cases t.2.1 == 3 <;> cases t.2.1 == 2 <;> cases t.2.1 == 1 <;> cases vaw t.2.2.2.1 (IntKind.wrap .i64 (t.2.2.1 + 1)) 9999 <;> cases t.2.2.2.1 == 0 <;> cases vdz t.2.2.2.2.2.2.2 <;> cases va9 t.2.2.2.2.2.2.2 ⟨#[]⟩ <;> cases t.2.2.2.2.2.2.1 <;> rfl
theorem v3v {t : tTxn.D} (ht : tTxn.wt t ≤ 1048576) (k) : vnm t k = k (vc4 t) := by
  rw [v9m] at ht
  have h1 := vd3 (T := tRange) (xs := t.2.2.2.2.1) (n := 1048576) (by omega)
  have h2 := vd3 (T := tWrite) (xs := t.2.2.2.2.2.1) (n := 1048576) (by omega)
  rw [w27 (by omega)]
  unfold wjk vc4
  obtain ⟨j, hj⟩ := v13 (u0 := false) (u1 := t.2.2.2.2.1) (u4 := t.1) (u5 := t.2.1) (u6 := t.2.2.1) (u7 := t.2.2.2.1) (u8 := t.2.2.2.2.1) (u9 := t.2.2.2.2.2.1) (u10 := t.2.2.2.2.2.2.1) (u11 := t.2.2.2.2.2.2.2) t.2.2.2.2.1 0 (fun y hy => vch hy (by omega))
  simp only [hj, vrn, wuw (show (Ty.slice tWrite).wt t.2.2.2.2.2.1 ≤ 1048576 by omega), vez, vcv, vw0 (show t.2.2.2.2.2.2.2.size ≤ 1048576 by omega)]
  cases (t.2.2.2.2.1.any fun r => !vd0 r) <;> simp only [Bool.not_true, Bool.not_false, cond_true, cond_false, Bool.true_and, Bool.and_true, Bool.and_false, Bool.false_and, Sum.elim_inl, Sum.elim_inr]
  cases vaw t.1 1 9999 <;> simp only [Bool.not_true, Bool.not_false, cond_true, cond_false, Bool.true_and, Bool.false_and]
  cases vaw t.2.1 1 3 <;> simp only [Bool.not_true, Bool.not_false, cond_true, cond_false, Bool.true_and, Bool.false_and]
  cases vaw t.2.2.1 0 9999 <;> simp only [Bool.not_true, Bool.not_false, cond_true, cond_false, Bool.true_and, Bool.false_and]
  cases decide ((t.2.2.2.2.1.length : Int) > 8) <;> simp only [Bool.not_true, Bool.not_false, cond_true, cond_false, Bool.true_and, Bool.false_and]
  cases vhv t.2.2.2.2.2.1 <;> simp only [Bool.not_true, Bool.not_false, cond_true, cond_false, Bool.true_and, Bool.false_and]
  simp only [bne]
  cases t.2.1 == 3 <;> cases t.2.1 == 2 <;> cases t.2.1 == 1 <;> cases vaw t.2.2.2.1 (IntKind.wrap .i64 (t.2.2.1 + 1)) 9999 <;> cases t.2.2.2.1 == 0 <;> cases vdz t.2.2.2.2.2.2.2 <;> cases va9 t.2.2.2.2.2.2.2 ⟨#[]⟩ <;> cases t.2.2.2.2.2.2.1 <;> rfl
end
end Go.VE
