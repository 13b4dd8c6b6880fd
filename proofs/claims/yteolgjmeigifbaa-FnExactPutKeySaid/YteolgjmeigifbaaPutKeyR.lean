/- The plain laws behind FnExactPutKey. -/
import Derived.Test.YteolgjmeigifbaaPutKeyL
import Derived.Sort.Walk0
/- Plain laws: keys, ranges, writes, transactions, who is ahead of whom. -/
namespace Go.VE
noncomputable section
set_option linter.unusedVariables false
set_option linter.unusedSimpArgs false
set_option maxRecDepth 100000
def vcb (n lo hi : Int) : Bool := decide (n ≥ lo) && decide (n ≤ hi)
theorem waf (a b c) (k) : vfm a b c k = k (vcb a b c) := by
  rw [wa5]; unfold v23 vcb; cases decide (a ≥ b) <;> rfl
theorem v18 (a b c) (k) : vfb a b c k = k (vcb a b c) := by
  rw [wbq]; unfold v5d vcb; cases decide (a ≥ b) <;> rfl
def vdu (s : ByteArray) : Bool := !((vb9 s).any fun y => decide (y < 97) || decide (y > 122)) && vcb s.size 1 3
theorem vu9 {u0} {u1} : ∀ l i, ∃ j : Int, ∀ k, vkg u0 u1 l i k = k (bif l.any (fun y => decide (y < 97) || decide (y > 122)) then .inl (false, j) else .inr j)
  | [], i => ⟨_, fun k => rfl⟩
  | y :: l, i => by
    obtain ⟨j, hj⟩ := vu9 (u0 := u0) (u1 := u1) l (i + 1)
    simp only [vkg, hj, List.any_cons]
    cases hp : (decide (y < 97) || decide (y > 122))
    · exact ⟨j, fun k => by (try simp only [Bool.false_or]) <;> (try (revert hp; cases decide (y < 97) <;> cases decide (y > 122) <;> simp))⟩
    · exact ⟨(i : Int), fun k => by (try simp only [Bool.true_or, cond_true]) <;> (try (revert hp; cases decide (y < 97) <;> cases decide (y > 122) <;> simp))⟩
theorem vwk {s : ByteArray} (hs : s.size ≤ 1048576) (k) : vli s k = k (vdu s) := by
  rw [wjt (by omega)]
  unfold v9l vdu
  obtain ⟨j, hj⟩ := vu9 (u0 := s) (u1 := false) (vb9 s) 0
  rw [hj]
  cases ((vb9 s).any fun y => decide (y < 97) || decide (y > 122))
  · simp [waf]
  · rfl
theorem vvy {u0} {u1} : ∀ l i, ∃ j : Int, ∀ k, vj9 u0 u1 l i k = k (bif l.any (fun y => decide (y < 97) || decide (y > 122)) then .inl (false, j) else .inr j)
  | [], i => ⟨_, fun k => rfl⟩
  | y :: l, i => by
    obtain ⟨j, hj⟩ := vvy (u0 := u0) (u1 := u1) l (i + 1)
    simp only [vj9, hj, List.any_cons]
    cases hp : (decide (y < 97) || decide (y > 122))
    · exact ⟨j, fun k => by (try simp only [Bool.false_or]) <;> (try (revert hp; cases decide (y < 97) <;> cases decide (y > 122) <;> simp))⟩
    · exact ⟨(i : Int), fun k => by (try simp only [Bool.true_or, cond_true]) <;> (try (revert hp; cases decide (y < 97) <;> cases decide (y > 122) <;> simp))⟩
theorem vwl {s : ByteArray} (hs : s.size ≤ 1048576) (k) : vlf s k = k (vdu s) := by
  rw [wky (by omega)]
  unfold wap vdu
  obtain ⟨j, hj⟩ := vvy (u0 := s) (u1 := false) (vb9 s) 0
  rw [hj]
  cases ((vb9 s).any fun y => decide (y < 97) || decide (y > 122))
  · simp [v18]
  · rfl
def vci (r : tRange.D) : Bool := vdu r.1 && vdu r.2 && (vaf r.1 r.2 || vas r.1 r.2)
def vbc (w : tWrite.D) : Bool := vdu w.1 && decide ((w.2.1.size : Int) ≤ 12) && (!w.2.2 || vas w.2.1 ⟨#[]⟩)
/-- Behind one that stood before: all right, keys ascending. -/
def vbv : Option tWrite.D → List tWrite.D → Bool
  | _, [] => true
  | p, y :: l => vbc y && (match p with | none => true | some x => vaf x.1 y.1) && vbv (some y) l
def vbw (l : List tWrite.D) : Bool := vbv none l && decide ((l.length : Int) ≤ 8)
theorem wic {r : tRange.D} (hr : tRange.wt r ≤ 1048576) (k) : vuk r k = k (vci r) := by
  rw [vws] at hr
  rw [wa8]
  unfold v3k vci
  simp only [vwk (show r.1.size ≤ 1048576 by omega), vwk (show r.2.size ≤ 1048576 by omega)]
  cases vdu r.1 <;> cases vdu r.2 <;> simp
theorem v1b {r : tWrite.D} (hr : tWrite.wt r ≤ 1048576) (k) : vmq r k = k (vbc r) := by
  rw [vwr] at hr
  rw [wax]
  unfold v39 vbc
  simp only [vwk (show r.1.size ≤ 1048576 by omega)]
  cases vdu r.1 <;> cases decide ((r.2.1.size : Int) ≤ 12) <;> cases r.2.2 <;> simp
theorem vvg {u0 : List tWrite.D} (hu : ∀ y ∈ u0, tWrite.wt y ≤ 1048576) (hl : u0.length ≤ 1048576) {u1 u2} : ∀ (l : List tWrite.D) (i : Nat), u0.drop i = l → ∃ j : Int, ∀ k,
    vhr u0 u1 u2 l i k = k (bif vbv (if i = 0 then none else some (u0.getD (i - 1) (Ty.zero tWrite))) l then .inr j else .inl (false, j))
  | [], i, _ => ⟨_, fun k => rfl⟩
  | y :: l, i, h => by
    obtain ⟨j, hj⟩ := vvg hu hl (u1 := u1) (u2 := u2) l (i + 1) (vce h)
    have hlt := vdx h
    have hy := (vat h).2 (Ty.zero tWrite)
    rw [if_neg (by omega), show i + 1 - 1 = i by omega, hy] at hj
    simp only [vhr, v1b (hu y (ve2 h)), hj, vbv]
    by_cases hi : i = 0
    · subst hi
      simp only [if_pos, show ¬ ((0 : Nat) : Int) > 0 by omega, decide_false, cond_false, Bool.and_true]
      cases vbc y
      · exact ⟨((0 : Nat) : Int), fun k => by simp⟩
      · exact ⟨j, fun k => by simp⟩
    · have hw : IntKind.wrap .i64 ((i : Int) - 1) = ((i - 1 : Nat) : Int) := by rw [vbf (by omega) (by omega)]; omega
      have hrd : rd (Ty.zero (.pair .str (.pair .str .bool))) u0 ((i - 1 : Nat) : Int) = u0.getD (i - 1) (Ty.zero tWrite) := rfl
      simp only [if_neg hi, show (i : Int) > 0 by omega, decide_true, cond_true, hw, hrd, if_pos (show 0 ≤ ((i - 1 : Nat) : Int) ∧ ((i - 1 : Nat) : Int) < (u0.length : Int) by omega)]
      cases vbc y
      · exact ⟨(i : Int), fun k => by simp⟩
      · cases vaf (u0.getD (i - 1) (Ty.zero tWrite)).1 y.1
        · exact ⟨(i : Int), fun k => by simp⟩
        · exact ⟨j, fun k => by simp⟩
theorem wis {x : List tWrite.D} (hx : (Ty.slice tWrite).wt x ≤ 1048576) (k) : vqt x k = k (vbw x) := by
  have hl := vck hx
  rw [wju (by omega)]
  unfold v88 vbw
  obtain ⟨j, hj⟩ := vvg (u0 := x) (fun y hy => vb0 hy hx) hl (u1 := false) (u2 := x) x 0 rfl
  rw [hj]
  simp only [if_true]
  cases vbv none x <;> rfl
theorem wiq {r : tRange.D} (hr : tRange.wt r ≤ 1048576) (k) : vu7 r k = k (vci r) := by
  rw [vws] at hr
  rw [v8l]
  unfold v2u vci
  simp only [vwl (show r.1.size ≤ 1048576 by omega), vwl (show r.2.size ≤ 1048576 by omega)]
  cases vdu r.1 <;> cases vdu r.2 <;> simp
theorem v2b {r : tWrite.D} (hr : tWrite.wt r ≤ 1048576) (k) : vnl r k = k (vbc r) := by
  rw [vwr] at hr
  rw [wbd]
  unfold v4s vbc
  simp only [vwl (show r.1.size ≤ 1048576 by omega)]
  cases vdu r.1 <;> cases decide ((r.2.1.size : Int) ≤ 12) <;> cases r.2.2 <;> simp
theorem vtw {u0 : List tWrite.D} (hu : ∀ y ∈ u0, tWrite.wt y ≤ 1048576) (hl : u0.length ≤ 1048576) {u1} : ∀ (l : List tWrite.D) (i : Nat), u0.drop i = l → ∃ j : Int, ∀ k,
    vhu u0 u1 l i k = k (bif vbv (if i = 0 then none else some (u0.getD (i - 1) (Ty.zero tWrite))) l then .inr j else .inl (false, j))
  | [], i, _ => ⟨_, fun k => rfl⟩
  | y :: l, i, h => by
    obtain ⟨j, hj⟩ := vtw hu hl (u1 := u1) l (i + 1) (vce h)
    have hlt := vdx h
    have hy := (vat h).2 (Ty.zero tWrite)
    rw [if_neg (by omega), show i + 1 - 1 = i by omega, hy] at hj
    simp only [vhu, v2b (hu y (ve2 h)), hj, vbv]
    by_cases hi : i = 0
    · subst hi
      simp only [if_pos, show ¬ ((0 : Nat) : Int) > 0 by omega, decide_false, cond_false, Bool.and_true]
      cases vbc y
      · exact ⟨((0 : Nat) : Int), fun k => by simp⟩
      · exact ⟨j, fun k => by simp⟩
    · have hw : IntKind.wrap .i64 ((i : Int) - 1) = ((i - 1 : Nat) : Int) := by rw [vbf (by omega) (by omega)]; omega
      have hrd : rd (Ty.zero (.pair .str (.pair .str .bool))) u0 ((i - 1 : Nat) : Int) = u0.getD (i - 1) (Ty.zero tWrite) := rfl
      simp only [if_neg hi, show (i : Int) > 0 by omega, decide_true, cond_true, hw, hrd, if_pos (show 0 ≤ ((i - 1 : Nat) : Int) ∧ ((i - 1 : Nat) : Int) < (u0.length : Int) by omega)]
      cases vbc y
      · exact ⟨(i : Int), fun k => by simp⟩
      · cases vaf (u0.getD (i - 1) (Ty.zero tWrite)).1 y.1
        · exact ⟨(i : Int), fun k => by simp⟩
        · exact ⟨j, fun k => by simp⟩
theorem v8g {x : List tWrite.D} (hx : (Ty.slice tWrite).wt x ≤ 1048576) (k) : vno x k = k (vbw x) := by
  have hl := vck hx
  rw [wko (by omega)]
  unfold wa0 vbw
  obtain ⟨j, hj⟩ := vtw (u0 := x) (fun y hy => vb0 hy hx) hl (u1 := false) x 0 rfl
  rw [hj]
  simp only [if_true]
  cases vbv none x <;> rfl
def vec (t : tTxn.D) : Bool :=
  vcb t.1 1 9999 && vcb t.2.1 1 3 && vcb t.2.2.1 0 9999 && !decide ((t.2.2.2.2.1.length : Int) > 8) && vbw t.2.2.2.2.2.1 && !(t.2.2.2.2.1.any fun r => !vci r) &&
  !((t.2.1 == 3) && !vcb t.2.2.2.1 (IntKind.wrap .i64 (t.2.2.1 + 1)) 9999) && !((t.2.1 != 3) && (t.2.2.2.1 != 0)) &&
  !((t.2.1 == 2) && !vdu t.2.2.2.2.2.2.2) && !((t.2.1 != 2) && !vas t.2.2.2.2.2.2.2 ⟨#[]⟩) && ((t.2.1 != 1) || !t.2.2.2.2.2.2.1)
theorem vu3 {u0} {u1} {u4} {u5} {u6} {u7} {u8} {u9} {u10} {u11} : ∀ (l : List tRange.D) (i : Nat), (∀ y ∈ l, tRange.wt y ≤ 1048576) → ∃ j : Int, ∀ k, vil u0 u1 u4 u5 u6 u7 u8 u9 u10 u11 l i k = k (bif l.any (fun r => !vci r) then .inl (false, j) else .inr j)
  | [], i, _ => ⟨_, fun k => rfl⟩
  | y :: l, i, h => by
    obtain ⟨j, hj⟩ := vu3 (u0 := u0) (u1 := u1) (u4 := u4) (u5 := u5) (u6 := u6) (u7 := u7) (u8 := u8) (u9 := u9) (u10 := u10) (u11 := u11) l (i + 1) (fun y hy => h y (by simp [hy]))
    simp only [vil, wic (h y (by simp)), hj, List.any_cons]
    cases vci y
    · exact ⟨(i : Int), fun k => by simp⟩
    · exact ⟨j, fun k => by simp⟩
theorem vuz {u0} {u2} {u3} {u4} {u5} {u6} {u7} {u8} {u9} : ∀ (l : List tRange.D) (i : Nat), (∀ y ∈ l, tRange.wt y ≤ 1048576) → ∃ j : Int, ∀ k, vj5 u0 u2 u3 u4 u5 u6 u7 u8 u9 l i k = k (bif l.any (fun r => !vci r) then .inl (false, j) else .inr j)
  | [], i, _ => ⟨_, fun k => rfl⟩
  | y :: l, i, h => by
    obtain ⟨j, hj⟩ := vuz (u0 := u0) (u2 := u2) (u3 := u3) (u4 := u4) (u5 := u5) (u6 := u6) (u7 := u7) (u8 := u8) (u9 := u9) l (i + 1) (fun y hy => h y (by simp [hy]))
    simp only [vj5, wiq (h y (by simp)), hj, List.any_cons]
    cases vci y
    · exact ⟨(i : Int), fun k => by simp⟩
    · exact ⟨j, fun k => by simp⟩
theorem wh7 {t : tTxn.D} (ht : tTxn.wt t ≤ 1048576) (k) : vsg t k = k (vec t) := by
  rw [vwn] at ht
  have h1 := vck (T := tRange) (xs := t.2.2.2.2.1) (n := 1048576) (by omega)
  have h2 := vck (T := tWrite) (xs := t.2.2.2.2.2.1) (n := 1048576) (by omega)
  rw [wjq (by omega)]
  unfold wbw vec
  simp only [v18, v8g (show (Ty.slice tWrite).wt t.2.2.2.2.2.1 ≤ 1048576 by omega)]
  obtain ⟨j, hj⟩ := vuz (u0 := false) (u2 := t.1) (u3 := t.2.1) (u4 := t.2.2.1) (u5 := t.2.2.2.1) (u6 := t.2.2.2.2.1) (u7 := t.2.2.2.2.2.1) (u8 := t.2.2.2.2.2.2.1) (u9 := t.2.2.2.2.2.2.2) t.2.2.2.2.1 0 (fun y hy => vb0 hy (by omega))
  simp only [vd4, vb1, vb4, hj, v18, vwl (show t.2.2.2.2.2.2.2.size ≤ 1048576 by omega)]
  cases vcb t.1 1 9999 <;> simp only [Bool.not_true, Bool.not_false, cond_true, cond_false, Bool.true_and, Bool.false_and]
  cases vcb t.2.1 1 3 <;> simp only [Bool.not_true, Bool.not_false, cond_true, cond_false, Bool.true_and, Bool.false_and]
  cases vcb t.2.2.1 0 9999 <;> simp only [Bool.not_true, Bool.not_false, cond_true, cond_false, Bool.true_and, Bool.false_and]
  cases decide ((t.2.2.2.2.1.length : Int) > 8) <;> simp only [Bool.not_true, Bool.not_false, cond_true, cond_false, Bool.true_and, Bool.false_and]
  cases vbw t.2.2.2.2.2.1 <;> simp only [Bool.not_true, Bool.not_false, cond_true, cond_false, Bool.true_and, Bool.false_and]
  cases (t.2.2.2.2.1.any fun r => !vci r) <;> simp only [Bool.not_true, Bool.not_false, cond_true, cond_false, Bool.true_and, Bool.false_and, Sum.elim_inl, Sum.elim_inr]
  simp only [bne]
  cases t.2.1 == 3 <;> cases t.2.1 == 2 <;> cases t.2.1 == 1 <;> cases vcb t.2.2.2.1 (IntKind.wrap .i64 (t.2.2.1 + 1)) 9999 <;> cases t.2.2.2.1 == 0 <;> cases vdu t.2.2.2.2.2.2.2 <;> cases vas t.2.2.2.2.2.2.2 ⟨#[]⟩ <;> cases t.2.2.2.2.2.2.1 <;> rfl
theorem v8v {t : tTxn.D} (ht : tTxn.wt t ≤ 1048576) (k) : vne t k = k (vec t) := by
  rw [vwn] at ht
  have h1 := vck (T := tRange) (xs := t.2.2.2.2.1) (n := 1048576) (by omega)
  have h2 := vck (T := tWrite) (xs := t.2.2.2.2.2.1) (n := 1048576) (by omega)
  rw [wi3 (by omega)]
  unfold wak vec
  obtain ⟨j, hj⟩ := vu3 (u0 := false) (u1 := t.2.2.2.2.1) (u4 := t.1) (u5 := t.2.1) (u6 := t.2.2.1) (u7 := t.2.2.2.1) (u8 := t.2.2.2.2.1) (u9 := t.2.2.2.2.2.1) (u10 := t.2.2.2.2.2.2.1) (u11 := t.2.2.2.2.2.2.2) t.2.2.2.2.1 0 (fun y hy => vb0 hy (by omega))
  simp only [hj, waf, wis (show (Ty.slice tWrite).wt t.2.2.2.2.2.1 ≤ 1048576 by omega), vc2, vb2, vwk (show t.2.2.2.2.2.2.2.size ≤ 1048576 by omega)]
  cases (t.2.2.2.2.1.any fun r => !vci r) <;> simp only [Bool.not_true, Bool.not_false, cond_true, cond_false, Bool.true_and, Bool.and_true, Bool.and_false, Bool.false_and, Sum.elim_inl, Sum.elim_inr]
  cases vcb t.1 1 9999 <;> simp only [Bool.not_true, Bool.not_false, cond_true, cond_false, Bool.true_and, Bool.false_and]
  cases vcb t.2.1 1 3 <;> simp only [Bool.not_true, Bool.not_false, cond_true, cond_false, Bool.true_and, Bool.false_and]
  cases vcb t.2.2.1 0 9999 <;> simp only [Bool.not_true, Bool.not_false, cond_true, cond_false, Bool.true_and, Bool.false_and]
  cases decide ((t.2.2.2.2.1.length : Int) > 8) <;> simp only [Bool.not_true, Bool.not_false, cond_true, cond_false, Bool.true_and, Bool.false_and]
  cases vbw t.2.2.2.2.2.1 <;> simp only [Bool.not_true, Bool.not_false, cond_true, cond_false, Bool.true_and, Bool.false_and]
  simp only [bne]
  cases t.2.1 == 3 <;> cases t.2.1 == 2 <;> cases t.2.1 == 1 <;> cases vcb t.2.2.2.1 (IntKind.wrap .i64 (t.2.2.1 + 1)) 9999 <;> cases t.2.2.2.1 == 0 <;> cases vdu t.2.2.2.2.2.2.2 <;> cases vas t.2.2.2.2.2.2.2 ⟨#[]⟩ <;> cases t.2.2.2.2.2.2.1 <;> rfl
end
end Go.VE
/- Plain laws: where a name or an Id stands; a transaction's text. -/
namespace Go.VE
noncomputable section
set_option linter.unusedVariables false
set_option linter.unusedSimpArgs false
set_option maxRecDepth 100000
def atF (p : tTxn.D → Bool) : List tTxn.D → Nat → Int
  | [], _ => -1
  | y :: l, i => bif p y then (i : Int) else atF p l (i + 1)
theorem wig (x : tTxn.D) (c : Int) (k) : vtn x c k = k ((x.1 == c), c) := by rw [v9p]; rfl
theorem vvl {u1 u3 u4 u5 u6 u7 u8} {c : Int} : ∀ (l : List tTxn.D) (i : Nat),
    ((∃ a : Nat, ∀ k, vgh c u1 u3 u4 u5 u6 u7 u8 l i k = k (.inl ((a : Int), (a : Int)))) ∧ (∃ a : Nat, atF (fun x => (x.1 == c)) l i = (a : Int) ∧ ∀ k, vgh c u1 u3 u4 u5 u6 u7 u8 l i k = k (.inl ((a : Int), (a : Int))))) ∨
    ((∃ b : Int, ∀ k, vgh c u1 u3 u4 u5 u6 u7 u8 l i k = k (.inr b)) ∧ atF (fun x => (x.1 == c)) l i = -1)
  | [], i => .inr ⟨⟨_, fun k => rfl⟩, rfl⟩
  | y :: l, i => by
    have ih := vvl (u1 := u1) (u3 := u3) (u4 := u4) (u5 := u5) (u6 := u6) (u7 := u7) (u8 := u8) (c := c) l (i + 1)
    simp only [vgh, atF]
    cases (y.1 == c)
    · exact ih
    · exact .inl ⟨⟨i, fun k => rfl⟩, i, rfl, fun k => rfl⟩
theorem wid (t : tEngine.D) (c : Int) (hl : (t.2).length ≤ 1048576) (k) : vul t c k = k (atF (fun x => (x.1 == c)) (t.2) 0) := by
  rw [wld (by omega)]
  unfold v90
  rcases vvl  (c := c) (t.2) 0 with ⟨_, a, ha, h⟩ | ⟨⟨b, h⟩, ha⟩ <;> rw [h, ha] <;> rfl
theorem vvh {u0 u1} {c : Int} : ∀ (l : List tTxn.D) (i : Nat),
    (∃ a : Nat, atF (fun x => (x.1 == c)) l i = (a : Int) ∧ ∀ k, vh6 u0 u1 l c i k = k (.inl ((a : Int), (a : Int), c))) ∨
    ((∃ b : Int, ∀ k, vh6 u0 u1 l c i k = k (.inr (b, c))) ∧ atF (fun x => (x.1 == c)) l i = -1)
  | [], i => .inr ⟨⟨_, fun k => rfl⟩, rfl⟩
  | y :: l, i => by
    have ih := vvh (u0 := u0) (u1 := u1) (c := c) l (i + 1)
    simp only [vh6, atF, wig]
    cases (y.1 == c)
    · exact ih
    · exact .inl ⟨i, rfl, fun k => rfl⟩
theorem whu (t : tEngine.D) (c : Int) (hl : (t.2).length ≤ 1048576) (k) : vz9 t c k = k (atF (fun x => (x.1 == c)) (t.2) 0) := by
  rw [v7z]
  unfold v4o
  rw [wlq (by omega)]
  unfold v9z
  rcases vvh (u0 := (t.2)) (u1 := 0) (c := c) (t.2) 0 with ⟨a, ha, h⟩ | ⟨⟨b, h⟩, ha⟩ <;> rw [h, ha] <;> rfl
theorem vzz {a b : ByteArray} (h : a.data.toList = b.data.toList) : a = b := by
  cases a; cases b; congr 1; exact Array.toList_inj.mp h
theorem vnp {a b : ByteArray} (h : vas a b = true) : a = b := by
  rw [vko, beq_iff_eq, ByteArray.toList_eq, ByteArray.toList_eq] at h
  exact vzz h
theorem vhj {s : ByteArray} (h : vdu s = true) : s.size ≤ 3 := by
  unfold vdu vcb at h
  simp only [Bool.and_eq_true, decide_eq_true_eq] at h
  omega
theorem vk9 : ∀ {l : List tWrite.D} {p}, vbv p l = true → ∀ y ∈ l, vbc y = true
  | [], _, _, y, hy => by cases hy
  | z :: l, p, h, y, hy => by
    simp only [vbv, Bool.and_eq_true] at h
    cases hy with
    | head => exact h.1.1
    | tail _ hm => exact vk9 h.2 y hm
def vzd (n : Int) : Prop := 0 ≤ n ∧ n ≤ 16383
theorem vly {t : tTxn.D} (h : vec t = true) : vzd t.1 ∧ vzd t.2.1 ∧ vzd t.2.2.1 ∧ vzd t.2.2.2.1 ∧
    t.2.2.2.2.1.length ≤ 8 ∧ (∀ y ∈ t.2.2.2.2.1, y.1.size ≤ 12 ∧ y.2.size ≤ 12) ∧ t.2.2.2.2.2.1.length ≤ 8 ∧ (∀ y ∈ t.2.2.2.2.2.1, y.1.size ≤ 12 ∧ y.2.1.size ≤ 12) ∧ t.2.2.2.2.2.2.2.size ≤ 12 := by
  unfold vec vcb vbw at h
  simp only [Bool.and_eq_true, Bool.not_eq_true', decide_eq_true_eq, decide_eq_false_iff_not, List.any_eq_false, Bool.not_eq_true, Bool.and_eq_false_iff, beq_eq_false_iff_ne, bne_eq_false_iff_eq, Bool.not_eq_false', Bool.or_eq_true, ne_eq] at h
  obtain ⟨⟨⟨⟨⟨⟨⟨⟨⟨⟨a1, a2⟩, a3⟩, a4⟩, ⟨a5, a6⟩⟩, a7⟩, a8⟩, a9⟩, a10⟩, a11⟩, a12⟩ := h
  unfold vzd
  refine ⟨by omega, by omega, by omega, ?_, by omega, fun y hy => ?_, by omega, fun y hy => ?_, ?_⟩
  · by_cases c : t.2.1 = 3
    · have := a8.resolve_left (fun hc => hc c)
      have w : IntKind.wrap .i64 (t.2.2.1 + 1) = t.2.2.1 + 1 := vbf (by omega) (by omega)
      rw [w] at this
      omega
    · have : @Eq Int t.2.2.2.1 0 := a9.resolve_left (fun hc => c hc)
      omega
  · have : vci y = true := by have := a7 y hy; revert this; cases vci y <;> simp
    unfold vci at this
    simp only [Bool.and_eq_true] at this
    have b1 := vhj this.1.1
    have b2 := vhj this.1.2
    omega
  · have := vk9 a5 y hy
    unfold vbc at this
    simp only [Bool.and_eq_true, decide_eq_true_eq] at this
    have b1 := vhj this.1.1
    omega
  · by_cases c : t.2.1 = 2
    · have := vhj (a10.resolve_left (fun hc => hc c))
      omega
    · have := vnp (a11.resolve_left (fun hc => c hc))
      rw [this]; decide
end
end Go.VE
/- Plain laws of the draws: each gives, whatever the bytes. -/
namespace Go.VE
noncomputable section
set_option linter.unusedVariables false
set_option linter.unusedSimpArgs false
set_option maxRecDepth 100000
/-- A native program that hands on one value, of which this holds. -/
def Gives {α : Type} (F : (α → Option Res) → Option Res) (Q : α → Prop) : Prop := ∃ v, Q v ∧ ∀ k, F k = k v
theorem vkf {α : Type} {v : α} {Q : α → Prop} (h : Q v) : Gives (fun k => k v) Q := ⟨v, h, fun _ => rfl⟩
theorem Gives.bind {α β : Type} {F : (β → Option Res) → Option Res} {R : β → Prop} (hF : Gives F R) {H : β → (α → Option Res) → Option Res} {Q : α → Prop} (hH : ∀ v, R v → Gives (H v) Q) : Gives (fun k => F fun v => H v k) Q := by
  obtain ⟨v, h1, h2⟩ := hF
  obtain ⟨y, h3, h4⟩ := hH v h1
  exact ⟨y, h3, fun k => (h2 _).trans (h4 k)⟩
theorem vrk {α : Type} {c : Bool} {F G : (α → Option Res) → Option Res} {Q : α → Prop} (hF : c = true → Gives F Q) (hG : c = false → Gives G Q) : Gives (fun k => bif c then F k else G k) Q := by
  cases c
  · exact hG rfl
  · exact hF rfl
theorem vyb {α : Type} {c : Prop} [Decidable c] {F : (α → Option Res) → Option Res} {Q : α → Prop} (hc : c) (hF : Gives F Q) : Gives (fun k => if c then F k else none) Q := by
  simp only [hc, if_true]; exact hF
theorem Gives.mono {α : Type} {F : (α → Option Res) → Option Res} {Q R : α → Prop} (h : Gives F Q) (hq : ∀ v, Q v → R v) : Gives F R := by
  obtain ⟨v, h1, h2⟩ := h
  exact ⟨v, hq v h1, h2⟩
theorem vvf {β γ : Type} {b : β → (β ⊕ γ → Option Res) → Option Res} {x : β} {n : Nat} {Q : γ → Prop} (h : Gives (b x) (fun r => (∀ y, r = .inl y → Gives (vae b n y) Q) ∧ ∀ z, r = .inr z → Q z)) : Gives (vae b (n + 1) x) Q := by
  obtain ⟨v, h1, h2⟩ := h
  cases v with
  | inl y =>
    obtain ⟨w, h3, h4⟩ := h1.1 y rfl
    exact ⟨w, h3, fun k => by rw [vae, h2]; exact h4 k⟩
  | inr z => exact ⟨z, h1.2 z rfl, fun k => by rw [vae, h2]; rfl⟩
theorem wkr {β γ : Type} {Q : γ → Prop} {G : β → Prop} {y : β} (h : G y) : (∀ x, (Sum.inl y : β ⊕ γ) = .inl x → G x) ∧ ∀ z, (Sum.inl y : β ⊕ γ) = .inr z → Q z := ⟨fun _ e => by cases e; exact h, fun _ e => (nomatch e)⟩
theorem wft {β γ : Type} {Q : γ → Prop} {G : β → Prop} {z : γ} (h : Q z) : (∀ x, (Sum.inr z : β ⊕ γ) = .inl x → G x) ∧ ∀ w, (Sum.inr z : β ⊕ γ) = .inr w → Q w := ⟨fun _ e => (nomatch e), fun _ e => by cases e; exact h⟩
def okW (n : Nat) (l : List tWrite.D) : Prop := l.length ≤ n ∧ ∀ y ∈ l, y.1.size ≤ 20 ∧ y.2.1.size ≤ 20
theorem v9d {T : Ty} {c : Nat} : ∀ {l : List T.D}, (∀ y ∈ l, T.wt y ≤ c) → wtL T l ≤ c * l.length
  | [], _ => by simp [wtL]
  | y :: l, h => by
    have h1 := h y (by simp)
    have h2 := v9d (l := l) (fun z hz => h z (List.mem_cons_of_mem y hz))
    simp only [wtL, List.length_cons, Nat.mul_add]; omega
end
end Go.VE
/- Plain laws of the marks: what is marked in place is held. -/
namespace Go.VE
noncomputable section
set_option linter.unusedVariables false
set_option linter.unusedSimpArgs false
set_option maxRecDepth 100000
theorem vl0 (n : Int) : (vmh [n]).size = 1 := rfl
theorem vxm : ∀ (m : Nat) (n : Int) (s : ByteArray) (q : Nat), n ≤ m → m < q → s.size + m ≤ 100000000 → Gives (vae vl6 q (n, s)) (fun z => z.2.size ≤ s.size + m) := by
  intro m
  induction m with
  | zero =>
    intro n s q hn hq hs
    obtain ⟨q, rfl⟩ : ∃ r, q = r + 1 := ⟨q - 1, by omega⟩
    apply vvf
    unfold vl6
    exact vrk (fun c => by have c := of_decide_eq_true c; dsimp only at c; omega) (fun _ => vkf (wft (by dsimp only; omega)))
  | succ m ih =>
    intro n s q hn hq hs
    obtain ⟨q, rfl⟩ : ∃ r, q = r + 1 := ⟨q - 1, by omega⟩
    apply vvf
    unfold vl6
    refine vrk (fun c => vyb ?_ (vkf (wkr ?_))) (fun _ => vkf (wft (by dsimp only; omega)))
    · rw [vl0]; dsimp only; omega
    · have c := of_decide_eq_true c
      dsimp only at c
      have e : n.tdiv 10 = n / 10 := Int.tdiv_eq_ediv_of_nonneg (by omega)
      dsimp only
      rw [e, vbf (by omega) (by omega)]
      refine (ih (n / 10) _ q (by omega) (by omega) (by rw [ByteArray.size_append, vl0]; omega)).mono (fun z hz => ?_)
      rw [ByteArray.size_append, vl0] at hz
      omega
theorem v6b {n : Int} (h : n ≤ 10000000) : Gives (vb5 n) (fun _ => True) := by
  rw [v97]
  unfold v44
  refine vrk (fun _ => vkf trivial) (fun _ => (vxm 10000000 n _ Fuel (by omega) (by have := vhw; omega) (by decide)).bind (fun z hz => vyb ?_ (vkf trivial)))
  have : (⟨#[109]⟩ : ByteArray).size = 1 := rfl
  have : (⟨#[]⟩ : ByteArray).size = 0 := rfl
  omega
open Classical in
def vjc (n : Int) : ByteArray := if h : ∃ v, ∀ k, vb5 n k = k v then Classical.choose h else ⟨#[]⟩
theorem va7 {n : Int} (h : n ≤ 10000000) (k) : vb5 n k = k (vjc n) := by
  obtain ⟨v, _, hv⟩ := v6b h
  have h1 : ∃ v, ∀ k, vb5 n k = k v := ⟨v, hv⟩
  unfold vjc
  rw [dif_pos h1]
  exact Classical.choose_spec h1 k
theorem vwb {α : Type} (pre : List α) (y v : α) (l : List α) : (pre ++ y :: l).set pre.length v = pre ++ v :: l := by simp
theorem vpg {α : Type} (pre : List α) (y d : α) (l : List α) : (pre ++ y :: l).getD pre.length d = y := by simp [List.getD]
def vn4 : Int → List tRange.D → List tRange.D
  | _, [] => []
  | c, y :: l => (vjc c, vjc (c + 1)) :: vn4 (c + 2) l
theorem viz : ∀ (l pre : List tRange.D) (c : Int) (q : Nat), 0 ≤ c → c + 2 * l.length ≤ 9000000 → pre.length + l.length ≤ 1048576 → l.length < q →
    ∃ j : Int, ∀ k, vae vlm q (c, (pre.length : Int), pre ++ l) k = k (c + 2 * l.length, j, pre ++ vn4 c l)
  | [], pre, c, q, h0, hc, hl, hq => by
    obtain ⟨q, rfl⟩ : ∃ r, q = r + 1 := ⟨q - 1, by omega⟩
    refine ⟨pre.length, fun k => ?_⟩
    simp only [vae, vlm, List.append_nil, Int.lt_irrefl, decide_false, cond_false, Sum.elim_inr, List.length_nil, vn4]
    simp
  | y :: l, pre, c, q, h0, hc, hl, hq => by
    obtain ⟨q, rfl⟩ : ∃ r, q = r + 1 := ⟨q - 1, by omega⟩
    simp only [List.length_cons] at hc hl hq
    obtain ⟨j, hj⟩ := viz l (pre ++ [(vjc c, vjc (c + 1))]) (c + 2) q (by omega) (by omega) (by rw [List.length_append, List.length_singleton]; omega) (by omega)
    refine ⟨j, fun k => ?_⟩
    have hlt : (pre.length : Int) < ((pre ++ y :: l).length : Int) := by rw [List.length_append, List.length_cons]; omega
    have hlt2 : ∀ v : tRange.D, (pre.length : Int) < ((pre ++ v :: l).length : Int) := fun v => by rw [List.length_append, List.length_cons]; omega
    have w1 : IntKind.wrap .i64 (c + 1) = c + 1 := vbf (by omega) (by omega)
    have w2 : IntKind.wrap .i64 (c + 1 + 1) = c + 2 := by rw [vbf (by omega) (by omega)]; omega
    have w3 : IntKind.wrap .i64 ((pre.length : Int) + 1) = ((pre.length + 1 : Nat) : Int) := vhb (by omega)
    have hp : (0 : Int) ≤ (pre.length : Int) := Int.natCast_nonneg _
    have hj' := hj k
    rw [List.length_append, List.length_singleton, List.append_assoc, List.singleton_append, List.append_assoc, List.singleton_append] at hj'
    simp only [vae, vlm, hlt, decide_true, cond_true, va7 (show c ≤ 10000000 by omega), w1, va7 (show c + 1 ≤ 10000000 by omega), Int.toNat_natCast, vwb, vpg, hlt2, hp, and_self, if_true, w2, w3, Sum.elim_inl]
    rw [hj']
    simp only [vn4, List.length_cons]
    congr 2
    push_cast
    omega
def vnw : Int → List tWrite.D → List tWrite.D
  | _, [] => []
  | c, y :: l => (vjc c, (vjc (c + 1), ((c + 2).tmod 3 == 0))) :: vnw (c + 3) l
theorem vjd : ∀ (l pre : List tWrite.D) (c : Int) (q : Nat), 0 ≤ c → c + 3 * l.length ≤ 9000000 → pre.length + l.length ≤ 1048576 → l.length < q →
    ∃ j : Int, ∀ k, vae vl2 q (c, (pre.length : Int), pre ++ l) k = k (c + 3 * l.length, j, pre ++ vnw c l)
  | [], pre, c, q, h0, hc, hl, hq => by
    obtain ⟨q, rfl⟩ : ∃ r, q = r + 1 := ⟨q - 1, by omega⟩
    refine ⟨pre.length, fun k => ?_⟩
    simp only [vae, vl2, List.append_nil, Int.lt_irrefl, decide_false, cond_false, Sum.elim_inr, List.length_nil, vnw]
    simp
  | y :: l, pre, c, q, h0, hc, hl, hq => by
    obtain ⟨q, rfl⟩ : ∃ r, q = r + 1 := ⟨q - 1, by omega⟩
    simp only [List.length_cons] at hc hl hq
    obtain ⟨j, hj⟩ := vjd l (pre ++ [(vjc c, (vjc (c + 1), ((c + 2).tmod 3 == 0)))]) (c + 3) q (by omega) (by omega) (by rw [List.length_append, List.length_singleton]; omega) (by omega)
    refine ⟨j, fun k => ?_⟩
    have hlt : (pre.length : Int) < ((pre ++ y :: l).length : Int) := by rw [List.length_append, List.length_cons]; omega
    have hlt2 : ∀ v : tWrite.D, (pre.length : Int) < ((pre ++ v :: l).length : Int) := fun v => by rw [List.length_append, List.length_cons]; omega
    have w1 : IntKind.wrap .i64 (c + 1) = c + 1 := vbf (by omega) (by omega)
    have w2 : IntKind.wrap .i64 (c + 1 + 1) = c + 2 := by rw [vbf (by omega) (by omega)]; omega
    have w4 : IntKind.wrap .i64 (c + 2 + 1) = c + 3 := by rw [vbf (by omega) (by omega)]; omega
    have w3 : IntKind.wrap .i64 ((pre.length : Int) + 1) = ((pre.length + 1 : Nat) : Int) := vhb (by omega)
    have hp : (0 : Int) ≤ (pre.length : Int) := Int.natCast_nonneg _
    have hj' := hj k
    rw [List.length_append, List.length_singleton, List.append_assoc, List.singleton_append, List.append_assoc, List.singleton_append] at hj'
    simp only [vae, vl2, hlt, decide_true, cond_true, va7 (show c ≤ 10000000 by omega), w1, va7 (show c + 1 ≤ 10000000 by omega), Int.toNat_natCast, vwb, vpg, hlt2, hp, and_self, if_true, w2, w3, w4, Sum.elim_inl]
    rw [hj']
    simp only [vnw, List.length_cons]
    congr 2
    push_cast
    omega
theorem vir {u0 u2} : ∀ (l : List tRange.D) (c : Int) (i : Nat), 0 ≤ c → c + 2 * l.length ≤ 9000000 → ∃ j : Int, ∀ k, vh1 u0 u2 (vn4 c l) c i k = k (.inr (c + 2 * l.length, j))
  | [], c, i, _, _ => ⟨_, fun k => by simp only [vn4, vh1, List.length_nil]; simp; rfl⟩
  | y :: l, c, i, h0, hc => by
    simp only [List.length_cons] at hc
    obtain ⟨j, hj⟩ := vir (u0 := u0) (u2 := u2) l (c + 2) (i + 1) (by omega) (by omega)
    have w1 : IntKind.wrap .i64 (c + 1) = c + 1 := vbf (by omega) (by omega)
    have w2 : IntKind.wrap .i64 (c + 1 + 1) = c + 2 := by rw [vbf (by omega) (by omega)]; omega
    refine ⟨j, fun k => ?_⟩
    simp only [vn4, vh1, va7 (show c ≤ 10000000 by omega), w1, va7 (show c + 1 ≤ 10000000 by omega), vb8, Bool.not_true, cond_false, w2, hj, List.length_cons]
    congr 3
    push_cast
    omega
theorem vkh {u0 u2} : ∀ (l : List tWrite.D) (c : Int) (i : Nat), 0 ≤ c → c + 3 * l.length ≤ 9000000 → ∃ j : Int, ∀ k, via u0 u2 (vnw c l) c i k = k (.inr (c + 3 * l.length, j))
  | [], c, i, _, _ => ⟨_, fun k => by simp only [vnw, via, List.length_nil]; simp; rfl⟩
  | y :: l, c, i, h0, hc => by
    simp only [List.length_cons] at hc
    obtain ⟨j, hj⟩ := vkh (u0 := u0) (u2 := u2) l (c + 3) (i + 1) (by omega) (by omega)
    have w1 : IntKind.wrap .i64 (c + 1) = c + 1 := vbf (by omega) (by omega)
    have w2 : IntKind.wrap .i64 (c + 1 + 1) = c + 2 := by rw [vbf (by omega) (by omega)]; omega
    have w4 : IntKind.wrap .i64 (c + 2 + 1) = c + 3 := by rw [vbf (by omega) (by omega)]; omega
    refine ⟨j, fun k => ?_⟩
    simp only [vnw, via, va7 (show c ≤ 10000000 by omega), w1, va7 (show c + 1 ≤ 10000000 by omega), vb8, Bool.not_true, cond_false, w2, w4, hj, List.length_cons, beq_self_eq_true]
    congr 3
    push_cast
    omega
end
end Go.VE
/- Plain laws: a range is read. -/
namespace Go.VE
noncomputable section
set_option linter.unusedVariables false
set_option linter.unusedSimpArgs false
set_option maxRecDepth 100000
theorem vpn {a : tTxn.D} (ha : tTxn.wt a ≤ 1048576) : a.2.2.2.2.1.length ≤ 1048576 ∧ a.2.2.2.2.2.1.length ≤ 1048576 := by
  rw [vwn] at ha
  exact ⟨vck (T := tRange) (by omega), vck (T := tWrite) (by omega)⟩
theorem v08 {t : tTxn.D} (hr : t.2.2.2.2.1.length ≤ 1048576) (hw : t.2.2.2.2.2.1.length ≤ 1048576) (k) : vlb t k = k (t.1, t.2.1, t.2.2.1, t.2.2.2.1, t.2.2.2.2.2.2.1, t.2.2.2.2.2.2.2, t.2.2.2.2.1, t.2.2.2.2.2.1) := by
  rw [wa9]
  unfold v4g
  rw [if_pos (by simp only [List.length_nil, VE.maxLen]; omega), if_pos (by simp only [List.length_nil, VE.maxLen]; omega)]
  rfl
theorem v10 {t : tTxn.D} (hr : t.2.2.2.2.1.length ≤ 1048576) (hw : t.2.2.2.2.2.1.length ≤ 1048576) (k) : vlg t k = k (t.1, t.2.1, t.2.2.1, t.2.2.2.1, t.2.2.2.2.2.2.1, t.2.2.2.2.2.2.2, t.2.2.2.2.1, t.2.2.2.2.2.1) := by
  rw [v7s]
  unfold v30
  rw [if_pos (by simp only [VE.maxLen]; omega), if_pos (by simp only [VE.maxLen]; omega)]
end
end Go.VE
/- Plain laws: a transaction's marks. -/
namespace Go.VE
noncomputable section
set_option linter.unusedVariables false
set_option linter.unusedSimpArgs false
set_option maxRecDepth 100000
theorem voo : ∀ (c : Int) (l : List tRange.D), (vn4 c l).length = l.length
  | _, [] => rfl
  | c, y :: l => by simp [vn4, voo (c + 2) l]
theorem vos : ∀ (c : Int) (l : List tWrite.D), (vnw c l).length = l.length
  | _, [] => rfl
  | c, y :: l => by simp [vnw, vos (c + 3) l]
end
end Go.VE
/- Plain laws: keys in order; what a scan sees. -/
namespace Go.VE
noncomputable section
set_option linter.unusedVariables false
set_option linter.unusedSimpArgs false
set_option maxRecDepth 100000
/-! ### the order of texts -/
theorem vt8 (x y : ByteArray) : vaf x y = decide (x.data.toList < y.data.toList) := by
  rw [vdz, ByteArray.toList_eq, ByteArray.toList_eq]
  exact Go.Proofs.bytesLess_eq _ _
theorem vh9 {x y z : ByteArray} (h1 : vaf x y = true) (h2 : vaf y z = true) : vaf x z = true := by
  rw [vt8] at *
  exact decide_eq_true (List.lt_trans (of_decide_eq_true h1) (of_decide_eq_true h2))
theorem vzb {x y : ByteArray} (h1 : vaf x y = false) (h2 : vaf y x = false) : x = y := by
  rw [vt8] at *
  have a := List.not_lt.1 (of_decide_eq_false h1)
  have b := List.not_lt.1 (of_decide_eq_false h2)
  exact vzz (List.le_antisymm b a)
end
end Go.VE
/- Plain laws: a write that is put into others. -/
namespace Go.VE
noncomputable section
set_option linter.unusedVariables false
set_option linter.unusedSimpArgs false
set_option maxRecDepth 100000
theorem vn8 {u0 u2 u3 u4} : ∀ (l s : List tWrite.D) (i : Nat), s.length + l.length ≤ 3000000 → ∃ j : Int, ∀ k, vgu u0 u2 u3 u4 l s i k = k (j, s ++ l.filter fun y => vaf y.1 u2)
  | [], s, i, _ => ⟨_, fun k => by simp [vgu]; rfl⟩
  | y :: l, s, i, h => by
    simp only [List.length_cons] at h
    have hm : s.length + [y].length ≤ VE.maxLen := by show _ ≤ 4294967296; simp; omega
    simp only [vgu, List.filter_cons]
    cases vaf y.1 u2
    · obtain ⟨j, hj⟩ := vn8 (u0 := u0) (u2 := u2) (u3 := u3) (u4 := u4) l s (i + 1) (by omega)
      exact ⟨j, fun k => by simp only [cond_false]; exact hj k⟩
    · obtain ⟨j, hj⟩ := vn8 (u0 := u0) (u2 := u2) (u3 := u3) (u4 := u4) l (s ++ [y]) (i + 1) (by simp; omega)
      exact ⟨j, fun k => by simp only [cond_true, if_pos hm, if_true]; rw [hj k, List.append_assoc, List.singleton_append]⟩
theorem vnt {u0 u2 u3 u4} : ∀ (l s : List tWrite.D) (i : Nat), s.length + l.length ≤ 3000000 → ∃ j : Int, ∀ k, vf9 u0 u2 u3 u4 l s i k = k (j, s ++ l.filter fun y => !(vaf y.1 u2 || vas y.1 u2))
  | [], s, i, _ => ⟨_, fun k => by simp [vf9]; rfl⟩
  | y :: l, s, i, h => by
    simp only [List.length_cons] at h
    have hm : s.length + [y].length ≤ VE.maxLen := by show _ ≤ 4294967296; simp; omega
    simp only [vf9, List.filter_cons]
    cases (!(vaf y.1 u2 || vas y.1 u2))
    · obtain ⟨j, hj⟩ := vnt (u0 := u0) (u2 := u2) (u3 := u3) (u4 := u4) l s (i + 1) (by omega)
      exact ⟨j, fun k => by simp only [cond_false]; exact hj k⟩
    · obtain ⟨j, hj⟩ := vnt (u0 := u0) (u2 := u2) (u3 := u3) (u4 := u4) l (s ++ [y]) (i + 1) (by simp; omega)
      exact ⟨j, fun k => by simp only [cond_true, if_pos hm, if_true]; rw [hj k, List.append_assoc, List.singleton_append]⟩
def putB (l : List tWrite.D) (w : tWrite.D) : List tWrite.D := (l.filter fun y => vaf y.1 w.1) ++ w :: l.filter fun y => !(vaf y.1 w.1 || vas y.1 w.1)
theorem wiu {l : List tWrite.D} (hl : l.length ≤ 1048576) (w : tWrite.D) (k) : vqb l w k = k (putB l w) := by
  rw [wjk (by omega)]
  unfold wa7
  obtain ⟨j, hj⟩ := vn8 (u0 := l) (u2 := w.1) (u3 := w.2.1) (u4 := w.2.2) l [] 0 (by simp; omega)
  have hf := List.length_filter_le (fun y : tWrite.D => vaf y.1 w.1) l
  obtain ⟨j2, hj2⟩ := vnt (u0 := l) (u2 := w.1) (u3 := w.2.1) (u4 := w.2.2) l ((l.filter fun y => vaf y.1 w.1) ++ [w]) 0 (by simp; omega)
  rw [hj]
  simp only [List.nil_append]
  rw [if_pos (by show _ ≤ 4294967296; simp only [List.length_singleton]; omega), hj2]
  unfold putB
  rw [List.append_assoc, List.singleton_append]
end
end Go.VE
/- Plain laws: marks of lists of transactions, of bases and engines that own all their slices. -/
namespace Go.VE
noncomputable section
set_option linter.unusedVariables false
set_option linter.unusedSimpArgs false
set_option maxRecDepth 100000
theorem vo9 {l : List tRange.D} (hl : l.length ≤ 1048576) {c : Int} (h0 : 0 ≤ c) (hc : c + 2 * l.length ≤ 9000000) (k) : vy9 c l k = k (c + 2 * l.length, vn4 c l) := by
  rw [wad]
  unfold v5p
  obtain ⟨j, hj⟩ := viz l [] c Fuel h0 hc (by simpa using hl) (by have := vhw; omega)
  simp only [List.length_nil, List.nil_append] at hj
  rw [show ((0 : Int)) = ((0 : Nat) : Int) from rfl, hj]
theorem vo2 {l : List tWrite.D} (hl : l.length ≤ 1048576) {c : Int} (h0 : 0 ≤ c) (hc : c + 3 * l.length ≤ 9000000) (k) : vz7 c l k = k (c + 3 * l.length, vnw c l) := by
  rw [wbr]
  unfold v3e
  obtain ⟨j, hj⟩ := vjd l [] c Fuel h0 hc (by simpa using hl) (by have := vhw; omega)
  simp only [List.length_nil, List.nil_append] at hj
  rw [show ((0 : Int)) = ((0 : Nat) : Int) from rfl, hj]
/-- How many marks one takes. -/
def vju (t : tTxn.D) : Int := 6 + 2 * (t.2.2.2.2.1.length : Int) + 3 * (t.2.2.2.2.2.1.length : Int)
def cntT : List tTxn.D → Int
  | [] => 0
  | y :: l => vju y + cntT l
def v28 (c : Int) (t : tTxn.D) : tTxn.D :=
  (c, (c + 1, (c + 2, (c + 3, (vn4 (c + 4) t.2.2.2.2.1, (vnw (c + 4 + 2 * (t.2.2.2.2.1.length : Int)) t.2.2.2.2.2.1,
    ((c + 4 + 2 * (t.2.2.2.2.1.length : Int) + 3 * (t.2.2.2.2.2.1.length : Int)).tmod 3 == 0, vjc (c + 4 + 2 * (t.2.2.2.2.1.length : Int) + 3 * (t.2.2.2.2.2.1.length : Int) + 1))))))))
def vmf : Int → List tTxn.D → List tTxn.D
  | _, [] => []
  | c, y :: l => v28 c y :: vmf (c + vju y) l
theorem vyw (t : tTxn.D) : 6 ≤ vju t := by unfold vju; omega
theorem vc4 : ∀ l : List tTxn.D, 0 ≤ cntT l
  | [] => Int.le_refl _
  | y :: l => by have := vyw y; have := vc4 l; simp only [cntT]; omega
theorem vol : ∀ (c : Int) (l : List tTxn.D), (vmf c l).length = l.length
  | _, [] => rfl
  | c, y :: l => by simp [vmf, vol (c + vju y) l]
theorem v75 : ∀ (l : List tTxn.D), cntT l ≤ 6 * (l.length + wtL tTxn l : Nat)
  | [] => by simp [cntT, wtL]
  | y :: l => by
    have h := v75 l
    have hw := vwn y
    have h1 : (Ty.slice tRange).wt y.2.2.2.2.1 = y.2.2.2.2.1.length + wtL tRange y.2.2.2.2.1 := Ty.wt_slice _ _
    have h2 : (Ty.slice tWrite).wt y.2.2.2.2.2.1 = y.2.2.2.2.2.1.length + wtL tWrite y.2.2.2.2.2.1 := Ty.wt_slice _ _
    simp only [cntT, vju, List.length_cons, wtL]
    push_cast at h ⊢
    omega
theorem vms : ∀ (l pre : List tTxn.D) (c : Int) (q : Nat), (∀ y ∈ l, y.2.2.2.2.1.length ≤ 1048576 ∧ y.2.2.2.2.2.1.length ≤ 1048576) → 0 ≤ c → c + cntT l ≤ 9000000 → pre.length + l.length ≤ 1048576 → l.length < q →
    ∃ j : Int, ∀ k, vae vj4 q (c, (pre.length : Int), pre ++ l) k = k (c + cntT l, j, pre ++ vmf c l)
  | [], pre, c, q, hw, h0, hc, hl, hq => by
    obtain ⟨q, rfl⟩ : ∃ r, q = r + 1 := ⟨q - 1, by omega⟩
    refine ⟨pre.length, fun k => ?_⟩
    simp only [vae, vj4, List.append_nil, Int.lt_irrefl, decide_false, cond_false, Sum.elim_inr, vmf, cntT]
    simp
  | y :: l, pre, c, q, hw, h0, hc, hl, hq => by
    obtain ⟨q, rfl⟩ : ∃ r, q = r + 1 := ⟨q - 1, by omega⟩
    simp only [List.length_cons] at hl hq
    obtain ⟨hy1, hy2⟩ := hw y (by simp)
    have hp1 := vc4 l
    simp only [cntT] at hc
    obtain ⟨j, hj⟩ := vms l (pre ++ [v28 c y]) (c + vju y) q (fun z hz => hw z (by simp [hz])) (by have := vyw y; omega) (by omega) (by rw [List.length_append, List.length_singleton]; omega) (by omega)
    refine ⟨j, fun k => ?_⟩
    have hlt : ∀ v : tTxn.D, (pre.length : Int) < ((pre ++ v :: l).length : Int) := fun v => by rw [List.length_append, List.length_cons]; omega
    have hcy : vju y = 6 + 2 * (y.2.2.2.2.1.length : Int) + 3 * (y.2.2.2.2.2.1.length : Int) := rfl
    have w1 : IntKind.wrap .i64 (c + 1) = c + 1 := vbf (by omega) (by omega)
    have w2 : IntKind.wrap .i64 (c + 1 + 1) = c + 2 := by rw [vbf (by omega) (by omega)]; omega
    have w3 : IntKind.wrap .i64 (c + 2 + 1) = c + 3 := by rw [vbf (by omega) (by omega)]; omega
    have w4 : IntKind.wrap .i64 (c + 3 + 1) = c + 4 := by rw [vbf (by omega) (by omega)]; omega
    have w5 : IntKind.wrap .i64 (c + 4 + 2 * (y.2.2.2.2.1.length : Int) + 3 * (y.2.2.2.2.2.1.length : Int) + 1) = c + 4 + 2 * (y.2.2.2.2.1.length : Int) + 3 * (y.2.2.2.2.2.1.length : Int) + 1 := vbf (by omega) (by omega)
    have w6 : IntKind.wrap .i64 (c + 4 + 2 * (y.2.2.2.2.1.length : Int) + 3 * (y.2.2.2.2.2.1.length : Int) + 1 + 1) = c + vju y := by rw [vbf (by omega) (by omega)]; omega
    have w7 : IntKind.wrap .i64 ((pre.length : Int) + 1) = ((pre.length + 1 : Nat) : Int) := vhb (by omega)
    have hp : (0 : Int) ≤ (pre.length : Int) := Int.natCast_nonneg _
    have hj' := hj k
    rw [List.length_append, List.length_singleton, List.append_assoc, List.singleton_append, List.append_assoc, List.singleton_append] at hj'
    simp only [vae, vj4, hlt, decide_true, cond_true, hp, and_self, if_true, Int.toNat_natCast, vwb, vpg, vdq, vdl, vdn, vdo,
      vdm, vdk, vde, w1, w2, w3, w4, w7,
      vo9 hy1 (show 0 ≤ c + 4 by omega) (show c + 4 + 2 * (y.2.2.2.2.1.length : Int) ≤ 9000000 by omega),
      vo2 hy2 (show 0 ≤ c + 4 + 2 * (y.2.2.2.2.1.length : Int) by omega) (show c + 4 + 2 * (y.2.2.2.2.1.length : Int) + 3 * (y.2.2.2.2.2.1.length : Int) ≤ 9000000 by omega), w5,
      va7 (show c + 4 + 2 * (y.2.2.2.2.1.length : Int) + 3 * (y.2.2.2.2.2.1.length : Int) + 1 ≤ 10000000 by omega), w6, Sum.elim_inl]
    refine Eq.trans (b := vae vj4 q (c + vju y, ((pre.length + 1 : Nat) : Int), pre ++ v28 c y :: l) k) rfl ?_
    rw [hj']
    simp only [vmf, cntT]
    congr 2
    omega
theorem vf0 {l : List tTxn.D} (hw : ∀ y ∈ l, y.2.2.2.2.1.length ≤ 1048576 ∧ y.2.2.2.2.2.1.length ≤ 1048576) (hl : l.length ≤ 1048576) {c : Int} (h0 : 0 ≤ c) (hc : c + cntT l ≤ 9000000) (k) :
    vrn c l k = k (c + cntT l, vmf c l) := by
  rw [v9j]
  unfold v27
  obtain ⟨j, hj⟩ := vms l [] c Fuel hw h0 hc (by simpa using hl) (by have := vhw; omega)
  simp only [List.length_nil, List.nil_append] at hj
  rw [show ((0 : Int)) = ((0 : Nat) : Int) from rfl, hj]
end
end Go.VE
/- Plain laws: what is marked in versions, transactions, bases and engines is held. -/
namespace Go.VE
noncomputable section
set_option linter.unusedVariables false
set_option linter.unusedSimpArgs false
set_option maxRecDepth 100000
def vn9 : Int → List tVersion.D → List tVersion.D
  | _, [] => []
  | c, y :: l => (vjc c, (vjc (c + 1), ((c + 2).tmod 3 == 0, c + 3))) :: vn9 (c + 4) l
theorem voe : ∀ (c : Int) (l : List tVersion.D), (vn9 c l).length = l.length
  | _, [] => rfl
  | c, y :: l => by simp [vn9, voe (c + 4) l]
theorem ven : ∀ (l pre : List tVersion.D) (c : Int) (q : Nat), 0 ≤ c → c + 4 * l.length ≤ 9000000 → pre.length + l.length ≤ 1048576 → l.length < q →
    ∃ j : Int, ∀ k, vae vji q (c, (pre.length : Int), pre ++ l) k = k (c + 4 * l.length, j, pre ++ vn9 c l)
  | [], pre, c, q, h0, hc, hl, hq => by
    obtain ⟨q, rfl⟩ : ∃ r, q = r + 1 := ⟨q - 1, by omega⟩
    refine ⟨pre.length, fun k => ?_⟩
    simp only [vae, vji, List.append_nil, Int.lt_irrefl, decide_false, cond_false, Sum.elim_inr, List.length_nil, vn9]
    simp
  | y :: l, pre, c, q, h0, hc, hl, hq => by
    obtain ⟨q, rfl⟩ : ∃ r, q = r + 1 := ⟨q - 1, by omega⟩
    simp only [List.length_cons] at hc hl hq
    obtain ⟨j, hj⟩ := ven l (pre ++ [(vjc c, (vjc (c + 1), ((c + 2).tmod 3 == 0, c + 3)))]) (c + 4) q (by omega) (by omega) (by rw [List.length_append, List.length_singleton]; omega) (by omega)
    refine ⟨j, fun k => ?_⟩
    have hlt : ∀ v : tVersion.D, (pre.length : Int) < ((pre ++ v :: l).length : Int) := fun v => by rw [List.length_append, List.length_cons]; omega
    have w1 : IntKind.wrap .i64 (c + 1) = c + 1 := vbf (by omega) (by omega)
    have w2 : IntKind.wrap .i64 (c + 1 + 1) = c + 2 := by rw [vbf (by omega) (by omega)]; omega
    have w3 : IntKind.wrap .i64 (c + 2 + 1) = c + 3 := by rw [vbf (by omega) (by omega)]; omega
    have w4 : IntKind.wrap .i64 (c + 3 + 1) = c + 4 := by rw [vbf (by omega) (by omega)]; omega
    have w5 : IntKind.wrap .i64 ((pre.length : Int) + 1) = ((pre.length + 1 : Nat) : Int) := vhb (by omega)
    have hp : (0 : Int) ≤ (pre.length : Int) := Int.natCast_nonneg _
    have hj' := hj k
    rw [List.length_append, List.length_singleton, List.append_assoc, List.singleton_append, List.append_assoc, List.singleton_append] at hj'
    simp only [vae, vji, hlt, decide_true, cond_true, va7 (show c ≤ 10000000 by omega), w1, va7 (show c + 1 ≤ 10000000 by omega), Int.toNat_natCast, vwb, vpg, hp, and_self, if_true, w2, w3, w4, w5, Sum.elim_inl]
    refine Eq.trans (b := vae vji q (c + 4, ((pre.length + 1 : Nat) : Int), pre ++ (vjc c, (vjc (c + 1), ((c + 2).tmod 3 == 0, c + 3))) :: l) k) rfl ?_
    rw [hj']
    simp only [vn9, List.length_cons]
    congr 2
    push_cast
    omega
theorem vng {l : List tVersion.D} (hl : l.length ≤ 1048576) {c : Int} (h0 : 0 ≤ c) (hc : c + 4 * l.length ≤ 9000000) (k) : vy7 c l k = k (c + 4 * l.length, vn9 c l) := by
  rw [v99]
  unfold v2t
  obtain ⟨j, hj⟩ := ven l [] c Fuel h0 hc (by simpa using hl) (by have := vhw; omega)
  simp only [List.length_nil, List.nil_append] at hj
  rw [show ((0 : Int)) = ((0 : Nat) : Int) from rfl, hj]
theorem vg4 {u0 u2} : ∀ (l : List tVersion.D) (c : Int) (i : Nat), 0 ≤ c → c + 4 * l.length ≤ 9000000 → ∃ j : Int, ∀ k, vid u0 u2 (vn9 c l) c i k = k (.inr (c + 4 * l.length, j))
  | [], c, i, _, _ => ⟨_, fun k => by simp only [vn9, vid, List.length_nil]; simp; rfl⟩
  | y :: l, c, i, h0, hc => by
    simp only [List.length_cons] at hc
    obtain ⟨j, hj⟩ := vg4 (u0 := u0) (u2 := u2) l (c + 4) (i + 1) (by omega) (by omega)
    have w1 : IntKind.wrap .i64 (c + 1) = c + 1 := vbf (by omega) (by omega)
    have w2 : IntKind.wrap .i64 (c + 1 + 1) = c + 2 := by rw [vbf (by omega) (by omega)]; omega
    have w3 : IntKind.wrap .i64 (c + 2 + 1) = c + 3 := by rw [vbf (by omega) (by omega)]; omega
    have w4 : IntKind.wrap .i64 (c + 3 + 1) = c + 4 := by rw [vbf (by omega) (by omega)]; omega
    refine ⟨j, fun k => ?_⟩
    simp only [vn9, vid, va7 (show c ≤ 10000000 by omega), w1, va7 (show c + 1 ≤ 10000000 by omega), vb8, Bool.not_true, cond_false, w2, w3, w4, beq_self_eq_true, bne_self_eq_false, hj, List.length_cons]
    congr 3
    push_cast
    omega
theorem vsd {l : List tVersion.D} (hl : l.length ≤ 1048576) {c : Int} (h0 : 0 ≤ c) (hc : c + 4 * l.length ≤ 9000000) (k) : vvn (vn9 c l) c k = k (c + 4 * (l.length : Int)) := by
  rw [wkn (by rw [voe]; omega)]
  unfold v8i
  obtain ⟨j, hj⟩ := vg4 (u0 := vn9 c l) (u2 := 0) l c 0 h0 hc
  rw [hj]; rfl
theorem vwz {l : List tRange.D} (hl : l.length ≤ 1048576) {c : Int} (h0 : 0 ≤ c) (hc : c + 2 * l.length ≤ 9000000) (k) : vpx (vn4 c l) c k = k (c + 2 * (l.length : Int)) := by
  rw [wi2 (by rw [voo]; omega)]
  unfold v9s
  obtain ⟨j, hj⟩ := vir (u0 := vn4 c l) (u2 := 0) l c 0 h0 hc
  rw [hj]; rfl
theorem vxf {l : List tWrite.D} (hl : l.length ≤ 1048576) {c : Int} (h0 : 0 ≤ c) (hc : c + 3 * l.length ≤ 9000000) (k) : vp0 (vnw c l) c k = k (c + 3 * (l.length : Int)) := by
  rw [wjc (by rw [vos]; omega)]
  unfold wag
  obtain ⟨j, hj⟩ := vkh (u0 := vnw c l) (u2 := 0) l c 0 h0 hc
  rw [hj]; rfl
theorem vmt {u0 u2} : ∀ (l : List tTxn.D) (c : Int) (i : Nat), (∀ y ∈ l, y.2.2.2.2.1.length ≤ 1048576 ∧ y.2.2.2.2.2.1.length ≤ 1048576) → 0 ≤ c → c + cntT l ≤ 9000000 → ∃ j : Int, ∀ k, vhy u0 u2 (vmf c l) c i k = k (.inr (c + cntT l, j))
  | [], c, i, _, _, _ => ⟨_, fun k => by simp only [vmf, vhy, cntT]; simp; rfl⟩
  | y :: l, c, i, hw, h0, hc => by
    obtain ⟨hy1, hy2⟩ := hw y (by simp)
    have hp1 := vc4 l
    simp only [cntT] at hc
    have hcy : vju y = 6 + 2 * (y.2.2.2.2.1.length : Int) + 3 * (y.2.2.2.2.2.1.length : Int) := rfl
    obtain ⟨j, hj⟩ := vmt (u0 := u0) (u2 := u2) l (c + vju y) (i + 1) (fun z hz => hw z (by simp [hz])) (by omega) (by omega)
    have w1 : IntKind.wrap .i64 (c + 1) = c + 1 := vbf (by omega) (by omega)
    have w2 : IntKind.wrap .i64 (c + 1 + 1) = c + 2 := by rw [vbf (by omega) (by omega)]; omega
    have w3 : IntKind.wrap .i64 (c + 2 + 1) = c + 3 := by rw [vbf (by omega) (by omega)]; omega
    have w4 : IntKind.wrap .i64 (c + 3 + 1) = c + 4 := by rw [vbf (by omega) (by omega)]; omega
    have w5 : IntKind.wrap .i64 (c + 4 + 2 * (y.2.2.2.2.1.length : Int) + 3 * (y.2.2.2.2.2.1.length : Int) + 1) = c + 4 + 2 * (y.2.2.2.2.1.length : Int) + 3 * (y.2.2.2.2.2.1.length : Int) + 1 := vbf (by omega) (by omega)
    have w6 : IntKind.wrap .i64 (c + 4 + 2 * (y.2.2.2.2.1.length : Int) + 3 * (y.2.2.2.2.2.1.length : Int) + 1 + 1) = c + vju y := by rw [vbf (by omega) (by omega)]; omega
    have n1 : decide (c + 4 + 2 * (y.2.2.2.2.1.length : Int) < 0) = false := decide_eq_false (by omega)
    have n2 : decide (c + 4 + 2 * (y.2.2.2.2.1.length : Int) + 3 * (y.2.2.2.2.2.1.length : Int) < 0) = false := decide_eq_false (by omega)
    refine ⟨j, fun k => ?_⟩
    simp only [vmf, v28, vhy, w1, w2, w3, w4, bne_self_eq_false, cond_false, vwz hy1 (show 0 ≤ c + 4 by omega) (show c + 4 + 2 * (y.2.2.2.2.1.length : Int) ≤ 9000000 by omega), n1,
      vxf hy2 (show 0 ≤ c + 4 + 2 * (y.2.2.2.2.1.length : Int) by omega) (show c + 4 + 2 * (y.2.2.2.2.1.length : Int) + 3 * (y.2.2.2.2.2.1.length : Int) ≤ 9000000 by omega), n2, beq_self_eq_true, Bool.not_true, w5,
      va7 (show c + 4 + 2 * (y.2.2.2.2.1.length : Int) + 3 * (y.2.2.2.2.2.1.length : Int) + 1 ≤ 10000000 by omega), vb8, w6, hj, cntT]
    congr 3
    omega
theorem vlo {l : List tTxn.D} (hw : ∀ y ∈ l, y.2.2.2.2.1.length ≤ 1048576 ∧ y.2.2.2.2.2.1.length ≤ 1048576) (hl : l.length ≤ 1048576) {c : Int} (h0 : 0 ≤ c) (hc : c + cntT l ≤ 9000000) (k) :
    vog (vmf c l) c k = k (c + cntT l) := by
  rw [wj0 (by rw [vol]; omega)]
  unfold wa1
  obtain ⟨j, hj⟩ := vmt (u0 := vmf c l) (u2 := 0) l c 0 hw h0 hc
  rw [hj]; rfl
/-- A list of transactions small enough to be marked. -/
def OkTs (l : List tTxn.D) : Prop := (∀ y ∈ l, y.2.2.2.2.1.length ≤ 1048576 ∧ y.2.2.2.2.2.1.length ≤ 1048576) ∧ l.length ≤ 1048576
theorem v1s {l : List tTxn.D} (h : (Ty.slice tTxn).wt l ≤ 1048576) : OkTs l :=
  ⟨fun y hy => by
    have := vb0 hy h
    rw [vwn] at this
    exact ⟨vck (T := tRange) (by omega), vck (T := tWrite) (by omega)⟩, vck h⟩
theorem v2f {l : List tTxn.D} : cntT l ≤ 6 * ((Ty.slice tTxn).wt l : Nat) := by
  have := v75 l
  rw [Ty.wt_slice]; exact this
/-- How many marks a base takes. -/
def cntB (b : tBase.D) : Int := 4 * (b.1.length : Int) + cntT b.2.1 + cntT b.2.2.1
def OkBs (b : tBase.D) : Prop := b.1.length ≤ 1048576 ∧ OkTs b.2.1 ∧ OkTs b.2.2.1
def vnk (c : Int) (b : tBase.D) : tBase.D := (vn9 c b.1, (vmf (c + 4 * b.1.length) b.2.1, (vmf (c + 4 * b.1.length + cntT b.2.1) b.2.2.1, b.2.2.2)))
theorem vv6 (b : tBase.D) : 0 ≤ cntB b := by unfold cntB; have := vc4 b.2.1; have := vc4 b.2.2.1; omega
theorem wh6 {b : tBase.D} (h : tBase.wt b ≤ 1048576) : OkBs b := by
  rw [vx7] at h
  exact ⟨vck (T := tVersion) (by omega), v1s (by omega), v1s (by omega)⟩
theorem wit (b : tBase.D) : cntB b ≤ 6 * (tBase.wt b : Nat) := by
  have h1 := v2f (l := b.2.1)
  have h2 := v2f (l := b.2.2.1)
  have h3 : (Ty.slice tVersion).wt b.1 = b.1.length + wtL tVersion b.1 := Ty.wt_slice _ _
  have h4 := vx7 b
  unfold cntB
  omega
theorem v17 {b : tBase.D} (hb : OkBs b) {c : Int} (h0 : 0 ≤ c) (hc : c + cntB b ≤ 9000000) (a0 a1 : Int) (k) :
    vzx a0 a1 c b.1 b.2.1 b.2.2.1 k = k (c + cntB b, (vnk c b).1, (vnk c b).2.1, (vnk c b).2.2.1) := by
  obtain ⟨hb1, hb2, hb3⟩ := hb
  have p1 := vc4 b.2.1
  have p2 := vc4 b.2.2.1
  have hcb : cntB b = 4 * (b.1.length : Int) + cntT b.2.1 + cntT b.2.2.1 := rfl
  rw [v9g]
  unfold v21
  simp only [vng hb1 h0 (by omega), vf0 hb2.1 hb2.2 (show 0 ≤ c + 4 * (b.1.length : Int) by omega) (by omega), vf0 hb3.1 hb3.2 (show 0 ≤ c + 4 * (b.1.length : Int) + cntT b.2.1 by omega) (by omega), vnk]
  congr 2
  omega
theorem v0u {b : tBase.D} (hb : OkBs b) {c : Int} (h0 : 0 ≤ c) (hc : c + cntB b ≤ 9000000) (z : Int × Int) (k) :
    vy1 ((vnk c b).1, ((vnk c b).2.1, ((vnk c b).2.2.1, z))) c k = k (c + cntB b) := by
  obtain ⟨hb1, hb2, hb3⟩ := hb
  have p1 := vc4 b.2.1
  have p2 := vc4 b.2.2.1
  have hcb : cntB b = 4 * (b.1.length : Int) + cntT b.2.1 + cntT b.2.2.1 := rfl
  have n1 : decide (c + 4 * (b.1.length : Int) < 0) = false := decide_eq_false (by omega)
  have n2 : decide (c + 4 * (b.1.length : Int) + cntT b.2.1 < 0) = false := decide_eq_false (by omega)
  have n3 : decide (c + 4 * (b.1.length : Int) + cntT b.2.1 + cntT b.2.2.1 < 0) = false := decide_eq_false (by omega)
  rw [wbe]
  unfold v3n
  simp only [vnk, vsd hb1 h0 (by omega), n1, cond_false, vlo hb2.1 hb2.2 (show 0 ≤ c + 4 * (b.1.length : Int) by omega) (by omega), n2, vlo hb3.1 hb3.2 (show 0 ≤ c + 4 * (b.1.length : Int) + cntT b.2.1 by omega) (by omega), n3]
  congr 1
  omega
def cntE (e : tEngine.D) : Int := cntB e.1 + cntT e.2
def OkE (e : tEngine.D) : Prop := OkBs e.1 ∧ OkTs e.2
def vii (c : Int) (e : tEngine.D) : tEngine.D := (vnk c e.1, vmf (c + cntB e.1) e.2)
theorem v3a {e : tEngine.D} (h : tEngine.wt e ≤ 1048576) : OkE e := by
  rw [vfc] at h
  exact ⟨wh6 (by omega), v1s (by omega)⟩
theorem v4w (e : tEngine.D) : 0 ≤ cntE e := by unfold cntE; have := vv6 e.1; have := vc4 e.2; omega
theorem wim (e : tEngine.D) : cntE e ≤ 6 * (tEngine.wt e : Nat) := by
  have h1 := wit e.1
  have h2 := v2f (l := e.2)
  have h4 := vfc e
  unfold cntE
  omega
theorem vm5 {e : tEngine.D} (hb : OkE e) {c : Int} (h0 : 0 ≤ c) (hc : c + cntE e ≤ 9000000) (a0 a1 : Int) (k) :
    vmn a0 a1 c e.1.1 e.1.2.1 e.1.2.2.1 e.2 k = k (c + cntE e, (vii c e).1.1, (vii c e).1.2.1, (vii c e).1.2.2.1, (vii c e).2) := by
  obtain ⟨hb1, hb2⟩ := hb
  have p1 := vv6 e.1
  have p2 := vc4 e.2
  have hcb : cntE e = cntB e.1 + cntT e.2 := rfl
  rw [v8e]
  unfold v31
  simp only [v17 hb1 h0 (by omega), vf0 hb2.1 hb2.2 (show 0 ≤ c + cntB e.1 by omega) (by omega), vii]
  congr 2
  omega
theorem vxw {e : tEngine.D} (hb : OkE e) {c : Int} (h0 : 0 ≤ c) (hc : c + cntE e ≤ 9000000) (z : Int × Int) (k) :
    vnj (((vii c e).1.1, ((vii c e).1.2.1, ((vii c e).1.2.2.1, z))), (vii c e).2) c k = k (c + cntE e) := by
  obtain ⟨hb1, hb2⟩ := hb
  have p1 := vv6 e.1
  have p2 := vc4 e.2
  have hcb : cntE e = cntB e.1 + cntT e.2 := rfl
  have n1 : decide (c + cntB e.1 < 0) = false := decide_eq_false (by omega)
  have n2 : decide (c + cntB e.1 + cntT e.2 < 0) = false := decide_eq_false (by omega)
  rw [v7t]
  unfold v4c
  simp only [vii, v0u hb1 h0 (by omega), n1, cond_false, vlo hb2.1 hb2.2 (show 0 ≤ c + cntB e.1 by omega) (by omega), n2]
  congr 1
  omega
end
end Go.VE
/- Plain laws of engines: copies, comparisons, marks where lists are short; GetKey. -/
namespace Go.VE
noncomputable section
set_option linter.unusedVariables false
set_option linter.unusedSimpArgs false
set_option maxRecDepth 100000
/-! ### copies -/
theorem vx6 {u0 : List tTxn.D} : ∀ (l acc : List tTxn.D) (i : Nat), (∀ y ∈ l, y.2.2.2.2.1.length ≤ 1048576 ∧ y.2.2.2.2.2.1.length ≤ 1048576) → acc.length + l.length ≤ 1048576 →
    ∃ j : Int, ∀ K, vhs u0 l acc i K = K (j, acc ++ l)
  | [], acc, i, _, _ => ⟨_, fun K => by simp only [vhs, List.append_nil]; rfl⟩
  | y :: l, acc, i, hw, h => by
    simp only [List.length_cons] at h
    obtain ⟨j, hj⟩ := vx6 (u0 := u0) l (acc ++ [y]) (i + 1) (fun z hz => hw z (by simp [hz])) (by rw [List.length_append, List.length_singleton]; omega)
    have hy := hw y (by simp)
    refine ⟨j, fun K => ?_⟩
    simp only [vhs, v08 hy.1 hy.2, vnf]
    rw [if_pos (by rw [List.length_singleton]; have : VE.maxLen = 4294967296 := rfl; omega), hj]
    simp only [List.append_assoc, List.singleton_append]
theorem v01 {l : List tTxn.D} (h : OkTs l) (k) : voq l k = k l := by
  rw [wkk (by have := h.2; omega)]
  obtain ⟨j, hj⟩ := vx6 (u0 := l) l [] 0 h.1 (by simpa using h.2)
  simp only [wab, hj, List.nil_append]
theorem vyi {u0 : List tTxn.D} : ∀ (l acc : List tTxn.D) (i : Nat), (∀ y ∈ l, y.2.2.2.2.1.length ≤ 1048576 ∧ y.2.2.2.2.2.1.length ≤ 1048576) → acc.length + l.length ≤ 1048576 →
    ∃ j : Int, ∀ K, vh8 u0 l acc i K = K (j, acc ++ l)
  | [], acc, i, _, _ => ⟨_, fun K => by simp only [vh8, List.append_nil]; rfl⟩
  | y :: l, acc, i, hw, h => by
    simp only [List.length_cons] at h
    obtain ⟨j, hj⟩ := vyi (u0 := u0) l (acc ++ [y]) (i + 1) (fun z hz => hw z (by simp [hz])) (by rw [List.length_append, List.length_singleton]; omega)
    have hy := hw y (by simp)
    refine ⟨j, fun K => ?_⟩
    simp only [vh8, v10 hy.1 hy.2, vnf]
    rw [if_pos (by rw [List.length_singleton]; have : VE.maxLen = 4294967296 := rfl; omega), hj]
    simp only [List.append_assoc, List.singleton_append]
theorem v1i {l : List tTxn.D} (h : OkTs l) (k) : vou l k = k l := by
  rw [wlp (by have := h.2; omega)]
  obtain ⟨j, hj⟩ := vyi (u0 := l) l [] 0 h.1 (by simpa using h.2)
  simp only [wbk, hj, List.nil_append]
theorem wir {e : tEngine.D} (h : OkE e) (k) : vzq e k = k (e.1.2.2.2.1, e.1.2.2.2.2, e.1.1, e.1.2.1, e.1.2.2.1, e.2) := by
  rw [v71]
  unfold v3h
  rw [v9v]
  unfold v3c
  rw [if_pos (by have h1 := h.1.1; have : VE.maxLen = 4294967296 := rfl; simp only [List.length_nil]; omega)]
  simp only [v01 h.1.2.1, v01 h.1.2.2, v01 h.2, List.nil_append]
theorem wif {e : tEngine.D} (h : OkE e) (k) : vzr e k = k (e.1.2.2.2.1, e.1.2.2.2.2, e.1.1, e.1.2.1, e.1.2.2.1, e.2) := by
  rw [v8p]
  unfold v4a
  rw [v82]
  unfold v4n
  rw [if_pos (by have h1 := h.1.1; have : VE.maxLen = 4294967296 := rfl; omega)]
  simp only [v1i h.1.2.1, v1i h.1.2.2, v1i h.2]
theorem vld {u0 : List tTxn.D} (hu : OkTs u0) {u2 : Bool} : ∀ (l : List tTxn.D) (i : Nat), u0.drop i = l → ∃ z, ∀ k, vga u0 u0 u2 l i k = k (.inr z)
  | [], i, h => ⟨_, fun k => rfl⟩
  | y :: l, i, h => by
    have hlt := vdx h
    obtain ⟨z, hz⟩ := vld hu (u2 := u2) l (i + 1) (vce h)
    have hy := (vat h).1
    have hm := hu.1 y (ve2 h)
    refine ⟨z, fun k => ?_⟩
    simp only [vga]
    rw [if_pos ⟨by omega, by omega⟩]
    simp only [hy, vup y hm.1 hm.2, Bool.not_true, cond_false, hz]
theorem vr0 {x : List tTxn.D} (h : OkTs x) (k) : vm6 x x k = k true := by
  rw [whf (by have := h.2; omega)]
  obtain ⟨z, hz⟩ := vld h (u2 := false) x 0 rfl
  simp [v3x, hz]
theorem v07 {e : tEngine.D} (h : OkE e) (k) : vfl e e k = k true := by
  rw [v3g]
  unfold vzf
  rw [v4h]
  simp [vyy, vi9 h.1.1, vr0 h.1.2.1, vr0 h.1.2.2, vr0 h.2]
theorem wdw {l : List tTxn.D} (h : OkTs l) {y : tTxn.D} (hy : y.2.2.2.2.1.length ≤ 1048576 ∧ y.2.2.2.2.2.1.length ≤ 1048576) (i : Nat) : OkTs (l.set i y) :=
  ⟨fun z hz => by rcases List.mem_or_eq_of_mem_set hz with hz | rfl; exact h.1 z hz; exact hy, by rw [List.length_set]; exact h.2⟩
theorem v26 : ∀ (l : List tTxn.D) (i : Nat) (y z : tTxn.D), l[i]? = some z → cntT (l.set i y) = cntT l - vju z + vju y
  | [], i, y, z, h => by simp at h
  | x :: l, 0, y, z, h => by
    simp only [List.getElem?_cons_zero, Option.some.injEq] at h
    subst h
    simp only [List.set_cons_zero, cntT]
    omega
  | x :: l, i + 1, y, z, h => by
    simp only [List.getElem?_cons_succ] at h
    simp only [List.set_cons_succ, cntT, v26 l i y z h]
    omega
theorem v0k (p : tTxn.D → Bool) : ∀ (l : List tTxn.D) (i : Nat), atF p l i = -1 ∨ ∃ a : Nat, atF p l i = (a : Int) ∧ i ≤ a ∧ a < i + l.length
  | [], i => .inl rfl
  | y :: l, i => by
    simp only [atF]
    cases p y
    · rcases v0k p l (i + 1) with h | ⟨a, h, h1, h2⟩
      · exact .inl h
      · exact .inr ⟨a, h, by omega, by simp only [List.length_cons]; omega⟩
    · exact .inr ⟨i, rfl, Nat.le_refl _, by simp only [List.length_cons]; omega⟩
def vmj (e : tEngine.D) (c : Int) : Int := atF (fun x => x.1 == c) e.2 0
theorem vmm (e : tEngine.D) (c : Int) : vmj e c = -1 ∨ ∃ a : Nat, ∃ t, vmj e c = (a : Int) ∧ a < e.2.length ∧ e.2[a]? = some t ∧ rd (Ty.zero tTxn) e.2 (a : Int) = t := by
  rcases v0k (fun x => x.1 == c) e.2 0 with h | ⟨a, h, h1, h2⟩
  · exact .inl h
  · have hlt : a < e.2.length := by omega
    exact .inr ⟨a, e.2[a], h, hlt, List.getElem?_eq_getElem hlt, by simp [rd, List.getElem?_eq_getElem hlt]⟩
end
end Go.VE
/- Plain laws: a key that is written. -/
namespace Go.VE
noncomputable section
set_option linter.unusedVariables false
set_option linter.unusedSimpArgs false
set_option maxRecDepth 100000
/-! ### the program's PutWrite -/
theorem vy4 {u1 u2 : ByteArray} {u3 : Bool} {L : List tWrite.D} (hL : L.length ≤ 1048576) : ∀ (l : List tWrite.D) (i q : Nat), L.drop i = l → l.length < q → ∀ K,
    vae vlr q ((i : Int), u1, u2, u3, L) K = K (((i + (l.takeWhile fun y => vaf y.1 u1).length : Nat) : Int), u1, u2, u3, L)
  | l, i, 0, _, h => by omega
  | [], i, q + 1, hd, _ => fun K => by
    have hge := vbb hd
    simp only [vae, vlr, hge, decide_false, cond_false, Sum.elim_inr, List.takeWhile_nil, List.length_nil, Nat.add_zero]
  | y :: l, i, q + 1, hd, hq => fun K => by
    have hlt := vdx hd
    have hy : L.getD i (Ty.zero tWrite) = y := (vat hd).2 _
    have hw1 : IntKind.wrap .i64 ((i : Int) + 1) = ((i + 1 : Nat) : Int) := vhb (by omega)
    have ih := vy4 (u1 := u1) (u2 := u2) (u3 := u3) hL l (i + 1) q (vce hd) (by simpa using hq) K
    simp only [vae, vlr, vdc, show (i : Int) < (L.length : Int) by omega, show (0 : Int) ≤ (i : Int) by omega, and_self, if_true, decide_true, cond_true, Int.toNat_natCast, hy, hw1, List.takeWhile_cons]
    cases vaf y.1 u1
    · simp only [cond_false, Sum.elim_inr, Bool.false_eq_true, if_false, List.length_nil, Nat.add_zero]
    · simp only [cond_true, Sum.elim_inl, if_true, List.length_cons]
      rw [ih]
      congr 2
      omega
/-- Keys ascend. -/
def ascW (l : List tWrite.D) : Prop := l.Pairwise fun a b => vaf a.1 b.1 = true
theorem v60 {l : List tWrite.D} (h : ascW l) (u : ByteArray) : l.takeWhile (fun y => vaf y.1 u) = l.filter (fun y => vaf y.1 u) ∧
    l.dropWhile (fun y => vaf y.1 u) = l.filter (fun y => !vaf y.1 u) := by
  induction l with
  | nil => exact ⟨rfl, rfl⟩
  | cons y l ih =>
    obtain ⟨h1, h2⟩ := List.pairwise_cons.1 h
    obtain ⟨a, b⟩ := ih h2
    cases hy : vaf y.1 u with
    | true => simp [List.takeWhile_cons, List.dropWhile_cons, List.filter_cons, hy, a, b]
    | false =>
      have hall : ∀ z ∈ l, vaf z.1 u = false := fun z hz => by
        cases hz2 : vaf z.1 u with
        | false => rfl
        | true => rw [vh9 (h1 z hz) hz2] at hy; cases hy
      have e1 : l.filter (fun y => vaf y.1 u) = [] := List.filter_eq_nil_iff.2 fun z hz => by simp [hall z hz]
      have e2 : l.filter (fun y => !vaf y.1 u) = l := List.filter_eq_self.2 fun z hz => by simp [hall z hz]
      simp [List.takeWhile_cons, List.dropWhile_cons, List.filter_cons, hy, e1, e2]
theorem vr7 (x : ByteArray) : vaf x x = false := by
  cases h : vaf x x
  · rfl
  · have := vh9 h h
    rw [vdz] at h
    rw [Go.Proofs.bytesLess_eq, decide_eq_true_eq] at h
    exact absurd h (List.lt_irrefl _)
theorem wib {l : List tWrite.D} (hl : l.length ≤ 1048576) (ha : ascW l) (w : tWrite.D) (k) : vuu l w k = k (putB l w) := by
  rw [v9i]
  unfold v5b
  rw [if_pos (by show _ ≤ 4294967296; omega)]
  have hj := vy4 (u1 := w.1) (u2 := w.2.1) (u3 := w.2.2) hl l 0 Fuel rfl (vaz (by omega))
  have hz : ((0 : Nat) : Int) = 0 := rfl
  rw [hz] at hj
  rw [hj]
  obtain ⟨s1, s2⟩ := v60 ha w.1
  generalize hP : l.takeWhile (fun y => vaf y.1 w.1) = P at s1 s2
  generalize hD : l.dropWhile (fun y => vaf y.1 w.1) = D at s1 s2
  have hPD : l = P ++ D := by rw [← hP, ← hD]; exact (List.takeWhile_append_dropWhile).symm
  have hlen : l.length = P.length + D.length := by rw [hPD, List.length_append]
  simp only [Nat.zero_add]
  have hins : insL l (P.length : Int) [(w.1, (w.2.1, w.2.2))] = P ++ w :: D := by
    unfold insL
    rw [Int.toNat_natCast, hPD, List.take_left, List.drop_left, List.append_assoc, List.singleton_append]
  have hasc : D.Pairwise fun a b => vaf a.1 b.1 = true := by rw [s2]; exact List.Pairwise.filter _ ha
  cases hDD : D with
  | nil =>
    have e : ¬ ((P.length : Int) < (l.length : Int)) := by rw [hlen, hDD]; simp
    simp only [e, decide_false, cond_false]
    rw [v4i]
    unfold vuf
    rw [if_pos ⟨by omega, by omega, by simp, by simp; omega⟩, hins]
    unfold putB
    rw [← s1, hDD]
    have : (l.filter fun y => !(vaf y.1 w.1 || vas y.1 w.1)) = [] := by
      have h0 : l.filter (fun y => !vaf y.1 w.1) = [] := by rw [← s2, hDD]
      rw [List.filter_eq_nil_iff] at h0 ⊢
      intro z hz
      have := h0 z hz
      cases h1 : vaf z.1 w.1 with
      | true => simp
      | false => rw [h1] at this; exact absurd rfl this
    rw [this]
  | cons d D' =>
    have e : ((P.length : Int) < (l.length : Int)) := by rw [hlen, hDD]; simp; omega
    have hd0 : vaf d.1 w.1 = false := by
      have : d ∈ l.filter (fun y => !vaf y.1 w.1) := by rw [← s2, hDD]; simp
      simpa using (List.mem_filter.1 this).2
    have hget : l.getD P.length (Ty.zero tWrite) = d := by rw [hPD, hDD]; simp
    have hrest : ∀ z ∈ D', vaf d.1 z.1 = true := fun z hz => by rw [hDD] at hasc; exact (List.pairwise_cons.1 hasc).1 z hz
    have hf : (l.filter fun y => !(vaf y.1 w.1 || vas y.1 w.1)) = D.filter fun y => !vas y.1 w.1 := by
      rw [s2, List.filter_filter]
      congr 1
      funext y
      cases vaf y.1 w.1 <;> cases vas y.1 w.1 <;> rfl
    have hD'ne : vas d.1 w.1 = true ∨ vaf w.1 d.1 = true := by
      cases h1 : vas d.1 w.1 with
      | true => exact .inl rfl
      | false =>
        refine .inr ?_
        cases h2 : vaf w.1 d.1 with
        | true => rfl
        | false => rw [vzb hd0 h2, vb8] at h1; cases h1
    have hD'f : D'.filter (fun y => !vas y.1 w.1) = D' := List.filter_eq_self.2 fun z hz => by
      have hzd := hrest z hz
      cases h1 : vas z.1 w.1 with
      | false => rfl
      | true =>
        have hzw : z.1 = w.1 := vnp h1
        rw [hzw] at hzd
        rcases hD'ne with h2 | h2
        · rw [vnp h2, vr7] at hzd; cases hzd
        · have := vh9 hzd h2
          rw [vr7] at this; cases this
    simp only [e, decide_true, cond_true]
    rw [if_pos ⟨by omega, trivial⟩, Int.toNat_natCast, hget]
    unfold putB
    rw [← s1, hf, hDD, List.filter_cons]
    cases he : vas d.1 w.1 with
    | true =>
      simp only [cond_true, Bool.not_true, Bool.false_eq_true, if_false, hD'f]
      rw [if_pos ⟨by omega, trivial⟩, hPD, hDD]
      congr 1
      rw [List.set_append_right _ _ (Nat.le_refl _), Nat.sub_self, List.set_cons_zero]
    | false =>
      simp only [cond_false, Bool.not_false, if_true, hD'f]
      rw [v4i]
      unfold vuf
      rw [if_pos ⟨by omega, by omega, by simp, by simp; omega⟩, hins, hDD]
theorem vll : ∀ (l : List tWrite.D) (p : Option tWrite.D), vbv p l = true → ascW l ∧ (∀ x, p = some x → ∀ y ∈ l, vaf x.1 y.1 = true) ∧ ∀ y ∈ l, vbc y = true
  | [], p, _ => ⟨List.Pairwise.nil, (fun _ _ y hy => by simp at hy), (fun y hy => by simp at hy)⟩
  | y :: l, p, h => by
    simp only [vbv, Bool.and_eq_true] at h
    obtain ⟨⟨h1, h2⟩, h3⟩ := h
    obtain ⟨a, b, c⟩ := vll l (some y) h3
    refine ⟨List.pairwise_cons.2 ⟨b y rfl, a⟩, fun x hx z hz => ?_, fun z hz => ?_⟩
    · subst hx
      rcases List.mem_cons.1 hz with e | e
      · rw [e]; exact h2
      · exact vh9 h2 (b y rfl z e)
    · rcases List.mem_cons.1 hz with e | e
      · rw [e]; exact h1
      · exact c z e
theorem v0f {t : tTxn.D} (h : vec t = true) : vbw t.2.2.2.2.2.1 = true := by
  unfold vec at h
  simp only [Bool.and_eq_true] at h
  exact h.1.1.1.1.1.1.2
theorem v52 {t : tTxn.D} (h : vec t = true) (W : List tWrite.D) : vec (t.1, (t.2.1, (t.2.2.1, (t.2.2.2.1, (t.2.2.2.2.1, (W, (t.2.2.2.2.2.2.1, t.2.2.2.2.2.2.2))))))) = vbw W := by
  unfold vec at h ⊢
  simp only [Bool.and_eq_true] at h
  obtain ⟨⟨⟨⟨⟨⟨⟨⟨⟨⟨a1, a2⟩, a3⟩, a4⟩, a5⟩, a6⟩, a7⟩, a8⟩, a9⟩, a10⟩, a11⟩ := h
  simp only [a1, a2, a3, a4, a6, a7, a8, a9, a10, a11, Bool.true_and, Bool.and_true]
theorem we8 {l : List tWrite.D} {w y : tWrite.D} (h : y ∈ putB l w) : y ∈ l ∨ y = w := by
  unfold putB at h
  rcases List.mem_append.1 h with h | h
  · exact .inl (List.mem_filter.1 h).1
  · rcases List.mem_cons.1 h with h | h
    · exact .inr h
    · exact .inl (List.mem_filter.1 h).1
theorem vma (l : List tWrite.D) (w : tWrite.D) : (putB l w).length ≤ l.length + 1 := by
  unfold putB
  have h1 : l.length = (l.filter fun y => vaf y.1 w.1).length + (l.filter fun y => !vaf y.1 w.1).length := by
    induction l with
    | nil => rfl
    | cons y l ih => cases h : vaf y.1 w.1 <;> simp [List.filter_cons, h] <;> omega
  have h2 : (l.filter fun y => !(vaf y.1 w.1 || vas y.1 w.1)).length ≤ (l.filter fun y => !vaf y.1 w.1).length := by
    have : (l.filter fun y => !(vaf y.1 w.1 || vas y.1 w.1)) = (l.filter fun y => !vaf y.1 w.1).filter fun y => !vas y.1 w.1 := by
      rw [List.filter_filter]
      congr 1
      funext y
      cases vaf y.1 w.1 <;> cases vas y.1 w.1 <;> rfl
    rw [this]
    exact List.length_filter_le _ _
  rw [List.length_append, List.length_cons]
  omega
theorem vwc {y : tWrite.D} (h : vbc y = true) : y.1.size ≤ 3 ∧ y.2.1.size ≤ 12 := by
  unfold vbc at h
  simp only [Bool.and_eq_true, decide_eq_true_eq] at h
  exact ⟨by have := vhj h.1.1; omega, by omega⟩
/-- What WriteKey leaves: whether it did, and the writes. -/
def vbd (t : tTxn.D) (w : tWrite.D) : Bool × List tWrite.D :=
  bif !vec t then (false, t.2.2.2.2.2.1) else bif t.2.1 != 1 then (false, t.2.2.2.2.2.1) else bif !vbc w then (false, t.2.2.2.2.2.1) else
  bif !vbw (putB t.2.2.2.2.2.1 w) then (false, t.2.2.2.2.2.1) else (true, putB t.2.2.2.2.2.1 w)
theorem wia {t : tTxn.D} (h : vec t = true) {w : tWrite.D} (hw : vbc w = true) : okW 65 (putB t.2.2.2.2.2.1 w) := by
  have hs := vly h
  refine ⟨by have := vma t.2.2.2.2.2.1 w; have := hs.2.2.2.2.2.2.1; omega, fun y hy => ?_⟩
  rcases we8 hy with hy | rfl
  · have := hs.2.2.2.2.2.2.2.1 y hy; omega
  · have := vwc hw; omega
theorem whd {t : tTxn.D} (h : vec t = true) {w : tWrite.D} (hw : vbc w = true) : (Ty.slice tWrite).wt (putB t.2.2.2.2.2.1 w) ≤ 1048576 ∧
    tTxn.wt (t.1, (t.2.1, (t.2.2.1, (t.2.2.2.1, (t.2.2.2.2.1, (putB t.2.2.2.2.2.1 w, (t.2.2.2.2.2.2.1, t.2.2.2.2.2.2.2))))))) ≤ 1048576 := by
  have hk := wia h hw
  have hs := vly h
  have h2 := v9d (T := tWrite) (c := 40) (l := putB t.2.2.2.2.2.1 w) (fun y hy => by have := hk.2 y hy; rw [vwr]; omega)
  have h1 := v9d (T := tRange) (c := 40) (l := t.2.2.2.2.1) (fun y hy => by have := hs.2.2.2.2.2.1 y hy; rw [vws]; omega)
  have e := vwn (t.1, (t.2.1, (t.2.2.1, (t.2.2.2.1, (t.2.2.2.2.1, (putB t.2.2.2.2.2.1 w, (t.2.2.2.2.2.2.1, t.2.2.2.2.2.2.2)))))))
  have hl := hk.1
  have hr := hs.2.2.2.2.1
  have hn := hs.2.2.2.2.2.2.2.2
  rw [Ty.wt_slice, Ty.wt_slice] at e
  dsimp only at e
  constructor
  · rw [Ty.wt_slice]; omega
  · rw [e]; omega
theorem wiv {t : tTxn.D} (ht : tTxn.wt t ≤ 1048576) {w : tWrite.D} (hw : tWrite.wt w ≤ 1048576) (k) : vt4 t w k = k (t.1, t.2.1, t.2.2.1, t.2.2.2.1, t.2.2.2.2.2.2.1, t.2.2.2.2.2.2.2, (vbd t w).1, t.2.2.2.2.1, (vbd t w).2) := by
  have hl := vpn ht
  rw [wka]
  unfold wat vbd
  simp only [v08 hl.1 hl.2, wh7 ht, v2b hw]
  cases hok : vec t
  · rfl
  · simp only [Bool.not_true, cond_false]
    cases t.2.1 != 1
    · cases hwo : vbc w
      · rfl
      · simp only [Bool.not_true, cond_false]
        unfold vd9
        simp only [wiu hl.2, vnf, v8g (whd hok hwo).1, v08 hl.1 hl.2]
        cases vbw (putB t.2.2.2.2.2.1 w) <;> rfl
    · rfl
theorem wh9 {t : tTxn.D} (ht : tTxn.wt t ≤ 1048576) {w : tWrite.D} (hw : tWrite.wt w ≤ 1048576) (k) : vuj t w k = k (t.1, t.2.1, t.2.2.1, t.2.2.2.1, t.2.2.2.2.2.2.1, t.2.2.2.2.2.2.2, (vbd t w).1, t.2.2.2.2.1, (vbd t w).2) := by
  have hl := vpn ht
  rw [wkh]
  unfold wai vbd
  simp only [v10 hl.1 hl.2, v8v ht, v1b hw]
  cases hok : vec t
  · rfl
  · simp only [Bool.not_true, cond_false]
    cases t.2.1 != 1
    · cases hwo : vbc w
      · rfl
      · simp only [Bool.not_true, cond_false]
        have hwr := v0f hok
        unfold vbw at hwr
        rw [Bool.and_eq_true] at hwr
        have ha := (vll _ _ hwr.1).1
        have hsw := v52 hok (putB t.2.2.2.2.2.1 w)
        have hT := fun k => v8v (whd hok hwo).2 k
        unfold vd3
        simp only [wib hl.2 ha, vnf, hT, hsw, v10 hl.1 hl.2]
        cases vbw (putB t.2.2.2.2.2.1 w) <;> rfl
    · rfl
theorem v1v (t : tTxn.D) (w : tWrite.D) : (vbd t w).2.length ≤ t.2.2.2.2.2.1.length + 1 := by
  have := vma t.2.2.2.2.2.1 w
  unfold vbd
  simp only [cond_eq_ite]
  repeat' split
  all_goals first | exact this | exact Nat.le_succ _
theorem v0i {t : tTxn.D} (ht : tTxn.wt t ≤ 1048576) (w : tWrite.D) : (vbd t w).2.length ≤ 1048576 := by
  have hl := (vpn ht).2
  unfold vbd
  cases hok : vec t
  · exact hl
  · have h8 := (vly hok).2.2.2.2.2.2.1
    have := vma t.2.2.2.2.2.1 w
    simp only [cond_eq_ite]
    repeat' split
    all_goals first | exact hl | (show (putB _ _).length ≤ _; omega)
/-- A transaction with other writes. -/
def wek (t : tTxn.D) (w : List tWrite.D) : tTxn.D := (t.1, (t.2.1, (t.2.2.1, (t.2.2.2.1, (t.2.2.2.2.1, (w, (t.2.2.2.2.2.2.1, t.2.2.2.2.2.2.2)))))))
def vbs (e : tEngine.D) (c : Int) (w : tWrite.D) : Int × List tTxn.D :=
  if vmj e c < 0 then (1, e.2) else
  bif !(vbc w) then (2, e.2) else
  bif !((vbd (rd (Ty.zero tTxn) e.2 (vmj e c)) w).1) then (3, e.2) else
    (0, e.2.set (vmj e c).toNat (wek (rd (Ty.zero tTxn) e.2 (vmj e c)) (vbd (rd (Ty.zero tTxn) e.2 (vmj e c)) w).2))
theorem wh3 {e : tEngine.D} (h : tEngine.wt e ≤ 1048576) (c : Int) {w : tWrite.D} (hk : tWrite.wt w ≤ 1048576) (k) :
    vvz e c w k = k (e.1.2.2.2.1, e.1.2.2.2.2, (vbs e c w).1, e.1.1, e.1.2.1, e.1.2.2.1, (vbs e c w).2) := by
  have hE := vfc e
  have ho := v3a h
  rw [wan]
  unfold v48 vbs
  simp only [wir ho, wid e c ho.2.2, v2b hk, show atF (fun x : tTxn.D => x.1 == c) e.2 0 = vmj e c from rfl]
  rcases vmm e c with hp | ⟨a, t, hp, hlt, ht, hr⟩
  · simp only [hp, show ((-1 : Int) < 0) by decide, decide_true, cond_true, if_true]
  have hn : ¬ vmj e c < 0 := by rw [hp]; omega
  simp only [hn, decide_false, cond_false, if_false]
  cases hko : vbc w with
  | false => simp only [Bool.not_false, cond_true]
  | true =>
    have htw : tTxn.wt t ≤ 1048576 := vb0 (T := tTxn) (List.mem_of_getElem? ht) (by omega)
    have hi : (0 ≤ vmj e c ∧ vmj e c < (e.2.length : Int)) := by rw [hp]; omega
    simp only [Bool.not_true, cond_false]
    rw [if_pos hi]
    rw [hp, hr, wiv htw hk]
    cases hrr : (vbd t w).1 with
    | false => simp only [Bool.not_false, cond_true]
    | true =>
      simp only [Bool.not_true, cond_false]
      rw [if_pos (by rw [← hp]; exact hi)]
      rfl
theorem wh4 {e : tEngine.D} (h : tEngine.wt e ≤ 1048576) (c : Int) {w : tWrite.D} (hk : tWrite.wt w ≤ 1048576) (k) :
    vop e c w k = k (e.1.2.2.2.1, e.1.2.2.2.2, (vbs e c w).1, e.1.1, e.1.2.1, e.1.2.2.1, (vbs e c w).2) := by
  have hE := vfc e
  have ho := v3a h
  rw [wb1]
  unfold v2w vbs
  simp only [wif ho, whu e c ho.2.2, v1b hk, show atF (fun x : tTxn.D => x.1 == c) e.2 0 = vmj e c from rfl]
  rcases vmm e c with hp | ⟨a, t, hp, hlt, ht, hr⟩
  · simp only [hp, show ((-1 : Int) < 0) by decide, decide_true, cond_true, if_true]
  have hn : ¬ vmj e c < 0 := by rw [hp]; omega
  simp only [hn, decide_false, cond_false, if_false]
  cases hko : vbc w with
  | false => simp only [Bool.not_false, cond_true]
  | true =>
    have htw : tTxn.wt t ≤ 1048576 := vb0 (T := tTxn) (List.mem_of_getElem? ht) (by omega)
    have hi : (0 ≤ vmj e c ∧ vmj e c < (e.2.length : Int)) := by rw [hp]; omega
    simp only [Bool.not_true, cond_false]
    rw [if_pos hi]
    rw [hp, hr, wh9 htw hk]
    cases hrr : (vbd t w).1 with
    | false => simp only [Bool.not_false, cond_true]
    | true =>
      simp only [Bool.not_true, cond_false]
      rw [if_pos (by rw [← hp]; exact hi)]
      rfl
/-- The engine that a written key leaves. -/
theorem v8h {e : tEngine.D} (h : tEngine.wt e ≤ 1048576) (c : Int) (w : tWrite.D) :
    OkE (e.1, (vbs e c w).2) ∧ cntE (e.1, (vbs e c w).2) ≤ cntE e + 3 := by
  have hE := vfc e
  have ho := v3a h
  unfold vbs
  simp only [cond_eq_ite]
  repeat' split
  · exact ⟨ho, show cntE e ≤ cntE e + 3 by omega⟩
  · exact ⟨ho, show cntE e ≤ cntE e + 3 by omega⟩
  · exact ⟨ho, show cntE e ≤ cntE e + 3 by omega⟩
  · rcases vmm e c with hp | ⟨a, t, hp, hlt, ht, hr⟩
    · omega
    rw [hp, hr]
    have htw : tTxn.wt t ≤ 1048576 := vb0 (T := tTxn) (List.mem_of_getElem? ht) (by omega)
    have hl := vpn htw
    refine ⟨⟨ho.1, wdw (y := wek t (vbd t w).2) ho.2 ⟨hl.1, v0i htw w⟩ (a : Int).toNat⟩, ?_⟩
    have hs := v26 e.2 a (wek t (vbd t w).2) t ht
    have hr1 := v1v t w
    have h1 : vju (wek t (vbd t w).2) = 6 + 2 * (t.2.2.2.2.1.length : Int) + 3 * ((vbd t w).2.length : Int) := rfl
    have h2 : vju t = 6 + 2 * (t.2.2.2.2.1.length : Int) + 3 * (t.2.2.2.2.2.1.length : Int) := rfl
    show cntB e.1 + cntT (e.2.set (a : Int).toNat _) ≤ cntB e.1 + cntT e.2 + 3
    rw [Int.toNat_natCast, hs]
    omega
end
end Go.VE
/- The plain laws. -/
namespace Go.VE
set_option linter.unusedVariables false
set_option linter.unusedSimpArgs false
set_option maxRecDepth 100000
theorem vnr (x : tEngine.D) (c : Int) (z : tWrite.D) (hx : tEngine.wf x) (hc : (Ty.int .i64).wf c) (hz : tWrite.wf z) (k : Bool → Option Res) : vz8 x c z k = k true := by
  rw [wi6]
  unfold waa
  obtain ⟨r0, q0, p0⟩ := v12 hx (a := 1048576) (by omega) (by omega)
  rw [q0]
  rcases p0 with p0 | ⟨p0, e0⟩
  · simp [p0]
  have c0 : ¬ r0 < 0 := by omega
  simp only [c0, decide_false, cond_false]
  obtain ⟨r1, q1, p1⟩ := vt1 hz (a := r0) p0 (by omega)
  rw [q1]
  rcases p1 with p1 | ⟨p1, e1⟩
  · simp [p1]
  have c1 : ¬ r1 < 0 := by omega
  simp only [c1, decide_false, cond_false]
  have wx : tEngine.wt x ≤ 1048576 := by omega
  have wz : tWrite.wt z ≤ 1048576 := by omega
  obtain ⟨hok, hcnt⟩ := v8h wx c z
  have hcx := wim x
  have hpx := v4w x
  have hpe := v4w (x.1, (vbs x c z).2)
  have hE := fun k => v07 hok k
  have hM0 := fun a0 a1 k => vm5 (v3a wx) (c := 1) (by omega) (by omega) a0 a1 k
  have hM1 : ∀ a0 a1 k, vmn a0 a1 1 x.1.1 x.1.2.1 x.1.2.2.1 (vbs x c z).2 k = k (1 + cntE (x.1, (vbs x c z).2), (vii 1 (x.1, (vbs x c z).2)).1.1, (vii 1 (x.1, (vbs x c z).2)).1.2.1, (vii 1 (x.1, (vbs x c z).2)).1.2.2.1, (vii 1 (x.1, (vbs x c z).2)).2) :=
    fun a0 a1 k => vm5 hok (c := 1) (by omega) (by omega) a0 a1 k
  have hH : ∀ z1 z2 k, vnj (((vii 1 (x.1, (vbs x c z).2)).1.1, ((vii 1 (x.1, (vbs x c z).2)).1.2.1, ((vii 1 (x.1, (vbs x c z).2)).1.2.2.1, (z1, z2)))), (vii 1 (x.1, (vbs x c z).2)).2) 1 k = k (1 + cntE (x.1, (vbs x c z).2)) :=
    fun z1 z2 k => vxw hok (c := 1) (by omega) (by omega) (z1, z2) k
  have n0 : decide (1 + cntE x < 0) = false := decide_eq_false (by omega)
  have n1 : decide (1 + cntE (x.1, (vbs x c z).2) < 0) = false := decide_eq_false (by omega)
  simp only [v5y wx, vtr, wh3 wx c wz, wh4 wx c wz, vnf, hE, v57 wx, beq_self_eq_true, bne_self_eq_false, Bool.not_true, Bool.not_false, cond_true, cond_false, vea, hM0, n0, vd5, hM1, hH, n1, vd6, Sum.elim_inl, Sum.elim_inr]
end Go.VE
