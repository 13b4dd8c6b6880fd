/- The plain laws behind FnExactScanKeys. -/
import Derived.Test.YteolgjmeigifbaaGreatScanKeysL
import Derived.Test.YteolgjmeigifbaaGreatU28
/- Plain laws: keys, ranges, writes, transactions, who is ahead of whom. -/
namespace Go.VE
noncomputable section
set_option linter.unusedVariables false
set_option linter.unusedSimpArgs false
set_option maxRecDepth 100000
def vca (n lo hi : Int) : Bool := decide (n ≥ lo) && decide (n ≤ hi)
theorem weq (a b c) (k) : vf2 a b c k = k (vca a b c) := by
  rw [whj]; unfold v7x vca; cases decide (a ≥ b) <;> rfl
theorem v4r (a b c) (k) : vf3 a b c k = k (vca a b c) := by
  rw [wdd]; unfold v7l vca; cases decide (a ≥ b) <;> rfl
def vcj (r : tRange.D) (key : ByteArray) : Bool := !(vaj key r.1) && (vaj key r.2 || vas key r.2)
theorem wp6 (r : tRange.D) (key) (k) : vxb r key k = k (vcj r key) := by
  rw [wfg]; unfold v6n vcj; cases vaj key r.1 <;> rfl
theorem wo7 (r : tRange.D) (key) (k) : vwk r key k = k (vcj r key) := by
  rw [wgx]; unfold v8e vcj; cases vaj key r.1 <;> rfl
def vd0 (s : ByteArray) : Bool := !((vb6 s).any fun y => decide (y < 97) || decide (y > 122)) && vca s.size 1 3
theorem vwd {u0} {u1} : ∀ l i, ∃ j : Int, ∀ k, vjp u0 u1 l i k = k (bif l.any (fun y => decide (y < 97) || decide (y > 122)) then .inl (false, j) else .inr j)
  | [], i => ⟨_, fun k => rfl⟩
  | y :: l, i => by
    obtain ⟨j, hj⟩ := vwd (u0 := u0) (u1 := u1) l (i + 1)
    simp only [vjp, hj, List.any_cons]
    cases hp : (decide (y < 97) || decide (y > 122))
    · exact ⟨j, fun k => by (try simp only [Bool.false_or]) <;> (try (revert hp; cases decide (y < 97) <;> cases decide (y > 122) <;> simp))⟩
    · exact ⟨(i : Int), fun k => by (try simp only [Bool.true_or, cond_true]) <;> (try (revert hp; cases decide (y < 97) <;> cases decide (y > 122) <;> simp))⟩
theorem v0j {s : ByteArray} (hs : s.size ≤ 1048576) (k) : vmo s k = k (vd0 s) := by
  rw [wqi (by omega)]
  unfold we4 vd0
  obtain ⟨j, hj⟩ := vwd (u0 := s) (u1 := false) (vb6 s) 0
  rw [hj]
  cases ((vb6 s).any fun y => decide (y < 97) || decide (y > 122))
  · simp [weq]
  · rfl
theorem vyu {u0} {u1} : ∀ l i, ∃ j : Int, ∀ k, vjg u0 u1 l i k = k (bif l.any (fun y => decide (y < 97) || decide (y > 122)) then .inl (false, j) else .inr j)
  | [], i => ⟨_, fun k => rfl⟩
  | y :: l, i => by
    obtain ⟨j, hj⟩ := vyu (u0 := u0) (u1 := u1) l (i + 1)
    simp only [vjg, hj, List.any_cons]
    cases hp : (decide (y < 97) || decide (y > 122))
    · exact ⟨j, fun k => by (try simp only [Bool.false_or]) <;> (try (revert hp; cases decide (y < 97) <;> cases decide (y > 122) <;> simp))⟩
    · exact ⟨(i : Int), fun k => by (try simp only [Bool.true_or, cond_true]) <;> (try (revert hp; cases decide (y < 97) <;> cases decide (y > 122) <;> simp))⟩
theorem vyv {s : ByteArray} (hs : s.size ≤ 1048576) (k) : vmp s k = k (vd0 s) := by
  rw [wtn (by omega)]
  unfold wc1 vd0
  obtain ⟨j, hj⟩ := vyu (u0 := s) (u1 := false) (vb6 s) 0
  rw [hj]
  cases ((vb6 s).any fun y => decide (y < 97) || decide (y > 122))
  · simp [v4r]
  · rfl
def vbc (r : tRange.D) : Bool := vd0 r.1 && vd0 r.2 && (vaj r.1 r.2 || vas r.1 r.2)
def vdg (w : tWrite.D) : Bool := vd0 w.1 && decide ((w.2.1.size : Int) ≤ 12) && (!w.2.2 || vas w.2.1 ⟨#[]⟩)
/-- Behind one that stood before: all right, keys ascending. -/
def vcf : Option tWrite.D → List tWrite.D → Bool
  | _, [] => true
  | p, y :: l => vdg y && (match p with | none => true | some x => vaj x.1 y.1) && vcf (some y) l
def veo (l : List tWrite.D) : Bool := vcf none l && decide ((l.length : Int) ≤ 8)
theorem v5d {r : tRange.D} (hr : tRange.wt r ≤ 1048576) (k) : vou r k = k (vbc r) := by
  rw [v0f] at hr
  rw [we8]
  unfold v7b vbc
  simp only [v0j (show r.1.size ≤ 1048576 by omega), v0j (show r.2.size ≤ 1048576 by omega)]
  cases vd0 r.1 <;> cases vd0 r.2 <;> simp
theorem wpb {r : tWrite.D} (hr : tWrite.wt r ≤ 1048576) (k) : vwb r k = k (vdg r) := by
  rw [vzp] at hr
  rw [whk]
  unfold v7i vdg
  simp only [v0j (show r.1.size ≤ 1048576 by omega)]
  cases vd0 r.1 <;> cases decide ((r.2.1.size : Int) ≤ 12) <;> cases r.2.2 <;> simp
theorem vvz {u0 : List tWrite.D} (hu : ∀ y ∈ u0, tWrite.wt y ≤ 1048576) (hl : u0.length ≤ 1048576) {u1 u2} : ∀ (l : List tWrite.D) (i : Nat), u0.drop i = l → ∃ j : Int, ∀ k,
    vif u0 u1 u2 l i k = k (bif vcf (if i = 0 then none else some (u0.getD (i - 1) (Ty.zero tWrite))) l then .inr j else .inl (false, j))
  | [], i, _ => ⟨_, fun k => rfl⟩
  | y :: l, i, h => by
    obtain ⟨j, hj⟩ := vvz hu hl (u1 := u1) (u2 := u2) l (i + 1) (vap h)
    have hlt := vbu h
    have hy := (van h).2 (Ty.zero tWrite)
    rw [if_neg (by omega), show i + 1 - 1 = i by omega, hy] at hj
    simp only [vif, wpb (hu y (vd4 h)), hj, vcf]
    by_cases hi : i = 0
    · subst hi
      simp only [if_pos, show ¬ ((0 : Nat) : Int) > 0 by omega, decide_false, cond_false, Bool.and_true]
      cases vdg y
      · exact ⟨((0 : Nat) : Int), fun k => by simp⟩
      · exact ⟨j, fun k => by simp⟩
    · have hw : IntKind.wrap .i64 ((i : Int) - 1) = ((i - 1 : Nat) : Int) := by rw [vba (by omega) (by omega)]; omega
      have hrd : rd (Ty.zero (.pair .str (.pair .str .bool))) u0 ((i - 1 : Nat) : Int) = u0.getD (i - 1) (Ty.zero tWrite) := rfl
      simp only [if_neg hi, show (i : Int) > 0 by omega, decide_true, cond_true, hw, hrd, if_pos (show 0 ≤ ((i - 1 : Nat) : Int) ∧ ((i - 1 : Nat) : Int) < (u0.length : Int) by omega)]
      cases vdg y
      · exact ⟨(i : Int), fun k => by simp⟩
      · cases vaj (u0.getD (i - 1) (Ty.zero tWrite)).1 y.1
        · exact ⟨(i : Int), fun k => by simp⟩
        · exact ⟨j, fun k => by simp⟩
theorem wp1 {x : List tWrite.D} (hx : (Ty.slice tWrite).wt x ≤ 1048576) (k) : vsr x k = k (veo x) := by
  have hl := vb8 hx
  rw [wrl (by omega)]
  unfold wff veo
  obtain ⟨j, hj⟩ := vvz (u0 := x) (fun y hy => vbz hy hx) hl (u1 := false) (u2 := x) x 0 rfl
  rw [hj]
  simp only [if_true]
  cases vcf none x <;> rfl
theorem v5m {r : tRange.D} (hr : tRange.wt r ≤ 1048576) (k) : vol r k = k (vbc r) := by
  rw [v0f] at hr
  rw [wf3]
  unfold v7n vbc
  simp only [vyv (show r.1.size ≤ 1048576 by omega), vyv (show r.2.size ≤ 1048576 by omega)]
  cases vd0 r.1 <;> cases vd0 r.2 <;> simp
theorem wo1 {r : tWrite.D} (hr : tWrite.wt r ≤ 1048576) (k) : vw7 r k = k (vdg r) := by
  rw [vzp] at hr
  rw [wcm]
  unfold v68 vdg
  simp only [vyv (show r.1.size ≤ 1048576 by omega)]
  cases vd0 r.1 <;> cases decide ((r.2.1.size : Int) ≤ 12) <;> cases r.2.2 <;> simp
theorem vv8 {u0 : List tWrite.D} (hu : ∀ y ∈ u0, tWrite.wt y ≤ 1048576) (hl : u0.length ≤ 1048576) {u1} : ∀ (l : List tWrite.D) (i : Nat), u0.drop i = l → ∃ j : Int, ∀ k,
    vh1 u0 u1 l i k = k (bif vcf (if i = 0 then none else some (u0.getD (i - 1) (Ty.zero tWrite))) l then .inr j else .inl (false, j))
  | [], i, _ => ⟨_, fun k => rfl⟩
  | y :: l, i, h => by
    obtain ⟨j, hj⟩ := vv8 hu hl (u1 := u1) l (i + 1) (vap h)
    have hlt := vbu h
    have hy := (van h).2 (Ty.zero tWrite)
    rw [if_neg (by omega), show i + 1 - 1 = i by omega, hy] at hj
    simp only [vh1, wo1 (hu y (vd4 h)), hj, vcf]
    by_cases hi : i = 0
    · subst hi
      simp only [if_pos, show ¬ ((0 : Nat) : Int) > 0 by omega, decide_false, cond_false, Bool.and_true]
      cases vdg y
      · exact ⟨((0 : Nat) : Int), fun k => by simp⟩
      · exact ⟨j, fun k => by simp⟩
    · have hw : IntKind.wrap .i64 ((i : Int) - 1) = ((i - 1 : Nat) : Int) := by rw [vba (by omega) (by omega)]; omega
      have hrd : rd (Ty.zero (.pair .str (.pair .str .bool))) u0 ((i - 1 : Nat) : Int) = u0.getD (i - 1) (Ty.zero tWrite) := rfl
      simp only [if_neg hi, show (i : Int) > 0 by omega, decide_true, cond_true, hw, hrd, if_pos (show 0 ≤ ((i - 1 : Nat) : Int) ∧ ((i - 1 : Nat) : Int) < (u0.length : Int) by omega)]
      cases vdg y
      · exact ⟨(i : Int), fun k => by simp⟩
      · cases vaj (u0.getD (i - 1) (Ty.zero tWrite)).1 y.1
        · exact ⟨(i : Int), fun k => by simp⟩
        · exact ⟨j, fun k => by simp⟩
theorem wpw {x : List tWrite.D} (hx : (Ty.slice tWrite).wt x ≤ 1048576) (k) : vta x k = k (veo x) := by
  have hl := vb8 hx
  rw [wqn (by omega)]
  unfold wgk veo
  obtain ⟨j, hj⟩ := vv8 (u0 := x) (fun y hy => vbz hy hx) hl (u1 := false) x 0 rfl
  rw [hj]
  simp only [if_true]
  cases vcf none x <;> rfl
def vk9 (t : tTxn.D) : Bool :=
  vca t.1 1 9999 && vca t.2.1 1 3 && vca t.2.2.1 0 9999 && !decide ((t.2.2.2.2.1.length : Int) > 8) && veo t.2.2.2.2.2.1 && !(t.2.2.2.2.1.any fun r => !vbc r) &&
  !((t.2.1 == 3) && !vca t.2.2.2.1 (IntKind.wrap .i64 (t.2.2.1 + 1)) 9999) && !((t.2.1 != 3) && (t.2.2.2.1 != 0)) &&
  !((t.2.1 == 2) && !vd0 t.2.2.2.2.2.2.2) && !((t.2.1 != 2) && !vas t.2.2.2.2.2.2.2 ⟨#[]⟩) && ((t.2.1 != 1) || !t.2.2.2.2.2.2.1)
theorem vv9 {u0} {u1} {u4} {u5} {u6} {u7} {u8} {u9} {u10} {u11} : ∀ (l : List tRange.D) (i : Nat), (∀ y ∈ l, tRange.wt y ≤ 1048576) → ∃ j : Int, ∀ k, vkn u0 u1 u4 u5 u6 u7 u8 u9 u10 u11 l i k = k (bif l.any (fun r => !vbc r) then .inl (false, j) else .inr j)
  | [], i, _ => ⟨_, fun k => rfl⟩
  | y :: l, i, h => by
    obtain ⟨j, hj⟩ := vv9 (u0 := u0) (u1 := u1) (u4 := u4) (u5 := u5) (u6 := u6) (u7 := u7) (u8 := u8) (u9 := u9) (u10 := u10) (u11 := u11) l (i + 1) (fun y hy => h y (by simp [hy]))
    simp only [vkn, v5d (h y (by simp)), hj, List.any_cons]
    cases vbc y
    · exact ⟨(i : Int), fun k => by simp⟩
    · exact ⟨j, fun k => by simp⟩
theorem vx2 {u0} {u2} {u3} {u4} {u5} {u6} {u7} {u8} {u9} : ∀ (l : List tRange.D) (i : Nat), (∀ y ∈ l, tRange.wt y ≤ 1048576) → ∃ j : Int, ∀ k, vj9 u0 u2 u3 u4 u5 u6 u7 u8 u9 l i k = k (bif l.any (fun r => !vbc r) then .inl (false, j) else .inr j)
  | [], i, _ => ⟨_, fun k => rfl⟩
  | y :: l, i, h => by
    obtain ⟨j, hj⟩ := vx2 (u0 := u0) (u2 := u2) (u3 := u3) (u4 := u4) (u5 := u5) (u6 := u6) (u7 := u7) (u8 := u8) (u9 := u9) l (i + 1) (fun y hy => h y (by simp [hy]))
    simp only [vj9, v5m (h y (by simp)), hj, List.any_cons]
    cases vbc y
    · exact ⟨(i : Int), fun k => by simp⟩
    · exact ⟨j, fun k => by simp⟩
theorem wpe {t : tTxn.D} (ht : tTxn.wt t ≤ 1048576) (k) : vtt t k = k (vk9 t) := by
  rw [vuc] at ht
  have h1 := vb8 (T := tRange) (xs := t.2.2.2.2.1) (n := 1048576) (by omega)
  have h2 := vb8 (T := tWrite) (xs := t.2.2.2.2.2.1) (n := 1048576) (by omega)
  rw [wqa (by omega)]
  unfold wgz vk9
  simp only [v4r, wpw (show (Ty.slice tWrite).wt t.2.2.2.2.2.1 ≤ 1048576 by omega)]
  obtain ⟨j, hj⟩ := vx2 (u0 := false) (u2 := t.1) (u3 := t.2.1) (u4 := t.2.2.1) (u5 := t.2.2.2.1) (u6 := t.2.2.2.2.1) (u7 := t.2.2.2.2.2.1) (u8 := t.2.2.2.2.2.2.1) (u9 := t.2.2.2.2.2.2.2) t.2.2.2.2.1 0 (fun y hy => vbz hy (by omega))
  simp only [vd9, vb5, vb2, hj, v4r, vyv (show t.2.2.2.2.2.2.2.size ≤ 1048576 by omega)]
  cases vca t.1 1 9999 <;> simp only [Bool.not_true, Bool.not_false, cond_true, cond_false, Bool.true_and, Bool.false_and]
  cases vca t.2.1 1 3 <;> simp only [Bool.not_true, Bool.not_false, cond_true, cond_false, Bool.true_and, Bool.false_and]
  cases vca t.2.2.1 0 9999 <;> simp only [Bool.not_true, Bool.not_false, cond_true, cond_false, Bool.true_and, Bool.false_and]
  cases decide ((t.2.2.2.2.1.length : Int) > 8) <;> simp only [Bool.not_true, Bool.not_false, cond_true, cond_false, Bool.true_and, Bool.false_and]
  cases veo t.2.2.2.2.2.1 <;> simp only [Bool.not_true, Bool.not_false, cond_true, cond_false, Bool.true_and, Bool.false_and]
  cases (t.2.2.2.2.1.any fun r => !vbc r) <;> simp only [Bool.not_true, Bool.not_false, cond_true, cond_false, Bool.true_and, Bool.false_and, Sum.elim_inl, Sum.elim_inr]
  simp only [bne]
  cases t.2.1 == 3 <;> cases t.2.1 == 2 <;> cases t.2.1 == 1 <;> cases vca t.2.2.2.1 (IntKind.wrap .i64 (t.2.2.1 + 1)) 9999 <;> cases t.2.2.2.1 == 0 <;> cases vd0 t.2.2.2.2.2.2.2 <;> cases vas t.2.2.2.2.2.2.2 ⟨#[]⟩ <;> cases t.2.2.2.2.2.2.1 <;> rfl
theorem wpi {t : tTxn.D} (ht : tTxn.wt t ≤ 1048576) (k) : vrj t k = k (vk9 t) := by
  rw [vuc] at ht
  have h1 := vb8 (T := tRange) (xs := t.2.2.2.2.1) (n := 1048576) (by omega)
  have h2 := vb8 (T := tWrite) (xs := t.2.2.2.2.2.1) (n := 1048576) (by omega)
  rw [wtl (by omega)]
  unfold wc5 vk9
  obtain ⟨j, hj⟩ := vv9 (u0 := false) (u1 := t.2.2.2.2.1) (u4 := t.1) (u5 := t.2.1) (u6 := t.2.2.1) (u7 := t.2.2.2.1) (u8 := t.2.2.2.2.1) (u9 := t.2.2.2.2.2.1) (u10 := t.2.2.2.2.2.2.1) (u11 := t.2.2.2.2.2.2.2) t.2.2.2.2.1 0 (fun y hy => vbz hy (by omega))
  simp only [hj, weq, wp1 (show (Ty.slice tWrite).wt t.2.2.2.2.2.1 ≤ 1048576 by omega), vc5, vb3, v0j (show t.2.2.2.2.2.2.2.size ≤ 1048576 by omega)]
  cases (t.2.2.2.2.1.any fun r => !vbc r) <;> simp only [Bool.not_true, Bool.not_false, cond_true, cond_false, Bool.true_and, Bool.and_true, Bool.and_false, Bool.false_and, Sum.elim_inl, Sum.elim_inr]
  cases vca t.1 1 9999 <;> simp only [Bool.not_true, Bool.not_false, cond_true, cond_false, Bool.true_and, Bool.false_and]
  cases vca t.2.1 1 3 <;> simp only [Bool.not_true, Bool.not_false, cond_true, cond_false, Bool.true_and, Bool.false_and]
  cases vca t.2.2.1 0 9999 <;> simp only [Bool.not_true, Bool.not_false, cond_true, cond_false, Bool.true_and, Bool.false_and]
  cases decide ((t.2.2.2.2.1.length : Int) > 8) <;> simp only [Bool.not_true, Bool.not_false, cond_true, cond_false, Bool.true_and, Bool.false_and]
  cases veo t.2.2.2.2.2.1 <;> simp only [Bool.not_true, Bool.not_false, cond_true, cond_false, Bool.true_and, Bool.false_and]
  simp only [bne]
  cases t.2.1 == 3 <;> cases t.2.1 == 2 <;> cases t.2.1 == 1 <;> cases vca t.2.2.2.1 (IntKind.wrap .i64 (t.2.2.1 + 1)) 9999 <;> cases t.2.2.2.1 == 0 <;> cases vd0 t.2.2.2.2.2.2.2 <;> cases vas t.2.2.2.2.2.2.2 ⟨#[]⟩ <;> cases t.2.2.2.2.2.2.1 <;> rfl
theorem wfw {a : tTxn.D} (ha : tTxn.wt a ≤ 1048576) : a.2.2.2.2.1.length ≤ 1048576 ∧ a.2.2.2.2.2.1.length ≤ 1048576 := by
  rw [vuc] at ha
  exact ⟨vb8 (T := tRange) (by omega), vb8 (T := tWrite) (by omega)⟩
end
end Go.VE
/- Plain laws: one of a list that passes a test; what is seen; the oldest. -/
namespace Go.VE
noncomputable section
set_option linter.unusedVariables false
set_option linter.unusedSimpArgs false
set_option maxRecDepth 100000
def zV : tVersion.D := Ty.zero tVersion
def vcn (u0 : List tVersion.D) (key : ByteArray) (snap : Int) : List tVersion.D → Int → Nat → Int
  | [], s, _ => s
  | y :: l, s, i => bif vas y.1 key && (decide (y.2.2.2 ≤ snap) && (decide (s < 0) || decide (y.2.2.2 > (rd zV u0 s).2.2.2))) then vcn u0 key snap l (i : Int) (i + 1) else vcn u0 key snap l s (i + 1)
def vdm (xs : List tVersion.D) (key : ByteArray) (snap : Int) : Int := vcn xs key snap xs (-1) 0
theorem vpl {u0 u1 u2} {u4} : ∀ (l : List tVersion.D) (s : Int) (i : Nat), u0.drop i = l → (s < 0 ∨ 0 ≤ s ∧ s < (u0.length : Int)) →
    ∃ j : Int, (∀ k, veu u0 u1 u2 u4 l s i k = k (vcn u0 u1 u2 l s i, j)) ∧ (vcn u0 u1 u2 l s i < 0 ∨ 0 ≤ vcn u0 u1 u2 l s i ∧ vcn u0 u1 u2 l s i < (u0.length : Int))
  | [], s, i, _, hs => ⟨_, fun k => rfl, hs⟩
  | y :: l, s, i, h, hs => by
    have hlt := vbu h
    obtain ⟨j1, hj1, b1⟩ := vpl (u0 := u0) (u1 := u1) (u2 := u2) (u4 := u4) l s (i + 1) (vap h) hs
    obtain ⟨j2, hj2, b2⟩ := vpl (u0 := u0) (u1 := u1) (u2 := u2) (u4 := u4) l (i : Int) (i + 1) (vap h) (.inr (by omega))
    have hz : (Ty.zero tVersion) = zV := rfl
    simp only [veu, hj1, hj2, vcn, hz]
    cases vas y.1 u1
    · exact ⟨j1, fun k => rfl, b1⟩
    · cases decide (y.2.2.2 ≤ u2)
      · exact ⟨j1, fun k => rfl, b1⟩
      · by_cases c : s < 0
        · simp only [c, decide_true, cond_true, Bool.true_or, Bool.and_self]; exact ⟨j2, fun k => rfl, b2⟩
        · simp only [c, decide_false, cond_true, cond_false, Bool.false_or, Bool.true_and]
          simp only [if_pos (show 0 ≤ s ∧ s < (u0.length : Int) by omega)]
          cases decide (y.2.2.2 > (rd zV u0 s).2.2.2)
          · exact ⟨j1, fun k => rfl, b1⟩
          · exact ⟨j2, fun k => rfl, b2⟩
theorem wpj {xs : List tVersion.D} (hl : xs.length ≤ 1048576) (key) (snap) (k) : vv7 xs key snap k = k (vdm xs key snap) := by
  rw [wtf (by omega)]
  unfold we0 vdm
  obtain ⟨j, hj, _⟩ := vpl (u0 := xs) (u1 := key) (u2 := snap) (u4 := xs) xs (-1) 0 rfl (.inl (by omega))
  rw [hj]
theorem vpp {u0 u1 u2}  : ∀ (l : List tVersion.D) (s : Int) (i : Nat), u0.drop i = l → (s < 0 ∨ 0 ≤ s ∧ s < (u0.length : Int)) →
    ∃ j : Int, (∀ k, veq u0 u1 u2  l s i k = k (vcn u0 u1 u2 l s i, j)) ∧ (vcn u0 u1 u2 l s i < 0 ∨ 0 ≤ vcn u0 u1 u2 l s i ∧ vcn u0 u1 u2 l s i < (u0.length : Int))
  | [], s, i, _, hs => ⟨_, fun k => rfl, hs⟩
  | y :: l, s, i, h, hs => by
    have hlt := vbu h
    obtain ⟨j1, hj1, b1⟩ := vpp (u0 := u0) (u1 := u1) (u2 := u2)  l s (i + 1) (vap h) hs
    obtain ⟨j2, hj2, b2⟩ := vpp (u0 := u0) (u1 := u1) (u2 := u2)  l (i : Int) (i + 1) (vap h) (.inr (by omega))
    have hz : (Ty.zero tVersion) = zV := rfl
    simp only [veq, hj1, hj2, vcn, hz]
    cases vas y.1 u1
    · exact ⟨j1, fun k => rfl, b1⟩
    · cases decide (y.2.2.2 ≤ u2)
      · exact ⟨j1, fun k => rfl, b1⟩
      · by_cases c : s < 0
        · simp only [c, decide_true, cond_true, Bool.true_or, Bool.and_self]; exact ⟨j2, fun k => rfl, b2⟩
        · simp only [c, decide_false, cond_true, cond_false, Bool.false_or, Bool.true_and]
          simp only [if_pos (show 0 ≤ s ∧ s < (u0.length : Int) by omega)]
          cases decide (y.2.2.2 > (rd zV u0 s).2.2.2)
          · exact ⟨j1, fun k => rfl, b1⟩
          · exact ⟨j2, fun k => rfl, b2⟩
theorem wo8 {xs : List tVersion.D} (hl : xs.length ≤ 1048576) (key) (snap) (k) : vyk xs key snap k = k (vdm xs key snap) := by
  rw [wsn (by omega)]
  unfold we5 vdm
  obtain ⟨j, hj, _⟩ := vpp (u0 := xs) (u1 := key) (u2 := snap)  xs (-1) 0 rfl (.inl (by omega))
  rw [hj]
theorem vij {u0 : List tVersion.D} {key : ByteArray} {snap : Int} : ∀ (l : List tVersion.D) (s : Int) (i : Nat), i + l.length ≤ u0.length → (s < 0 ∨ 0 ≤ s ∧ s < (u0.length : Int)) → (vcn u0 key snap l s i < 0 ∨ 0 ≤ vcn u0 key snap l s i ∧ vcn u0 key snap l s i < (u0.length : Int))
  | [], s, i, _, hs => hs
  | y :: l, s, i, h, hs => by
    simp only [List.length_cons] at h
    simp only [vcn]
    cases (vas y.1 key && (decide (y.2.2.2 ≤ snap) && (decide (s < 0) || decide (y.2.2.2 > (rd zV u0 s).2.2.2))))
    · exact vij l s (i + 1) (by omega) hs
    · exact vij l (i : Int) (i + 1) (by omega) (.inr (by omega))
theorem vop (xs : List tVersion.D) (key : ByteArray) (snap : Int) : vdm xs key snap < 0 ∨ 0 ≤ vdm xs key snap ∧ vdm xs key snap < (xs.length : Int) :=
  vij xs (-1) 0 (by omega) (.inl (by omega))
def vrx (xs : List tVersion.D) (key : ByteArray) (snap : Int) : ByteArray × Bool :=
  bif decide (vdm xs key snap < 0) then (⟨#[]⟩, false) else bif (rd zV xs (vdm xs key snap)).2.2.1 then (⟨#[]⟩, false) else ((rd zV xs (vdm xs key snap)).2.1, true)
theorem wpk {xs : List tVersion.D} (hl : xs.length ≤ 1048576) (key) (snap) (k) : v1d xs key snap k = k (vrx xs key snap) := by
  have hb := vop xs key snap
  have hz : (Ty.zero tVersion) = zV := rfl
  rw [we3]
  unfold v8w vrx
  simp only [wpj hl, hz]
  by_cases c : vdm xs key snap < 0
  · simp only [c, decide_true, cond_true]
  · simp only [c, decide_false, cond_false]
    rw [if_pos (by omega)]
    cases (rd zV xs (vdm xs key snap)).2.2.1
    · simp only [cond_false]; rw [if_pos (by omega)]
    · rfl
theorem wo5 {xs : List tVersion.D} (hl : xs.length ≤ 1048576) (key) (snap) (k) : vxs xs key snap k = k (vrx xs key snap) := by
  have hb := vop xs key snap
  have hz : (Ty.zero tVersion) = zV := rfl
  rw [wfu]
  unfold v91 vrx
  simp only [wo8 hl, hz]
  by_cases c : vdm xs key snap < 0
  · simp only [c, decide_true, cond_true]
  · simp only [c, decide_false, cond_false]
    rw [if_pos (by omega)]
    cases (rd zV xs (vdm xs key snap)).2.2.1
    · simp only [cond_false]; rw [if_pos (by omega)]
    · rfl
def vc2 (t : tTxn.D) (xs : List tVersion.D) (key : ByteArray) : ByteArray × Bool :=
  match t.2.2.2.2.2.1.find? fun w => vas w.1 key with
  | some w => bif w.2.2 then (⟨#[]⟩, false) else (w.2.1, true)
  | none => vrx xs key t.2.2.1
theorem wpc (w : tWrite.D) (key) (k) : vwl w key k = k (vas w.1 key, key) := by rw [we9]; rfl
theorem vxd {u0 : List tWrite.D} {u1} {key : ByteArray} : ∀ (l : List tWrite.D) (i : Nat), u0.drop i = l →
    (∃ a : Nat, ∃ b : Int, (∀ k, vip u0 u1 l key i k = k (.inl ((a : Int), b, key))) ∧ a < u0.length ∧ l.find? (fun w => vas w.1 key) = some (rd (Ty.zero tWrite) u0 (a : Int))) ∨
    (∃ b : Int, (∀ k, vip u0 u1 l key i k = k (.inr (b, key))) ∧ l.find? (fun w => vas w.1 key) = none)
  | [], i, _ => .inr ⟨_, fun k => rfl, rfl⟩
  | y :: l, i, h => by
    have hlt := vbu h
    have hy := (van h).1 (Ty.zero tWrite)
    simp only [vip, wpc, List.find?_cons]
    cases vas y.1 key
    · simp only [cond_false]; exact vxd l (i + 1) (vap h)
    · exact .inl ⟨i, _, fun k => rfl, hlt, by rw [hy]⟩
theorem v3f {t : tTxn.D} {xs : List tVersion.D} (ht : tTxn.wt t ≤ 1048576) (hl : xs.length ≤ 1048576) (key) (k) : v2x t xs key k = k (vc2 t xs key) := by
  have hlen := (wfw ht).2
  rw [wfr]
  unfold v87
  rw [wde]
  unfold v8y vc2
  rw [wsi (by omega)]
  unfold wg7
  rcases vxd (u0 := t.2.2.2.2.2.1) (u1 := 0) (key := key) t.2.2.2.2.2.1 0 rfl with ⟨a, b, h1, h2, h3⟩ | ⟨b, h1, h3⟩
  · rw [h1, h3]
    simp only [Sum.elim_inl, show decide ((a : Int) ≥ 0) = true by simp, cond_true]
    rw [if_pos (by omega)]
    cases (rd (Ty.zero tWrite) t.2.2.2.2.2.1 (a : Int)).2.2
    · simp only [cond_false]; rw [if_pos (by omega)]
    · rfl
  · rw [h1, h3]
    simp only [Sum.elim_inr, show decide ((-1 : Int) ≥ 0) = false by decide, cond_false, wpk hl, vcs]
theorem vx7 {u0 : List tVersion.D} {u1 u2 u3 u5 u6 u7 u8 u9 u10 u11 u12} : ∀ (l : List tWrite.D) (i : Nat),
    ∃ j : Int, ∀ k, vkg u0 u1 u2 u3 u5 u6 u7 u8 u9 u10 u11 u12 l i k = k (match l.find? (fun w => vas w.1 u1) with | some w => .inl (bif w.2.2 then (⟨#[]⟩, false, j) else (w.2.1, true, j)) | none => .inr j)
  | [], i => ⟨_, fun k => rfl⟩
  | y :: l, i => by
    obtain ⟨j, hj⟩ := vx7 (u0 := u0) (u1 := u1) (u2 := u2) (u3 := u3) (u5 := u5) (u6 := u6) (u7 := u7) (u8 := u8) (u9 := u9) (u10 := u10) (u11 := u11) (u12 := u12) l (i + 1)
    simp only [vkg, hj, List.find?_cons]
    cases vas y.1 u1
    · exact ⟨j, fun k => rfl⟩
    · cases hg : y.2.2
      · exact ⟨(i : Int), fun k => by simp [hg]⟩
      · exact ⟨(i : Int), fun k => by simp [hg]⟩
theorem wox {t : tTxn.D} {xs : List tVersion.D} (hlen : t.2.2.2.2.2.1.length ≤ 1048576) (hl : xs.length ≤ 1048576) (key) (k) : vtf t xs key k = k (vc2 t xs key) := by
  rw [wq5 (by omega)]
  unfold wf6 vc2
  obtain ⟨j, hj⟩ := vx7 (u0 := xs) (u1 := key) (u2 := ⟨#[]⟩) (u3 := false) (u5 := t.1) (u6 := t.2.1) (u7 := t.2.2.1) (u8 := t.2.2.2.1) (u9 := t.2.2.2.2.1) (u10 := t.2.2.2.2.2.1) (u11 := t.2.2.2.2.2.2.1) (u12 := t.2.2.2.2.2.2.2) t.2.2.2.2.2.1 0
  rw [hj]
  cases t.2.2.2.2.2.1.find? fun w => vas w.1 key with
  | none => simp only [Sum.elim_inr, wo5 hl, vcs]
  | some w => cases hg : w.2.2 <;> simp [hg]
theorem wgn {t : tTxn.D} {xs : List tVersion.D} (ht : tTxn.wt t ≤ 1048576) (hl : xs.length ≤ 1048576) (key) (k) : vtf t xs key k = k (vc2 t xs key) := wox (wfw ht).2 hl key k
end
end Go.VE
/- Plain laws: where a name or an Id stands; a transaction's text. -/
namespace Go.VE
noncomputable section
set_option linter.unusedVariables false
set_option linter.unusedSimpArgs false
set_option maxRecDepth 100000
def atF (p : tTxn.D → Bool) : List tTxn.D → Nat → Int
  | [], _ => -1
  | y :: l, i => bif p y then (i : Int) else atF p l (i + 1)
theorem wpf (x : tTxn.D) (c : Int) (k) : vw4 x c k = k ((x.1 == c), c) := by rw [wha]; rfl
theorem vw5 {u1 u3 u4 u5 u6 u7 u8} {c : Int} : ∀ (l : List tTxn.D) (i : Nat),
    ((∃ a : Nat, ∀ k, vgz c u1 u3 u4 u5 u6 u7 u8 l i k = k (.inl ((a : Int), (a : Int)))) ∧ (∃ a : Nat, atF (fun x => (x.1 == c)) l i = (a : Int) ∧ ∀ k, vgz c u1 u3 u4 u5 u6 u7 u8 l i k = k (.inl ((a : Int), (a : Int))))) ∨
    ((∃ b : Int, ∀ k, vgz c u1 u3 u4 u5 u6 u7 u8 l i k = k (.inr b)) ∧ atF (fun x => (x.1 == c)) l i = -1)
  | [], i => .inr ⟨⟨_, fun k => rfl⟩, rfl⟩
  | y :: l, i => by
    have ih := vw5 (u1 := u1) (u3 := u3) (u4 := u4) (u5 := u5) (u6 := u6) (u7 := u7) (u8 := u8) (c := c) l (i + 1)
    simp only [vgz, atF]
    cases (y.1 == c)
    · exact ih
    · exact .inl ⟨⟨i, fun k => rfl⟩, i, rfl, fun k => rfl⟩
theorem wo3 (t : tEngine.D) (c : Int) (hl : (t.2).length ≤ 1048576) (k) : vys t c k = k (atF (fun x => (x.1 == c)) (t.2) 0) := by
  rw [ws9 (by omega)]
  unfold wdn
  rcases vw5  (c := c) (t.2) 0 with ⟨_, a, ha, h⟩ | ⟨⟨b, h⟩, ha⟩ <;> rw [h, ha] <;> rfl
theorem vvy {u0 u1} {c : Int} : ∀ (l : List tTxn.D) (i : Nat),
    (∃ a : Nat, atF (fun x => (x.1 == c)) l i = (a : Int) ∧ ∀ k, vhz u0 u1 l c i k = k (.inl ((a : Int), (a : Int), c))) ∨
    ((∃ b : Int, ∀ k, vhz u0 u1 l c i k = k (.inr (b, c))) ∧ atF (fun x => (x.1 == c)) l i = -1)
  | [], i => .inr ⟨⟨_, fun k => rfl⟩, rfl⟩
  | y :: l, i => by
    have ih := vvy (u0 := u0) (u1 := u1) (c := c) l (i + 1)
    simp only [vhz, atF, wpf]
    cases (y.1 == c)
    · exact ih
    · exact .inl ⟨i, rfl, fun k => rfl⟩
theorem wo4 (t : tEngine.D) (c : Int) (hl : (t.2).length ≤ 1048576) (k) : v18 t c k = k (atF (fun x => (x.1 == c)) (t.2) 0) := by
  rw [wgg]
  unfold v76
  rw [wtb (by omega)]
  unfold wgs
  rcases vvy (u0 := (t.2)) (u1 := 0) (c := c) (t.2) 0 with ⟨a, ha, h⟩ | ⟨⟨b, h⟩, ha⟩ <;> rw [h, ha] <;> rfl
theorem v1b {a b : ByteArray} (h : a.data.toList = b.data.toList) : a = b := by
  cases a; cases b; congr 1; exact Array.toList_inj.mp h
theorem vma {a b : ByteArray} (h : vas a b = true) : a = b := by
  rw [vfq, beq_iff_eq, ByteArray.toList_eq, ByteArray.toList_eq] at h
  exact v1b h
theorem vfc {s : ByteArray} (h : vd0 s = true) : s.size ≤ 3 := by
  unfold vd0 vca at h
  simp only [Bool.and_eq_true, decide_eq_true_eq] at h
  omega
theorem vmn : ∀ {l : List tWrite.D} {p}, vcf p l = true → ∀ y ∈ l, vdg y = true
  | [], _, _, y, hy => by cases hy
  | z :: l, p, h, y, hy => by
    simp only [vcf, Bool.and_eq_true] at h
    cases hy with
    | head => exact h.1.1
    | tail _ hm => exact vmn h.2 y hm
def v2b (n : Int) : Prop := 0 ≤ n ∧ n ≤ 16383
theorem vnn {t : tTxn.D} (h : vk9 t = true) : v2b t.1 ∧ v2b t.2.1 ∧ v2b t.2.2.1 ∧ v2b t.2.2.2.1 ∧
    t.2.2.2.2.1.length ≤ 8 ∧ (∀ y ∈ t.2.2.2.2.1, y.1.size ≤ 12 ∧ y.2.size ≤ 12) ∧ t.2.2.2.2.2.1.length ≤ 8 ∧ (∀ y ∈ t.2.2.2.2.2.1, y.1.size ≤ 12 ∧ y.2.1.size ≤ 12) ∧ t.2.2.2.2.2.2.2.size ≤ 12 := by
  unfold vk9 vca veo at h
  simp only [Bool.and_eq_true, Bool.not_eq_true', decide_eq_true_eq, decide_eq_false_iff_not, List.any_eq_false, Bool.not_eq_true, Bool.and_eq_false_iff, beq_eq_false_iff_ne, bne_eq_false_iff_eq, Bool.not_eq_false', Bool.or_eq_true, ne_eq] at h
  obtain ⟨⟨⟨⟨⟨⟨⟨⟨⟨⟨a1, a2⟩, a3⟩, a4⟩, ⟨a5, a6⟩⟩, a7⟩, a8⟩, a9⟩, a10⟩, a11⟩, a12⟩ := h
  unfold v2b
  refine ⟨by omega, by omega, by omega, ?_, by omega, fun y hy => ?_, by omega, fun y hy => ?_, ?_⟩
  · by_cases c : t.2.1 = 3
    · have := a8.resolve_left (fun hc => hc c)
      have w : IntKind.wrap .i64 (t.2.2.1 + 1) = t.2.2.1 + 1 := vba (by omega) (by omega)
      rw [w] at this
      omega
    · have : @Eq Int t.2.2.2.1 0 := a9.resolve_left (fun hc => c hc)
      omega
  · have : vbc y = true := by have := a7 y hy; revert this; cases vbc y <;> simp
    unfold vbc at this
    simp only [Bool.and_eq_true] at this
    have b1 := vfc this.1.1
    have b2 := vfc this.1.2
    omega
  · have := vmn a5 y hy
    unfold vdg at this
    simp only [Bool.and_eq_true, decide_eq_true_eq] at this
    have b1 := vfc this.1.1
    omega
  · by_cases c : t.2.1 = 2
    · have := vfc (a10.resolve_left (fun hc => hc c))
      omega
    · have := vma (a11.resolve_left (fun hc => c hc))
      rw [this]; decide
end
end Go.VE
/- Plain laws of the draws: each gives, whatever the bytes. -/
namespace Go.VE
noncomputable section
set_option linter.unusedVariables false
set_option linter.unusedSimpArgs false
set_option maxRecDepth 100000
/-- A native program that hands on one value, of which this holds. -/
def Gives {α : Type} (F : (α → Option Res) → Option Res) (Q : α → Prop) : Prop := ∃ v, Q v ∧ ∀ k, F k = k v
theorem vjt {α : Type} {v : α} {Q : α → Prop} (h : Q v) : Gives (fun k => k v) Q := ⟨v, h, fun _ => rfl⟩
theorem Gives.bind {α β : Type} {F : (β → Option Res) → Option Res} {R : β → Prop} (hF : Gives F R) {H : β → (α → Option Res) → Option Res} {Q : α → Prop} (hH : ∀ v, R v → Gives (H v) Q) : Gives (fun k => F fun v => H v k) Q := by
  obtain ⟨v, h1, h2⟩ := hF
  obtain ⟨y, h3, h4⟩ := hH v h1
  exact ⟨y, h3, fun k => (h2 _).trans (h4 k)⟩
theorem vrg {α : Type} {c : Bool} {F G : (α → Option Res) → Option Res} {Q : α → Prop} (hF : c = true → Gives F Q) (hG : c = false → Gives G Q) : Gives (fun k => bif c then F k else G k) Q := by
  cases c
  · exact hG rfl
  · exact hF rfl
theorem v1h {α : Type} {c : Prop} [Decidable c] {F : (α → Option Res) → Option Res} {Q : α → Prop} (hc : c) (hF : Gives F Q) : Gives (fun k => if c then F k else none) Q := by
  simp only [hc, if_true]; exact hF
theorem Gives.mono {α : Type} {F : (α → Option Res) → Option Res} {Q R : α → Prop} (h : Gives F Q) (hq : ∀ v, Q v → R v) : Gives F R := by
  obtain ⟨v, h1, h2⟩ := h
  exact ⟨v, hq v h1, h2⟩
theorem vxr {β γ : Type} {b : β → (β ⊕ γ → Option Res) → Option Res} {x : β} {n : Nat} {Q : γ → Prop} (h : Gives (b x) (fun r => (∀ y, r = .inl y → Gives (vae b n y) Q) ∧ ∀ z, r = .inr z → Q z)) : Gives (vae b (n + 1) x) Q := by
  obtain ⟨v, h1, h2⟩ := h
  cases v with
  | inl y =>
    obtain ⟨w, h3, h4⟩ := h1.1 y rfl
    exact ⟨w, h3, fun k => by rw [vae, h2]; exact h4 k⟩
  | inr z => exact ⟨z, h1.2 z rfl, fun k => by rw [vae, h2]; rfl⟩
theorem wqr {β γ : Type} {Q : γ → Prop} {G : β → Prop} {y : β} (h : G y) : (∀ x, (Sum.inl y : β ⊕ γ) = .inl x → G x) ∧ ∀ z, (Sum.inl y : β ⊕ γ) = .inr z → Q z := ⟨fun _ e => by cases e; exact h, fun _ e => (nomatch e)⟩
theorem wnl {β γ : Type} {Q : γ → Prop} {G : β → Prop} {z : γ} (h : Q z) : (∀ x, (Sum.inr z : β ⊕ γ) = .inl x → G x) ∧ ∀ w, (Sum.inr z : β ⊕ γ) = .inr w → Q w := ⟨fun _ e => (nomatch e), fun _ e => by cases e; exact h⟩
theorem wfc {T : Ty} {c : Nat} : ∀ {l : List T.D}, (∀ y ∈ l, T.wt y ≤ c) → wtL T l ≤ c * l.length
  | [], _ => by simp [wtL]
  | y :: l, h => by
    have h1 := h y (by simp)
    have h2 := wfc (l := l) (fun z hz => h z (List.mem_cons_of_mem y hz))
    simp only [wtL, List.length_cons, Nat.mul_add]; omega
end
end Go.VE
/- Plain laws of the marks: what is marked in place is held. -/
namespace Go.VE
noncomputable section
set_option linter.unusedVariables false
set_option linter.unusedSimpArgs false
set_option maxRecDepth 100000
theorem vm6 (n : Int) : (vm9 [n]).size = 1 := rfl
theorem vzx : ∀ (m : Nat) (n : Int) (s : ByteArray) (q : Nat), n ≤ m → m < q → s.size + m ≤ 100000000 → Gives (vae vmy q (n, s)) (fun z => z.2.size ≤ s.size + m) := by
  intro m
  induction m with
  | zero =>
    intro n s q hn hq hs
    obtain ⟨q, rfl⟩ : ∃ r, q = r + 1 := ⟨q - 1, by omega⟩
    apply vxr
    unfold vmy
    exact vrg (fun c => by have c := of_decide_eq_true c; dsimp only at c; omega) (fun _ => vjt (wnl (by dsimp only; omega)))
  | succ m ih =>
    intro n s q hn hq hs
    obtain ⟨q, rfl⟩ : ∃ r, q = r + 1 := ⟨q - 1, by omega⟩
    apply vxr
    unfold vmy
    refine vrg (fun c => v1h ?_ (vjt (wqr ?_))) (fun _ => vjt (wnl (by dsimp only; omega)))
    · rw [vm6]; dsimp only; omega
    · have c := of_decide_eq_true c
      dsimp only at c
      have e : n.tdiv 10 = n / 10 := Int.tdiv_eq_ediv_of_nonneg (by omega)
      dsimp only
      rw [e, vba (by omega) (by omega)]
      refine (ih (n / 10) _ q (by omega) (by omega) (by rw [ByteArray.size_append, vm6]; omega)).mono (fun z hz => ?_)
      rw [ByteArray.size_append, vm6] at hz
      omega
theorem wbp {n : Int} (h : n ≤ 10000000) : Gives (vbk n) (fun _ => True) := by
  rw [wdu]
  unfold v7o
  refine vrg (fun _ => vjt trivial) (fun _ => (vzx 10000000 n _ Fuel (by omega) (by have := vcc; omega) (by decide)).bind (fun z hz => v1h ?_ (vjt trivial)))
  have : (⟨#[109]⟩ : ByteArray).size = 1 := rfl
  have : (⟨#[]⟩ : ByteArray).size = 0 := rfl
  omega
open Classical in
def vh0 (n : Int) : ByteArray := if h : ∃ v, ∀ k, vbk n k = k v then Classical.choose h else ⟨#[]⟩
theorem vay {n : Int} (h : n ≤ 10000000) (k) : vbk n k = k (vh0 n) := by
  obtain ⟨v, _, hv⟩ := wbp h
  have h1 : ∃ v, ∀ k, vbk n k = k v := ⟨v, hv⟩
  unfold vh0
  rw [dif_pos h1]
  exact Classical.choose_spec h1 k
theorem vtk {α : Type} (pre : List α) (y v : α) (l : List α) : (pre ++ y :: l).set pre.length v = pre ++ v :: l := by simp
theorem vo5 {α : Type} (pre : List α) (y d : α) (l : List α) : (pre ++ y :: l).getD pre.length d = y := by simp [List.getD]
def vfo : Int → List tRange.D → List tRange.D
  | _, [] => []
  | c, y :: l => (vh0 c, vh0 (c + 1)) :: vfo (c + 2) l
theorem vku : ∀ (l pre : List tRange.D) (c : Int) (q : Nat), 0 ≤ c → c + 2 * l.length ≤ 9000000 → pre.length + l.length ≤ 1048576 → l.length < q →
    ∃ j : Int, ∀ k, vae vm7 q (c, (pre.length : Int), pre ++ l) k = k (c + 2 * l.length, j, pre ++ vfo c l)
  | [], pre, c, q, h0, hc, hl, hq => by
    obtain ⟨q, rfl⟩ : ∃ r, q = r + 1 := ⟨q - 1, by omega⟩
    refine ⟨pre.length, fun k => ?_⟩
    simp only [vae, vm7, List.append_nil, Int.lt_irrefl, decide_false, cond_false, Sum.elim_inr, List.length_nil, vfo]
    simp
  | y :: l, pre, c, q, h0, hc, hl, hq => by
    obtain ⟨q, rfl⟩ : ∃ r, q = r + 1 := ⟨q - 1, by omega⟩
    simp only [List.length_cons] at hc hl hq
    obtain ⟨j, hj⟩ := vku l (pre ++ [(vh0 c, vh0 (c + 1))]) (c + 2) q (by omega) (by omega) (by rw [List.length_append, List.length_singleton]; omega) (by omega)
    refine ⟨j, fun k => ?_⟩
    have hlt : (pre.length : Int) < ((pre ++ y :: l).length : Int) := by rw [List.length_append, List.length_cons]; omega
    have hlt2 : ∀ v : tRange.D, (pre.length : Int) < ((pre ++ v :: l).length : Int) := fun v => by rw [List.length_append, List.length_cons]; omega
    have w1 : IntKind.wrap .i64 (c + 1) = c + 1 := vba (by omega) (by omega)
    have w2 : IntKind.wrap .i64 (c + 1 + 1) = c + 2 := by rw [vba (by omega) (by omega)]; omega
    have w3 : IntKind.wrap .i64 ((pre.length : Int) + 1) = ((pre.length + 1 : Nat) : Int) := vb1 (by omega)
    have hp : (0 : Int) ≤ (pre.length : Int) := Int.natCast_nonneg _
    have hj' := hj k
    rw [List.length_append, List.length_singleton, List.append_assoc, List.singleton_append, List.append_assoc, List.singleton_append] at hj'
    simp only [vae, vm7, hlt, decide_true, cond_true, vay (show c ≤ 10000000 by omega), w1, vay (show c + 1 ≤ 10000000 by omega), Int.toNat_natCast, vtk, vo5, hlt2, hp, and_self, if_true, w2, w3, Sum.elim_inl]
    rw [hj']
    simp only [vfo, List.length_cons]
    congr 2
    push_cast
    omega
def vpt : Int → List tWrite.D → List tWrite.D
  | _, [] => []
  | c, y :: l => (vh0 c, (vh0 (c + 1), ((c + 2).tmod 3 == 0))) :: vpt (c + 3) l
theorem vlo : ∀ (l pre : List tWrite.D) (c : Int) (q : Nat), 0 ≤ c → c + 3 * l.length ≤ 9000000 → pre.length + l.length ≤ 1048576 → l.length < q →
    ∃ j : Int, ∀ k, vae vms q (c, (pre.length : Int), pre ++ l) k = k (c + 3 * l.length, j, pre ++ vpt c l)
  | [], pre, c, q, h0, hc, hl, hq => by
    obtain ⟨q, rfl⟩ : ∃ r, q = r + 1 := ⟨q - 1, by omega⟩
    refine ⟨pre.length, fun k => ?_⟩
    simp only [vae, vms, List.append_nil, Int.lt_irrefl, decide_false, cond_false, Sum.elim_inr, List.length_nil, vpt]
    simp
  | y :: l, pre, c, q, h0, hc, hl, hq => by
    obtain ⟨q, rfl⟩ : ∃ r, q = r + 1 := ⟨q - 1, by omega⟩
    simp only [List.length_cons] at hc hl hq
    obtain ⟨j, hj⟩ := vlo l (pre ++ [(vh0 c, (vh0 (c + 1), ((c + 2).tmod 3 == 0)))]) (c + 3) q (by omega) (by omega) (by rw [List.length_append, List.length_singleton]; omega) (by omega)
    refine ⟨j, fun k => ?_⟩
    have hlt : (pre.length : Int) < ((pre ++ y :: l).length : Int) := by rw [List.length_append, List.length_cons]; omega
    have hlt2 : ∀ v : tWrite.D, (pre.length : Int) < ((pre ++ v :: l).length : Int) := fun v => by rw [List.length_append, List.length_cons]; omega
    have w1 : IntKind.wrap .i64 (c + 1) = c + 1 := vba (by omega) (by omega)
    have w2 : IntKind.wrap .i64 (c + 1 + 1) = c + 2 := by rw [vba (by omega) (by omega)]; omega
    have w4 : IntKind.wrap .i64 (c + 2 + 1) = c + 3 := by rw [vba (by omega) (by omega)]; omega
    have w3 : IntKind.wrap .i64 ((pre.length : Int) + 1) = ((pre.length + 1 : Nat) : Int) := vb1 (by omega)
    have hp : (0 : Int) ≤ (pre.length : Int) := Int.natCast_nonneg _
    have hj' := hj k
    rw [List.length_append, List.length_singleton, List.append_assoc, List.singleton_append, List.append_assoc, List.singleton_append] at hj'
    simp only [vae, vms, hlt, decide_true, cond_true, vay (show c ≤ 10000000 by omega), w1, vay (show c + 1 ≤ 10000000 by omega), Int.toNat_natCast, vtk, vo5, hlt2, hp, and_self, if_true, w2, w3, w4, Sum.elim_inl]
    rw [hj']
    simp only [vpt, List.length_cons]
    congr 2
    push_cast
    omega
theorem vje {u0 u2} : ∀ (l : List tRange.D) (c : Int) (i : Nat), 0 ≤ c → c + 2 * l.length ≤ 9000000 → ∃ j : Int, ∀ k, vio u0 u2 (vfo c l) c i k = k (.inr (c + 2 * l.length, j))
  | [], c, i, _, _ => ⟨_, fun k => by simp only [vfo, vio, List.length_nil]; simp; rfl⟩
  | y :: l, c, i, h0, hc => by
    simp only [List.length_cons] at hc
    obtain ⟨j, hj⟩ := vje (u0 := u0) (u2 := u2) l (c + 2) (i + 1) (by omega) (by omega)
    have w1 : IntKind.wrap .i64 (c + 1) = c + 1 := vba (by omega) (by omega)
    have w2 : IntKind.wrap .i64 (c + 1 + 1) = c + 2 := by rw [vba (by omega) (by omega)]; omega
    refine ⟨j, fun k => ?_⟩
    simp only [vfo, vio, vay (show c ≤ 10000000 by omega), w1, vay (show c + 1 ≤ 10000000 by omega), vbl, Bool.not_true, cond_false, w2, hj, List.length_cons]
    congr 3
    push_cast
    omega
theorem vjs {u0 u2} : ∀ (l : List tWrite.D) (c : Int) (i : Nat), 0 ≤ c → c + 3 * l.length ≤ 9000000 → ∃ j : Int, ∀ k, viv u0 u2 (vpt c l) c i k = k (.inr (c + 3 * l.length, j))
  | [], c, i, _, _ => ⟨_, fun k => by simp only [vpt, viv, List.length_nil]; simp; rfl⟩
  | y :: l, c, i, h0, hc => by
    simp only [List.length_cons] at hc
    obtain ⟨j, hj⟩ := vjs (u0 := u0) (u2 := u2) l (c + 3) (i + 1) (by omega) (by omega)
    have w1 : IntKind.wrap .i64 (c + 1) = c + 1 := vba (by omega) (by omega)
    have w2 : IntKind.wrap .i64 (c + 1 + 1) = c + 2 := by rw [vba (by omega) (by omega)]; omega
    have w4 : IntKind.wrap .i64 (c + 2 + 1) = c + 3 := by rw [vba (by omega) (by omega)]; omega
    refine ⟨j, fun k => ?_⟩
    simp only [vpt, viv, vay (show c ≤ 10000000 by omega), w1, vay (show c + 1 ≤ 10000000 by omega), vbl, Bool.not_true, cond_false, w2, w4, hj, List.length_cons, beq_self_eq_true]
    congr 3
    push_cast
    omega
end
end Go.VE
/- Plain laws: a range is read. -/
namespace Go.VE
noncomputable section
set_option linter.unusedVariables false
set_option linter.unusedSimpArgs false
set_option maxRecDepth 100000
theorem vyh (a b : ByteArray) : vas a b = vas b a := by rw [vfq, vfq]; exact Bool.beq_comm
theorem vyw (a b : tRange.D) : Ty.eqB tRange a b = Ty.eqB tRange b a := by
  simp only [Ty.eqB]; rw [vyh a.1, vyh a.2]
def vaq (t : tTxn.D) (r : tRange.D) : Bool × List tRange.D :=
  bif !vk9 t then (false, t.2.2.2.2.1) else bif t.2.1 != 1 then (false, t.2.2.2.2.1) else bif !vbc r then (false, t.2.2.2.2.1) else
  bif t.2.2.2.2.1.any (fun y => Ty.eqB tRange y r) then (true, t.2.2.2.2.1) else bif decide ((t.2.2.2.2.1.length : Int) ≥ 8) then (false, t.2.2.2.2.1) else (true, t.2.2.2.2.1 ++ [r])
theorem vvk {u0 u2 u3 u4 u5 u6 u7 u8 u9 u10 u11 u12 u13 u14 u15 u16 u17 u18 u19 u20 u21 u22 u23 u24 u25 u26 u27} : ∀ (l : List tRange.D) (i : Nat), ∃ j : Int, ∀ k,
    vks u0 u2 u3 u4 u5 u6 u7 u8 u9 u10 u11 u12 u13 u14 u15 u16 u17 u18 u19 u20 u21 u22 u23 u24 u25 u26 u27 l i k = k (bif l.any (fun y => Ty.eqB tRange y (u10, u11)) then .inr (true, j) else .inl j)
  | [], i => ⟨_, fun k => rfl⟩
  | y :: l, i => by
    obtain ⟨j, hj⟩ := vvk (u0 := u0) (u2 := u2) (u3 := u3) (u4 := u4) (u5 := u5) (u6 := u6) (u7 := u7) (u8 := u8) (u9 := u9) (u10 := u10) (u11 := u11) (u12 := u12) (u13 := u13) (u14 := u14) (u15 := u15) (u16 := u16) (u17 := u17) (u18 := u18) (u19 := u19) (u20 := u20) (u21 := u21) (u22 := u22) (u23 := u23) (u24 := u24) (u25 := u25) (u26 := u26) (u27 := u27) l (i + 1)
    simp only [vks, hj, List.any_cons]
    cases Ty.eqB tRange y (u10, u11)
    · exact ⟨j, fun k => rfl⟩
    · exact ⟨i, fun k => rfl⟩
theorem vxh {u0 u1 u4 u5} : ∀ (l : List tRange.D) (i : Nat), ∃ a : Nat, ∃ b : Int, ∀ k, vjv u0 u1 u4 u5 l i k = k (bif l.any (fun y => Ty.eqB tRange y (u4, u5)) then .inl ((a : Int), (a : Int)) else .inr b)
  | [], i => ⟨0, _, fun k => rfl⟩
  | y :: l, i => by
    obtain ⟨a, b, hab⟩ := vxh (u0 := u0) (u1 := u1) (u4 := u4) (u5 := u5) l (i + 1)
    simp only [vjv, hab, List.any_cons, vyw (u4, u5) y]
    cases Ty.eqB tRange y (u4, u5)
    · exact ⟨a, b, fun k => rfl⟩
    · exact ⟨i, (i : Int), fun k => rfl⟩
theorem woq {l : List tRange.D} (hl : l.length ≤ 1048576) (r : tRange.D) (k) : vyb l r k = k (l.any fun y => Ty.eqB tRange y r) := by
  obtain ⟨a, b, hab⟩ := vxh (u0 := l) (u1 := 0) (u4 := r.1) (u5 := r.2) l 0
  rw [wev]
  unfold v79
  rw [wrc (by omega)]
  unfold wd5
  rw [hab]
  simp only [vcs]
  cases (l.any fun y => Ty.eqB tRange y r)
  · rfl
  · have : decide ((a : Int) ≥ 0) = true := by simp
    simp only [cond_true, Sum.elim_inl, this]
theorem vqy {a : tTxn.D} (ha : tTxn.wt a ≤ 1048576) : a.2.2.2.2.1.length ≤ 1048576 ∧ a.2.2.2.2.2.1.length ≤ 1048576 := by
  rw [vuc] at ha
  exact ⟨vb8 (T := tRange) (by omega), vb8 (T := tWrite) (by omega)⟩
theorem wcw {t : tTxn.D} (hr : t.2.2.2.2.1.length ≤ 1048576) (hw : t.2.2.2.2.2.1.length ≤ 1048576) (k) : vqh t k = k (t.1, t.2.1, t.2.2.1, t.2.2.2.1, t.2.2.2.2.2.2.1, t.2.2.2.2.2.2.2, t.2.2.2.2.1, t.2.2.2.2.2.1) := by
  rw [wcn]
  unfold v9z
  rw [if_pos (by simp only [List.length_nil, VE.maxLen]; omega), if_pos (by simp only [List.length_nil, VE.maxLen]; omega)]
  rfl
theorem wef {t : tTxn.D} (hr : t.2.2.2.2.1.length ≤ 1048576) (hw : t.2.2.2.2.2.1.length ≤ 1048576) (k) : vp9 t k = k (t.1, t.2.1, t.2.2.1, t.2.2.2.1, t.2.2.2.2.2.2.1, t.2.2.2.2.2.2.2, t.2.2.2.2.1, t.2.2.2.2.2.1) := by
  rw [wga]
  unfold v8o
  rw [if_pos (by simp only [VE.maxLen]; omega), if_pos (by simp only [VE.maxLen]; omega)]
theorem woz {t : tTxn.D} (ht : tTxn.wt t ≤ 1048576) {r : tRange.D} (hr : tRange.wt r ≤ 1048576) (k) : vw9 t r k = k (t.1, t.2.1, t.2.2.1, t.2.2.2.1, t.2.2.2.2.2.2.1, t.2.2.2.2.2.2.2, (vaq t r).1, (vaq t r).2, t.2.2.2.2.2.1) := by
  have hl := vqy ht
  rw [wr6 (by omega)]
  unfold wd7 vaq
  simp only [wcw hl.1 hl.2, wpe ht, v5m hr]
  cases hok : vk9 t
  · rfl
  · simp only [Bool.not_true, cond_false]
    cases t.2.1 != 1
    · cases vbc r
      · rfl
      · simp only [Bool.not_true, cond_false]
        unfold vef
        obtain ⟨j, hj⟩ := vvk (u0 := false) (u2 := t.1) (u3 := t.2.1) (u4 := t.2.2.1) (u5 := t.2.2.2.1) (u6 := t.2.2.2.2.1) (u7 := t.2.2.2.2.2.1) (u8 := t.2.2.2.2.2.2.1) (u9 := t.2.2.2.2.2.2.2) (u10 := r.1) (u11 := r.2) (u12 := 0) (u13 := 0) (u14 := 0) (u15 := 0) (u16 := false) (u17 := ⟨#[]⟩) (u18 := t.1) (u19 := t.2.1) (u20 := t.2.2.1) (u21 := t.2.2.2.1) (u22 := t.2.2.2.2.2.2.1) (u23 := t.2.2.2.2.2.2.2) (u24 := []) (u25 := []) (u26 := t.2.2.2.2.1) (u27 := t.2.2.2.2.2.1) t.2.2.2.2.1 0
        simp only [hj, vcs]
        cases t.2.2.2.2.1.any (fun y => Ty.eqB tRange y r)
        · cases decide ((t.2.2.2.2.1.length : Int) ≥ 8)
          · simp only [cond_false, Sum.elim_inl]; rw [if_pos (by simp only [List.length_singleton, VE.maxLen]; omega)]
          · rfl
        · rfl
    · rfl
theorem wps {t : tTxn.D} (ht : tTxn.wt t ≤ 1048576) {r : tRange.D} (hr : tRange.wt r ≤ 1048576) (k) : vvp t r k = k (t.1, t.2.1, t.2.2.1, t.2.2.2.1, t.2.2.2.2.2.2.1, t.2.2.2.2.2.2.2, (vaq t r).1, (vaq t r).2, t.2.2.2.2.2.1) := by
  have hl := vqy ht
  rw [wsw]
  unfold wfx vaq
  simp only [wef hl.1 hl.2, wpi ht, v5d hr]
  cases hok : vk9 t
  · rfl
  · simp only [Bool.not_true, cond_false]
    cases t.2.1 != 1
    · cases vbc r
      · rfl
      · simp only [Bool.not_true, cond_false]
        unfold veb
        simp only [woq hl.1, vcs]
        have h8 := (vnn hok).2.2.2.2.1
        have e8 : ((t.2.2.2.2.1.length : Int) == 8) = decide ((t.2.2.2.2.1.length : Int) ≥ 8) := by
          by_cases c : (t.2.2.2.2.1.length : Int) ≥ 8
          · rw [decide_eq_true c]; simp; omega
          · rw [decide_eq_false c]; simp; omega
        rw [e8]
        cases t.2.2.2.2.1.any (fun y => Ty.eqB tRange y r)
        · cases decide ((t.2.2.2.2.1.length : Int) ≥ 8)
          · simp only [cond_false]; rw [if_pos (by simp only [List.length_singleton, VE.maxLen]; omega)]
          · rfl
        · rfl
    · rfl
end
end Go.VE
/- Plain laws: a transaction's marks. -/
namespace Go.VE
noncomputable section
set_option linter.unusedVariables false
set_option linter.unusedSimpArgs false
set_option maxRecDepth 100000
theorem vki : ∀ (c : Int) (l : List tRange.D), (vfo c l).length = l.length
  | _, [] => rfl
  | c, y :: l => by simp [vfo, vki (c + 2) l]
theorem vqj : ∀ (c : Int) (l : List tWrite.D), (vpt c l).length = l.length
  | _, [] => rfl
  | c, y :: l => by simp [vpt, vqj (c + 3) l]
theorem vz2 {t : tTxn.D} (ht : tTxn.wt t ≤ 1048576) (r : tRange.D) : (vaq t r).2.length ≤ 1048576 := by
  have hl := vqy ht
  unfold vaq
  cases hok : vk9 t
  · exact hl.1
  · have h8 := (vnn hok).2.2.2.2.1
    cases t.2.1 != 1 <;> cases vbc r <;> cases t.2.2.2.2.1.any (fun y => Ty.eqB tRange y r) <;> cases decide ((t.2.2.2.2.1.length : Int) ≥ 8) <;> simp only [Bool.not_true, Bool.not_false, cond_true, cond_false, List.length_append, List.length_singleton] <;> omega
end
end Go.VE
/- Plain laws: keys in order; what a scan sees. -/
namespace Go.VE
noncomputable section
set_option linter.unusedVariables false
set_option linter.unusedSimpArgs false
set_option maxRecDepth 100000
/-! ### the order of texts -/
theorem vl2 (x y : ByteArray) : vaj x y = decide (x.data.toList < y.data.toList) := by
  rw [ve9, ByteArray.toList_eq, ByteArray.toList_eq]
  exact Go.Proofs.bytesLess_eq _ _
theorem vfz (x : ByteArray) : vaj x x = false := by
  rw [vl2]; exact decide_eq_false (List.lt_irrefl _)
theorem vnj {x y z : ByteArray} (h1 : vaj x y = true) (h2 : vaj y z = true) : vaj x z = true := by
  rw [vl2] at *
  exact decide_eq_true (List.lt_trans (of_decide_eq_true h1) (of_decide_eq_true h2))
theorem v5u {x y : ByteArray} (h : vaj x y = true) : vaj y x = false := by
  cases h2 : vaj y x
  · rfl
  · have := vnj h h2
    rw [vfz] at this
    cases this
theorem vp1 {x y : ByteArray} (h1 : vaj x y = false) (h2 : vaj y x = false) : x = y := by
  rw [vl2] at *
  have a := List.not_lt.1 (of_decide_eq_false h1)
  have b := List.not_lt.1 (of_decide_eq_false h2)
  exact v1b (List.le_antisymm b a)
def Asc (l : List ByteArray) : Prop := l.Pairwise fun a b => vaj a b = true
theorem wc3 : ∀ {l m : List ByteArray}, Asc l → Asc m → (∀ x, x ∈ l ↔ x ∈ m) → l = m
  | [], [], _, _, _ => rfl
  | [], b :: m, _, _, h => by have := (h b).2 (by simp); cases this
  | a :: l, [], _, _, h => by have := (h a).1 (by simp); cases this
  | a :: l, b :: m, hl, hm, h => by
    obtain ⟨h1, h2⟩ := List.pairwise_cons.1 hl
    obtain ⟨h3, h4⟩ := List.pairwise_cons.1 hm
    have hab : a = b := by
      rcases List.mem_cons.1 ((h a).1 (by simp)) with e | e
      · exact e
      · rcases List.mem_cons.1 ((h b).2 (by simp)) with e2 | e2
        · exact e2.symm
        · have x1 := h3 a e
          have x2 := h1 b e2
          rw [v5u x1] at x2
          cases x2
    subst hab
    rw [wc3 h2 h4 (fun x => ⟨fun hx => by
      rcases List.mem_cons.1 ((h x).1 (by simp [hx])) with e | e
      · subst e; have := h1 x hx; rw [vfz] at this; cases this
      · exact e, fun hx => by
      rcases List.mem_cons.1 ((h x).2 (by simp [hx])) with e | e
      · subst e; have := h3 x hx; rw [vfz] at this; cases this
      · exact e⟩)]
def ddT (p : ByteArray) : List ByteArray → List ByteArray
  | [] => []
  | y :: l => bif vas y p then ddT y l else y :: ddT y l
def dd : List ByteArray → List ByteArray
  | [] => []
  | a :: l => a :: ddT a l
theorem wgp : ∀ (l : List ByteArray) (p : ByteArray), (p :: l).Pairwise (fun a b => vaj b a = false) → Asc (p :: ddT p l) ∧ ∀ x, x ∈ p :: ddT p l ↔ x ∈ p :: l
  | [], p, _ => ⟨List.pairwise_singleton _ _, fun x => Iff.rfl⟩
  | y :: l, p, h => by
    obtain ⟨h1, h2⟩ := List.pairwise_cons.1 h
    obtain ⟨i1, i2⟩ := wgp l y h2
    simp only [ddT]
    cases he : vas y p
    · have hne : y ≠ p := fun e => by rw [e, vbl] at he; cases he
      have hlt : vaj p y = true := by
        cases hh : vaj p y
        · exact absurd (vp1 (h1 y (by simp)) hh) hne
        · rfl
      refine ⟨List.pairwise_cons.2 ⟨fun x hx => ?_, i1⟩, fun x => ?_⟩
      · rcases List.mem_cons.1 hx with e | e
        · rw [e]; exact hlt
        · exact vnj hlt ((List.pairwise_cons.1 i1).1 x e)
      · simp only [cond_false, List.mem_cons]
        have := i2 x
        simp only [List.mem_cons] at this
        rw [this]
    · have e := vma he
      subst e
      refine ⟨i1, fun x => ?_⟩
      simp only [cond_true]
      rw [i2 x]
      simp
theorem v9u {l : List ByteArray} (h : l.Pairwise fun a b => vaj b a = false) : Asc (dd l) ∧ ∀ x, x ∈ dd l ↔ x ∈ l := by
  cases l with
  | nil => exact ⟨List.Pairwise.nil, fun x => Iff.rfl⟩
  | cons a l => exact wgp l a h
theorem vov (xs : List ByteArray) : (ve2 xs).Pairwise (fun a b => vaj b a = false) ∧ ∀ x, x ∈ ve2 xs ↔ x ∈ xs := by
  unfold ve2
  constructor
  · rw [List.pairwise_map]
    have := List.pairwise_mergeSort (le := fun x y : List UInt8 => decide (x ≤ y)) (fun a b c h1 h2 => decide_eq_true (List.le_trans (of_decide_eq_true h1) (of_decide_eq_true h2))) (fun a b => by
      rcases List.le_total a b with h | h
      · simp [h]
      · simp [h]) (xs.map fun x => x.data.toList)
    refine this.imp ?_
    intro a b hab
    rw [vl2]
    exact decide_eq_false (List.not_lt.2 (of_decide_eq_true hab))
  · intro x
    have hp := List.mergeSort_perm (xs.map fun x => x.data.toList) (fun x y => decide (x ≤ y))
    simp only [List.mem_map, hp.mem_iff]
    constructor
    · rintro ⟨l, ⟨y, hy, rfl⟩, rfl⟩
      exact hy
    · intro hx
      exact ⟨x.data.toList, ⟨x, hx, rfl⟩, rfl⟩
def insK (out : List ByteArray) (k : ByteArray) : List ByteArray := (out.filter fun y => vaj y k) ++ k :: out.filter fun y => !(vaj y k || vas y k)
theorem v75 {out : List ByteArray} (h : Asc out) (k : ByteArray) : Asc (insK out k) ∧ ∀ x, x ∈ insK out k ↔ x = k ∨ x ∈ out := by
  have gt : ∀ y, (!(vaj y k || vas y k)) = true → vaj k y = true := by
    intro y hy
    simp only [Bool.not_eq_true', Bool.or_eq_false_iff] at hy
    cases hh : vaj k y
    · have := vp1 hy.1 hh
      rw [this, vbl] at hy
      cases hy.2
    · rfl
  constructor
  · unfold insK Asc
    rw [List.pairwise_append]
    refine ⟨List.Pairwise.filter _ h, List.pairwise_cons.2 ⟨fun x hx => gt x (List.mem_filter.1 hx).2, List.Pairwise.filter _ h⟩, fun a ha b hb => ?_⟩
    have ha' := (List.mem_filter.1 ha).2
    rcases List.mem_cons.1 hb with e | e
    · rw [e]; exact ha'
    · exact vnj ha' (gt b (List.mem_filter.1 e).2)
  · intro x
    unfold insK
    simp only [List.mem_append, List.mem_cons, List.mem_filter]
    constructor
    · rintro (⟨h1, _⟩ | h1 | ⟨h1, _⟩)
      · exact .inr h1
      · exact .inl h1
      · exact .inr h1
    · rintro (h1 | h1)
      · exact .inr (.inl h1)
      · cases h2 : vaj x k
        · cases h3 : vas x k
          · exact .inr (.inr ⟨h1, by simp [h2, h3]⟩)
          · exact .inr (.inl (vma h3))
        · exact .inl ⟨h1, rfl⟩
def vpe (r : tRange.D) : List tVersion.D → List ByteArray → List ByteArray
  | [], out => out
  | v :: l, out => vpe r l (bif vcj r v.1 then insK out v.1 else out)
theorem vnu (r : tRange.D) : ∀ (l : List tVersion.D) (out : List ByteArray), Asc out → Asc (vpe r l out) ∧ ∀ x, x ∈ vpe r l out ↔ x ∈ out ∨ (vcj r x = true ∧ x ∈ l.map fun v => v.1)
  | [], out, h => ⟨h, fun x => by simp [vpe]⟩
  | v :: l, out, h => by
    simp only [vpe]
    cases hr : vcj r v.1
    · obtain ⟨i1, i2⟩ := vnu r l out h
      refine ⟨i1, fun x => ?_⟩
      rw [cond_false, i2 x]
      simp only [List.map_cons, List.mem_cons]
      constructor
      · rintro (a | ⟨a, b⟩)
        · exact .inl a
        · exact .inr ⟨a, .inr b⟩
      · rintro (a | ⟨a, b | b⟩)
        · exact .inl a
        · rw [b, hr] at a; cases a
        · exact .inr ⟨a, b⟩
    · obtain ⟨j1, j2⟩ := v75 h v.1
      obtain ⟨i1, i2⟩ := vnu r l (insK out v.1) j1
      refine ⟨i1, fun x => ?_⟩
      rw [cond_true, i2 x, j2 x]
      simp only [List.map_cons, List.mem_cons]
      constructor
      · rintro ((a | a) | ⟨a, b⟩)
        · exact .inr ⟨by rw [a]; exact hr, .inl a⟩
        · exact .inl a
        · exact .inr ⟨a, .inr b⟩
      · rintro (a | ⟨a, b | b⟩)
        · exact .inl (.inr a)
        · exact .inl (.inl b)
        · exact .inr ⟨a, b⟩
def vn4 (l : List tVersion.D) : List ByteArray := dd (ve2 (l.map fun v => v.1))
end
end Go.VE
/- Plain laws: scans. -/
namespace Go.VE
noncomputable section
set_option linter.unusedVariables false
set_option linter.unusedSimpArgs false
set_option maxRecDepth 100000
theorem vo1 {α : Type} (y : α) : ∀ (S : List α) (i : Nat), i < S.length → (S.set i y).take (i + 1) = S.take i ++ [y]
  | [], i, h => by simp at h
  | a :: S, 0, h => by simp
  | a :: S, i + 1, h => by
    have := vo1 y S i (by simpa using h)
    simp only [List.set_cons_succ, List.take_succ_cons, this, List.cons_append]
theorem vto {α : Type} (y : α) : ∀ (S : List α) (i n : Nat), i < n → (S.set i y).drop n = S.drop n
  | [], i, n, h => by simp
  | a :: S, 0, n + 1, h => by simp
  | a :: S, i + 1, n + 1, h => by simpa using vto y S i n (by omega)
  | a :: S, i, 0, h => by omega
theorem vpg {st : Nat} : ∀ (l S : List ByteArray) (i k2 q : Nat) (p : ByteArray), S.drop (st + k2) = l → 1 ≤ k2 → i + 1 ≤ st + k2 → st + k2 ≤ S.length → S.length ≤ 3000000 → l.length < q → S.getD (st + (k2 - 1)) (Ty.zero .str) = p →
    ∃ (i' : Nat) (k' : Int) (S' : List ByteArray), S'.length = S.length ∧ i' ≤ S'.length ∧ S'.take i' = S.take i ++ ddT p l ∧ ∀ K, vae vie q ((i : Int), st, (k2 : Int), S) K = K ((i' : Int), st, k', S')
  | l, S, i, k2, 0, p, _, _, _, _, _, h, _ => by omega
  | [], S, i, k2, q + 1, p, hd, h1, hi, hs, hS, _, hp => by
    have hge : S.length ≤ st + k2 := by
      have := congrArg List.length hd
      rw [List.length_drop] at this
      simp at this
      omega
    refine ⟨i, (k2 : Int), S, rfl, by omega, by simp [ddT], fun K => ?_⟩
    simp only [vae, vie, show ¬ (k2 : Int) < (S.length : Int) - (st : Int) by omega, decide_false, cond_false, Sum.elim_inr]
  | y :: l, S, i, k2, q + 1, p, hd, h1, hi, hs, hS, hq, hp => by
    have hlt := vbu hd
    have hy : S.getD (st + k2) (Ty.zero .str) = y := (van hd).2 _
    have w1 : IntKind.wrap .i64 ((k2 : Int) - 1) = ((k2 - 1 : Nat) : Int) := by rw [vba (by omega) (by omega)]; omega
    have w2 : IntKind.wrap .i64 ((k2 : Int) + 1) = ((k2 + 1 : Nat) : Int) := vb1 (by omega)
    have w3 : IntKind.wrap .i64 ((i : Int) + 1) = ((i + 1 : Nat) : Int) := vb1 (by omega)
    have c1 : (k2 : Int) < (S.length : Int) - (st : Int) := by omega
    have c2 : (0 : Int) ≤ (k2 : Int) := by omega
    have c3 : (0 : Int) ≤ ((k2 - 1 : Nat) : Int) := by omega
    have c4 : ((k2 - 1 : Nat) : Int) < (S.length : Int) - (st : Int) := by omega
    have c5 : (0 : Int) ≤ (i : Int) := by omega
    have c6 : (i : Int) < (S.length : Int) := by omega
    cases he : vas y p
    · obtain ⟨i', k', S', e1, e2, e3, e4⟩ := vpg (st := st) l (S.set i y) (i + 1) (k2 + 1) q y (by rw [vto y S i _ (by omega)]; exact vap hd) (by omega) (by omega) (by rw [List.length_set]; omega) (by rw [List.length_set]; omega) (by simpa using hq)
        (by rw [show st + (k2 + 1 - 1) = st + k2 by omega]; rw [← hy]; simp only [List.getD, List.getElem?_set_ne (show i ≠ st + k2 by omega)])
      refine ⟨i', k', S', by rw [e1, List.length_set], e2, ?_, fun K => ?_⟩
      · rw [e3, vo1 y S i (by omega), List.append_assoc]
        simp only [ddT, he, cond_false, List.singleton_append]
      · simp only [vae, vie, c1, c2, c3, c4, c5, c6, w1, decide_true, cond_true, and_self, if_true, Int.toNat_natCast, hy, hp, he, Bool.not_false, Sum.elim_inl, w2, w3]
        exact e4 K
    · have hyp := vma he
      obtain ⟨i', k', S', e1, e2, e3, e4⟩ := vpg (st := st) l S i (k2 + 1) q y (vap hd) (by omega) (by omega) (by omega) hS (by simpa using hq) (by rw [show st + (k2 + 1 - 1) = st + k2 by omega]; exact hy)
      refine ⟨i', k', S', e1, e2, ?_, fun K => ?_⟩
      · rw [e3]
        simp only [ddT, he, cond_true]
      · simp only [vae, vie, c1, c2, c3, c4, w1, decide_true, cond_true, and_self, if_true, Int.toNat_natCast, hy, hp, he, Bool.not_true, cond_false, Sum.elim_inl, w2]
        exact e4 K
theorem vyl {T : List ByteArray} (hT : T.length ≤ 3000000) {r : List ByteArray} : ∀ (l : List ByteArray) (i q : Nat), T.drop i = l → 1 ≤ i → i ≤ T.length → l.length < q →
    (T = T.take i ++ ddT (T.getD (i - 1) (Ty.zero .str)) l ∧ ∃ j : Int, ∀ K, vae vgh q ((i : Int), T, r) K = K (.inl (j, T, r))) ∨
      ∃ j : Int, ∀ K, vae vgh q ((i : Int), T, r) K = K (.inr (j, T.take i ++ ddT (T.getD (i - 1) (Ty.zero .str)) l))
  | l, i, 0, _, _, _, h => by omega
  | [], i, q + 1, hd, h1, hi, _ => by
    have hge := vax hd
    left
    have : T.take i = T := List.take_of_length_le (by omega)
    refine ⟨by rw [this]; simp [ddT], (i : Int), fun K => ?_⟩
    simp only [vae, vgh, hge, decide_false, cond_false, Sum.elim_inr]
  | y :: l, i, q + 1, hd, h1, hi, hq => by
    have hlt := vbu hd
    have hy : T.getD i (Ty.zero .str) = y := (van hd).2 _
    have w1 : IntKind.wrap .i64 ((i : Int) - 1) = ((i - 1 : Nat) : Int) := by rw [vba (by omega) (by omega)]; omega
    have w2 : IntKind.wrap .i64 ((i : Int) + 1) = ((i + 1 : Nat) : Int) := vb1 (by omega)
    have c1 : (i : Int) < (T.length : Int) := by omega
    have c2 : (0 : Int) ≤ (i : Int) := by omega
    have c3 : (0 : Int) ≤ ((i - 1 : Nat) : Int) := by omega
    have c4 : ((i - 1 : Nat) : Int) < (T.length : Int) := by omega
    have c5 : (i : Int) ≤ (T.length : Int) := by omega
    generalize hp : T.getD (i - 1) (Ty.zero .str) = p
    cases he : vas y p
    · have htk : T.take (i + 1) = T.take i ++ [y] := by
        rw [List.take_succ_eq_append_getElem hlt]
        congr 2
        rw [← hy]
        simp [List.getD, hlt]
      have ih := vyl hT (r := r) l (i + 1) q (vap hd) (by omega) (by omega) (by simpa using hq)
      rw [show i + 1 - 1 = i by omega, hy, htk, List.append_assoc, List.singleton_append] at ih
      have hdd : ddT p (y :: l) = y :: ddT y l := by simp only [ddT, he, cond_false]
      rw [hdd]
      rcases ih with ⟨e, j, hj⟩ | ⟨j, hj⟩
      · left
        refine ⟨e, j, fun K => ?_⟩
        simp only [vae, vgh, c1, c2, c3, c4, w1, decide_true, cond_true, and_self, if_true, Int.toNat_natCast, hy, hp, he, cond_false, Sum.elim_inl, w2]
        exact hj K
      · right
        refine ⟨j, fun K => ?_⟩
        simp only [vae, vgh, c1, c2, c3, c4, w1, decide_true, cond_true, and_self, if_true, Int.toNat_natCast, hy, hp, he, cond_false, Sum.elim_inl, w2]
        exact hj K
    · right
      obtain ⟨i', k', S', e1, e2, e3, e4⟩ := vpg (st := i) l T i 1 Fuel y (vap hd) (by omega) (by omega) (by omega) hT (by have := vcc; have := congrArg List.length hd; rw [List.length_drop] at this; simp only [List.length_cons] at this; omega) (by rw [show i + (1 - 1) = i by omega]; exact hy)
      have hdd : ddT p (y :: l) = ddT y l := by simp only [ddT, he, cond_true]
      rw [hdd]
      refine ⟨(i' : Int), fun K => ?_⟩
      have e4' : ∀ K, vae vie Fuel ((i : Int), i, (1 : Int), T) K = K ((i' : Int), i, k', S') := e4
      have d1 : (0 : Int) ≤ (i' : Int) := by omega
      have d2 : (i' : Int) ≤ (S'.length : Int) := by omega
      have d3 : (i' : Int) ≤ ((S'.take i' ++ List.replicate (S'.length - i') (Ty.zero .str)).length : Int) := by
        rw [List.length_append, List.length_take, List.length_replicate]; omega
      have d4 : (S'.take i' ++ List.replicate (S'.length - i') (Ty.zero .str)).take i' = S'.take i' := by
        rw [List.take_append_of_le_length (by rw [List.length_take]; omega), List.take_take, Nat.min_self]
      rw [← e3]
      simp only [vae, vgh, c1, c2, c3, c4, c5, w1, decide_true, cond_true, and_self, if_true, Int.toNat_natCast, hy, hp, he, e4', d1, d2, d3, d4, Sum.elim_inr]
theorem vhe {T : List ByteArray} (hT : T.length ≤ 3000000) : (∀ k, vok T k = k (.inl (dd T))) ∨ (∀ k, vok T k = k (.inr (dd T))) := by
  rw [wc0]
  unfold v9s
  match T, hT with
  | [], _ => exact .inl fun k => rfl
  | [a], _ => exact .inl fun k => rfl
  | a :: b :: l, hT =>
    have hn : ¬ (((a :: b :: l).length : Int) < 2) := by simp only [List.length_cons]; omega
    have h := vyl hT (r := []) (b :: l) 1 Fuel rfl (by omega) (by simp) (by have := vcc; simp only [List.length_cons] at hT ⊢; omega)
    have hd : (a :: b :: l).take 1 ++ ddT ((a :: b :: l).getD (1 - 1) (Ty.zero .str)) (b :: l) = dd (a :: b :: l) := rfl
    rw [hd] at h
    have h1 : ((1 : Nat) : Int) = 1 := rfl
    rw [h1] at h
    simp only [hn, decide_false, cond_false]
    rcases h with ⟨e, j, hj⟩ | ⟨j, hj⟩
    · left
      intro k
      rw [hj]
      simp only [Sum.elim_inl]
      rw [← e]
    · right
      intro k
      rw [hj]
      rfl
theorem vxu {u0} : ∀ (l : List tVersion.D) (s : List ByteArray) (i : Nat), s.length + l.length ≤ 3000000 → ∃ j : Int, ∀ k, vh5 u0 l s i k = k (j, s ++ l.map fun v => v.1)
  | [], s, i, _ => ⟨_, fun k => by simp [vh5]; rfl⟩
  | y :: l, s, i, h => by
    simp only [List.length_cons] at h
    obtain ⟨j, hj⟩ := vxu (u0 := u0) l (s ++ [y.1]) (i + 1) (by simp; omega)
    refine ⟨j, fun k => ?_⟩
    have hm : s.length + [y.1].length ≤ VE.maxLen := by show _ ≤ 4294967296; simp; omega
    simp only [vh5, if_pos hm, hj, List.map_cons, List.append_assoc, List.singleton_append]
theorem woy {l : List tVersion.D} (hl : l.length ≤ 1048576) (k) : vro l k = k (vn4 l) := by
  rw [wsf (by omega)]
  unfold wei
  obtain ⟨j, hj⟩ := vxu (u0 := l) l [] 0 (by simp; omega)
  have hs : ∀ xs : List ByteArray, xs.length ≤ 1000000000 → ∀ k, vn9 xs k = k (ve2 xs) := fun xs h k => by
    rw [v6s]
    unfold vv2
    rw [if_pos h]
  rw [hj]
  simp only [List.nil_append]
  rw [hs _ (by rw [List.length_map]; omega)]
  rcases vhe (T := ve2 (l.map fun v => v.1)) (by rw [vem, List.length_map]; omega) with h | h <;> rw [h] <;> rfl
end
end Go.VE
/- Plain laws: what scans see. -/
namespace Go.VE
noncomputable section
set_option linter.unusedVariables false
set_option linter.unusedSimpArgs false
set_option maxRecDepth 100000
theorem v5g {u0 : List tVersion.D} {u1 : Int} {ky r1 r2 : ByteArray} {out : List ByteArray} (ho : out.length ≤ 1048576) : ∀ (l acc : List ByteArray) (j q : Nat), out.drop j = l → l.length < q → acc.length + l.length ≤ 3000000 → ∃ j' : Int, ∀ K,
    vae vkw q (u0, u1, ky, (j : Int), r1, r2, out, acc) K = K (u0, u1, ky, j', r1, r2, out, acc ++ l.filter fun y => vaj y ky)
  | l, acc, j, 0, _, h, _ => by omega
  | [], acc, j, q + 1, hd, _, _ => by
    have hge := vax hd
    refine ⟨(j : Int), fun K => ?_⟩
    simp only [vae, vkw, hge, decide_false, cond_false, Sum.elim_inr, List.filter_nil, List.append_nil]
  | y :: l, acc, j, q + 1, hd, hq, ha => by
    simp only [List.length_cons] at ha
    have hlt := vbu hd
    have hy : out.getD j (Ty.zero .str) = y := (van hd).2 _
    have w : IntKind.wrap .i64 ((j : Int) + 1) = ((j + 1 : Nat) : Int) := vb1 (by omega)
    have c1 : (j : Int) < (out.length : Int) := by omega
    have c2 : (0 : Int) ≤ (j : Int) := by omega
    have hm : acc.length + [y].length ≤ VE.maxLen := by show _ ≤ 4294967296; simp; omega
    cases he : vaj y ky
    · obtain ⟨j', hj⟩ := v5g (u0 := u0) (u1 := u1) (ky := ky) (r1 := r1) (r2 := r2) ho l acc (j + 1) q (vap hd) (by simpa using hq) (by omega)
      refine ⟨j', fun K => ?_⟩
      simp only [vae, vkw, c1, c2, decide_true, cond_true, and_self, if_true, Int.toNat_natCast, hy, he, cond_false, Sum.elim_inl, w, List.filter_cons]
      exact hj K
    · obtain ⟨j', hj⟩ := v5g (u0 := u0) (u1 := u1) (ky := ky) (r1 := r1) (r2 := r2) ho l (acc ++ [y]) (j + 1) q (vap hd) (by simpa using hq) (by simp; omega)
      refine ⟨j', fun K => ?_⟩
      simp only [vae, vkw, c1, c2, decide_true, cond_true, and_self, if_true, Int.toNat_natCast, hy, he, if_pos hm, Sum.elim_inl, w, List.filter_cons]
      rw [hj K, List.append_assoc, List.singleton_append]
theorem v4g {u0 : List tVersion.D} {u1 : Int} {ky r1 r2 : ByteArray} {out : List ByteArray} (ho : out.length ≤ 1048576) : ∀ (l acc : List ByteArray) (j q : Nat), out.drop j = l → l.length < q → acc.length + l.length ≤ 3000000 → ∃ j' : Int, ∀ K,
    vae vi5 q (u0, u1, ky, (j : Int), r1, r2, out, acc) K = K (u0, u1, ky, j', r1, r2, out, acc ++ l.filter fun y => !(vaj y ky || vas y ky))
  | l, acc, j, 0, _, h, _ => by omega
  | [], acc, j, q + 1, hd, _, _ => by
    have hge := vax hd
    refine ⟨(j : Int), fun K => ?_⟩
    simp only [vae, vi5, hge, decide_false, cond_false, Sum.elim_inr, List.filter_nil, List.append_nil]
  | y :: l, acc, j, q + 1, hd, hq, ha => by
    simp only [List.length_cons] at ha
    have hlt := vbu hd
    have hy : out.getD j (Ty.zero .str) = y := (van hd).2 _
    have w : IntKind.wrap .i64 ((j : Int) + 1) = ((j + 1 : Nat) : Int) := vb1 (by omega)
    have c1 : (j : Int) < (out.length : Int) := by omega
    have c2 : (0 : Int) ≤ (j : Int) := by omega
    have hm : acc.length + [y].length ≤ VE.maxLen := by show _ ≤ 4294967296; simp; omega
    cases he : (!(vaj y ky || vas y ky))
    · obtain ⟨j', hj⟩ := v4g (u0 := u0) (u1 := u1) (ky := ky) (r1 := r1) (r2 := r2) ho l acc (j + 1) q (vap hd) (by simpa using hq) (by omega)
      refine ⟨j', fun K => ?_⟩
      simp only [vae, vi5, c1, c2, decide_true, cond_true, and_self, if_true, Int.toNat_natCast, hy, he, cond_false, Sum.elim_inl, w, List.filter_cons]
      exact hj K
    · obtain ⟨j', hj⟩ := v4g (u0 := u0) (u1 := u1) (ky := ky) (r1 := r1) (r2 := r2) ho l (acc ++ [y]) (j + 1) q (vap hd) (by simpa using hq) (by simp; omega)
      refine ⟨j', fun K => ?_⟩
      simp only [vae, vi5, c1, c2, decide_true, cond_true, and_self, if_true, Int.toNat_natCast, hy, he, if_pos hm, Sum.elim_inl, w, List.filter_cons]
      rw [hj K, List.append_assoc, List.singleton_append]
/-- An ascending list of keys out of others is no longer than they. -/
theorem vlu : ∀ {l m : List ByteArray}, Asc l → (∀ x ∈ l, x ∈ m) → l.length ≤ m.length := by
  intro l m h hm
  have nd : l.Nodup := by
    refine List.Pairwise.imp ?_ h
    intro a b hab e
    rw [e, vfz] at hab
    cases hab
  exact List.Nodup.length_le_of_subset nd hm
theorem v4b {u0 : List tVersion.D} (hu : u0.length ≤ 1048576) {r : tRange.D} : ∀ (l : List tVersion.D) (out : List ByteArray) (i q : Nat), u0.drop i = l → l.length < q → Asc out → (∀ x ∈ out, x ∈ u0.map fun v => v.1) → ∃ j : Int, ∀ K,
    vae vjm q (u0, (i : Int), r.1, r.2, out) K = K (u0, j, r.1, r.2, vpe r l out)
  | l, out, i, 0, _, h, _, _ => by omega
  | [], out, i, q + 1, hd, _, _, _ => by
    have hge := vax hd
    refine ⟨(i : Int), fun K => ?_⟩
    simp only [vae, vjm, hge, decide_false, cond_false, Sum.elim_inr, vpe]
  | y :: l, out, i, q + 1, hd, hq, ha, hsub => by
    have hlt := vbu hd
    have hy : rd (Ty.zero tVersion) u0 (i : Int) = y := (van hd).1 _
    have w : IntKind.wrap .i64 ((i : Int) + 1) = ((i + 1 : Nat) : Int) := vb1 (by omega)
    have c1 : (i : Int) < (u0.length : Int) := by omega
    have c2 : (0 : Int) ≤ (i : Int) := by omega
    have hol : out.length ≤ 1048576 := by
      have := vlu ha hsub
      rw [List.length_map] at this
      omega
    have hin : ∀ k, vwk (r.1, r.2) y.1 k = k (vcj r y.1) := fun k => wo7 r y.1 k
    simp only [vpe]
    cases hr : vcj r y.1
    · obtain ⟨j, hj⟩ := v4b hu (r := r) l out (i + 1) q (vap hd) (by simpa using hq) ha hsub
      refine ⟨j, fun K => ?_⟩
      simp only [vae, vjm, c1, c2, decide_true, cond_true, and_self, if_true, hy, hin, hr, Bool.not_false, Sum.elim_inl, w, cond_false]
      exact hj K
    · obtain ⟨j1, h1⟩ := v5g (u0 := u0) (u1 := (i : Int)) (ky := y.1) (r1 := r.1) (r2 := r.2) (out := out) (by omega) out [] 0 Fuel rfl (Nat.lt_of_lt_of_le (by omega) vcc) (by simp; omega)
      have hfl := List.length_filter_le (fun z => vaj z y.1) out
      obtain ⟨j2, h2⟩ := v4g (u0 := u0) (u1 := (i : Int)) (ky := y.1) (r1 := r.1) (r2 := r.2) (out := out) (by omega) out ((out.filter fun z => vaj z y.1) ++ [y.1]) 0 Fuel rfl (Nat.lt_of_lt_of_le (by omega) vcc) (by simp; omega)
      have hz : ((0 : Nat) : Int) = 0 := rfl
      rw [hz] at h1 h2
      obtain ⟨a1, a2⟩ := v75 ha y.1
      obtain ⟨j, hj⟩ := v4b hu (r := r) l (insK out y.1) (i + 1) q (vap hd) (by simpa using hq) a1 (fun x hx => by
        rcases (a2 x).1 hx with e | e
        · rw [e]; exact List.mem_map.2 ⟨y, vd4 hd, rfl⟩
        · exact hsub x e)
      refine ⟨j, fun K => ?_⟩
      have hm : (out.filter fun z => vaj z y.1).length + [y.1].length ≤ VE.maxLen := by show _ ≤ 4294967296; simp only [List.length_singleton]; omega
      simp only [vae, vjm, c1, c2, decide_true, cond_true, and_self, if_true, hy, hin, hr, Bool.not_true, cond_false, h1, List.nil_append, if_pos hm, h2, Sum.elim_inl, w]
      have e : (out.filter fun z => vaj z y.1) ++ [y.1] ++ (out.filter fun z => !(vaj z y.1 || vas z y.1)) = insK out y.1 := by unfold insK; rw [List.append_assoc, List.singleton_append]
      rw [e]
      exact hj K
theorem wov {l : List tVersion.D} (hl : l.length ≤ 1048576) (r : tRange.D) (k) : vyj l r k = k (vpe r l []) := by
  rw [wg6]
  unfold v7j
  obtain ⟨j, hj⟩ := v4b hl (r := r) l [] 0 Fuel rfl (Nat.lt_of_lt_of_le (by omega) vcc) List.Pairwise.nil (fun x h => by cases h)
  have hz : ((0 : Nat) : Int) = 0 := rfl
  rw [hz] at hj
  rw [hj]
theorem filterMap_filter' {α β : Type} (p : α → Bool) (f : α → Option β) : ∀ l : List α, l.filterMap (fun x => bif p x then f x else none) = (l.filter p).filterMap f
  | [] => rfl
  | x :: l => by
    simp only [List.filterMap_cons, List.filter_cons, filterMap_filter' p f l]
    cases p x <;> rfl
theorem vqp {l : List tVersion.D} (r : tRange.D) : (vpe r l []).length ≤ l.length := by
  obtain ⟨k1, k2⟩ := vnu r l [] List.Pairwise.nil
  have := vlu (m := l.map fun v => v.1) k1 (fun x hx => by
    rcases (k2 x).1 hx with e | e
    · cases e
    · exact e.2)
  rw [List.length_map] at this
  exact this
theorem v0t (l : List tVersion.D) : (vn4 l).length ≤ l.length := by
  obtain ⟨s1, s2⟩ := vov (l.map fun v => v.1)
  obtain ⟨d1, d2⟩ := v9u s1
  have := vlu (m := l.map fun v => v.1) d1 (fun x hx => (s2 x).1 ((d2 x).1 hx))
  rw [List.length_map] at this
  exact this
end
end Go.VE
/- Plain laws: marks of pairs and versions. -/
namespace Go.VE
noncomputable section
set_option linter.unusedVariables false
set_option linter.unusedSimpArgs false
set_option maxRecDepth 100000
theorem vmh : ∀ (l pre : List tRange.D) (c : Int) (q : Nat), 0 ≤ c → c + 2 * l.length ≤ 9000000 → pre.length + l.length ≤ 1048576 → l.length < q →
    ∃ j : Int, ∀ k, vae vm2 q (c, (pre.length : Int), pre ++ l) k = k (c + 2 * l.length, j, pre ++ vfo c l)
  | [], pre, c, q, h0, hc, hl, hq => by
    obtain ⟨q, rfl⟩ : ∃ r, q = r + 1 := ⟨q - 1, by omega⟩
    refine ⟨pre.length, fun k => ?_⟩
    simp only [vae, vm2, List.append_nil, Int.lt_irrefl, decide_false, cond_false, Sum.elim_inr, List.length_nil, vfo]
    simp
  | y :: l, pre, c, q, h0, hc, hl, hq => by
    obtain ⟨q, rfl⟩ : ∃ r, q = r + 1 := ⟨q - 1, by omega⟩
    simp only [List.length_cons] at hc hl hq
    obtain ⟨j, hj⟩ := vmh l (pre ++ [(vh0 c, vh0 (c + 1))]) (c + 2) q (by omega) (by omega) (by rw [List.length_append, List.length_singleton]; omega) (by omega)
    refine ⟨j, fun k => ?_⟩
    have hlt : (pre.length : Int) < ((pre ++ y :: l).length : Int) := by rw [List.length_append, List.length_cons]; omega
    have hlt2 : ∀ v : tRange.D, (pre.length : Int) < ((pre ++ v :: l).length : Int) := fun v => by rw [List.length_append, List.length_cons]; omega
    have w1 : IntKind.wrap .i64 (c + 1) = c + 1 := vba (by omega) (by omega)
    have w2 : IntKind.wrap .i64 (c + 1 + 1) = c + 2 := by rw [vba (by omega) (by omega)]; omega
    have w3 : IntKind.wrap .i64 ((pre.length : Int) + 1) = ((pre.length + 1 : Nat) : Int) := vb1 (by omega)
    have hp : (0 : Int) ≤ (pre.length : Int) := Int.natCast_nonneg _
    have hj' := hj k
    rw [List.length_append, List.length_singleton, List.append_assoc, List.singleton_append, List.append_assoc, List.singleton_append] at hj'
    simp only [vae, vm2, hlt, decide_true, cond_true, vay (show c ≤ 10000000 by omega), w1, vay (show c + 1 ≤ 10000000 by omega), Int.toNat_natCast, vtk, vo5, hlt2, hp, and_self, if_true, w2, w3, Sum.elim_inl]
    rw [hj']
    simp only [vfo, List.length_cons]
    congr 2
    push_cast
    omega
theorem vmq {u0 u2} : ∀ (l : List tRange.D) (c : Int) (i : Nat), 0 ≤ c → c + 2 * l.length ≤ 9000000 → ∃ j : Int, ∀ k, vin u0 u2 (vfo c l) c i k = k (.inr (c + 2 * l.length, j))
  | [], c, i, _, _ => ⟨_, fun k => by simp only [vfo, vin, List.length_nil]; simp; rfl⟩
  | y :: l, c, i, h0, hc => by
    simp only [List.length_cons] at hc
    obtain ⟨j, hj⟩ := vmq (u0 := u0) (u2 := u2) l (c + 2) (i + 1) (by omega) (by omega)
    have w1 : IntKind.wrap .i64 (c + 1) = c + 1 := vba (by omega) (by omega)
    have w2 : IntKind.wrap .i64 (c + 1 + 1) = c + 2 := by rw [vba (by omega) (by omega)]; omega
    refine ⟨j, fun k => ?_⟩
    simp only [vfo, vin, vay (show c ≤ 10000000 by omega), w1, vay (show c + 1 ≤ 10000000 by omega), vbl, Bool.not_true, cond_false, w2, hj, List.length_cons]
    congr 3
    push_cast
    omega
end
end Go.VE
/- Plain laws: what an own scan sees. -/
namespace Go.VE
noncomputable section
set_option linter.unusedVariables false
set_option linter.unusedSimpArgs false
set_option maxRecDepth 100000
def asV (w : tWrite.D) : tVersion.D := (w.1, ((⟨#[]⟩ : ByteArray), (false, (0 : Int))))
theorem vwm {u0 u2 u3 u4 u5 u6 u7 u8 u9 u10 u11} : ∀ (l : List tWrite.D) (s : List tVersion.D) (i : Nat), s.length + l.length ≤ 3000000 → ∃ j : Int, ∀ k, vik u0 u2 u3 u4 u5 u6 u7 u8 u9 u10 u11 l s i k = k (j, s ++ l.map asV)
  | [], s, i, _ => ⟨_, fun k => by simp [vik]; rfl⟩
  | y :: l, s, i, h => by
    simp only [List.length_cons] at h
    obtain ⟨j, hj⟩ := vwm (u0 := u0) (u2 := u2) (u3 := u3) (u4 := u4) (u5 := u5) (u6 := u6) (u7 := u7) (u8 := u8) (u9 := u9) (u10 := u10) (u11 := u11) l (s ++ [asV y]) (i + 1) (by simp; omega)
    refine ⟨j, fun k => ?_⟩
    have hm : s.length + [asV y].length ≤ VE.maxLen := by show _ ≤ 4294967296; simp; omega
    have e := hj k
    rw [List.append_assoc, List.singleton_append] at e
    simp only [vik, List.map_cons]
    rw [← e]
    exact if_pos hm
theorem vwr {u0 u1 u4 u5 u6 u7 u8 u9 u10 u11 u12 u13} : ∀ (l : List tWrite.D) (s : List ByteArray) (i : Nat), s.length + l.length ≤ 3000000 → ∃ j : Int, ∀ k, vh9 u0 u1 u4 u5 u6 u7 u8 u9 u10 u11 u12 u13 l s i k = k (j, s ++ l.map fun w => w.1)
  | [], s, i, _ => ⟨_, fun k => by simp [vh9]; rfl⟩
  | y :: l, s, i, h => by
    simp only [List.length_cons] at h
    obtain ⟨j, hj⟩ := vwr (u0 := u0) (u1 := u1) (u4 := u4) (u5 := u5) (u6 := u6) (u7 := u7) (u8 := u8) (u9 := u9) (u10 := u10) (u11 := u11) (u12 := u12) (u13 := u13) l (s ++ [y.1]) (i + 1) (by simp; omega)
    refine ⟨j, fun k => ?_⟩
    have hm : s.length + [y.1].length ≤ VE.maxLen := by show _ ≤ 4294967296; simp; omega
    simp only [vh9, if_pos hm, hj, List.map_cons, List.append_assoc, List.singleton_append]
def ownF (t : tTxn.D) (l : List tVersion.D) (k : ByteArray) : Option tRange.D := bif (vc2 t l k).2 then some (k, (vc2 t l k).1) else none
def ownI (t : tTxn.D) (l : List tVersion.D) (r : tRange.D) (k : ByteArray) : Option tRange.D := bif (vc2 t l k).2 && vcj r k then some (k, (vc2 t l k).1) else none
theorem vru {t : tTxn.D} (ht : tTxn.wt t ≤ 1048576) {u0 : List tVersion.D} (hu : u0.length ≤ 1048576) {ks : List ByteArray} (hk : ks.length ≤ 1048576) : ∀ (l : List ByteArray) (out : List tRange.D) (i q : Nat), ks.drop i = l → l.length < q → out.length + l.length ≤ 3000000 → ∃ j : Int, ∀ K,
    vae vh3 q (u0, (i : Int), t.1, t.2.1, t.2.2.1, t.2.2.2.1, t.2.2.2.2.1, t.2.2.2.2.2.1, t.2.2.2.2.2.2.1, t.2.2.2.2.2.2.2, out, ks) K = K (u0, j, t.1, t.2.1, t.2.2.1, t.2.2.2.1, t.2.2.2.2.1, t.2.2.2.2.2.1, t.2.2.2.2.2.2.1, t.2.2.2.2.2.2.2, out ++ l.filterMap (ownF t u0), ks)
  | l, out, i, 0, _, h, _ => by omega
  | [], out, i, q + 1, hd, _, _ => by
    have hge := vax hd
    refine ⟨(i : Int), fun K => ?_⟩
    simp only [vae, vh3, hge, decide_false, cond_false, Sum.elim_inr, List.filterMap_nil, List.append_nil]
  | y :: l, out, i, q + 1, hd, hq, ha => by
    simp only [List.length_cons] at ha
    have hlt := vbu hd
    have hy : ks.getD i (Ty.zero .str) = y := (van hd).2 _
    have w : IntKind.wrap .i64 ((i : Int) + 1) = ((i + 1 : Nat) : Int) := vb1 (by omega)
    have c1 : (i : Int) < (ks.length : Int) := by omega
    have c2 : (0 : Int) ≤ (i : Int) := by omega
    cases he : (vc2 t u0 y).2
    · obtain ⟨j, hj⟩ := vru ht hu hk l out (i + 1) q (vap hd) (by simpa using hq) (by omega)
      refine ⟨j, fun K => ?_⟩
      simp only [vae, vh3, vcs, c1, c2, decide_true, cond_true, and_self, if_true, Int.toNat_natCast, hy, wgn ht hu, he, cond_false, Sum.elim_inl, w, List.filterMap_cons, ownF]
      exact hj K
    · have hm : out.length + [(y, (vc2 t u0 y).1)].length ≤ VE.maxLen := by show _ ≤ 4294967296; simp; omega
      obtain ⟨j, hj⟩ := vru ht hu hk l (out ++ [(y, (vc2 t u0 y).1)]) (i + 1) q (vap hd) (by simpa using hq) (by simp; omega)
      refine ⟨j, fun K => ?_⟩
      simp only [vae, vh3, vcs, c1, c2, decide_true, cond_true, and_self, if_true, Int.toNat_natCast, hy, wgn ht hu, he, if_pos hm, Sum.elim_inl, w, List.filterMap_cons, ownF]
      rw [hj K, List.append_assoc, List.singleton_append]
theorem vny {t : tTxn.D} (ht : tTxn.wt t ≤ 1048576) {r : tRange.D} {u0 : List tVersion.D} (hu : u0.length ≤ 1048576) {ks : List ByteArray} (hk : ks.length ≤ 2097152) : ∀ (l : List ByteArray) (out : List tRange.D) (i q : Nat), ks.drop i = l → l.length < q → out.length + l.length ≤ 3000000 → ∃ j : Int, ∀ K,
    vae vet q (u0, (ks.length : Int), (i : Int), t.1, t.2.1, t.2.2.1, t.2.2.2.1, t.2.2.2.2.1, t.2.2.2.2.2.1, t.2.2.2.2.2.2.1, t.2.2.2.2.2.2.2, r.1, r.2, out, ks) K = K (u0, (ks.length : Int), j, t.1, t.2.1, t.2.2.1, t.2.2.2.1, t.2.2.2.2.1, t.2.2.2.2.2.1, t.2.2.2.2.2.2.1, t.2.2.2.2.2.2.2, r.1, r.2, out ++ l.filterMap (ownI t u0 r), ks)
  | l, out, i, 0, _, h, _ => by omega
  | [], out, i, q + 1, hd, _, _ => by
    have hge := vax hd
    refine ⟨(i : Int), fun K => ?_⟩
    simp only [vae, vet, hge, decide_false, cond_false, Sum.elim_inr, List.filterMap_nil, List.append_nil]
  | y :: l, out, i, q + 1, hd, hq, ha => by
    simp only [List.length_cons] at ha
    have hlt := vbu hd
    have hy : ks.getD i (Ty.zero .str) = y := (van hd).2 _
    have w : IntKind.wrap .i64 ((i : Int) + 1) = ((i + 1 : Nat) : Int) := vb1 (by omega)
    have c1 : (i : Int) < (ks.length : Int) := by omega
    have c2 : (0 : Int) ≤ (i : Int) := by omega
    have hin : ∀ k, vxb r y k = k (vcj r y) := fun k => wp6 r y k
    cases he : (vc2 t u0 y).2
    · obtain ⟨j, hj⟩ := vny ht (r := r) hu hk l out (i + 1) q (vap hd) (by simpa using hq) (by omega)
      refine ⟨j, fun K => ?_⟩
      simp only [vae, vet, vcs, c1, c2, decide_true, cond_true, and_self, if_true, Int.toNat_natCast, hy, v3f ht hu, he, cond_false, Sum.elim_inl, w, List.filterMap_cons, ownI, Bool.false_and]
      exact hj K
    · cases hr : vcj r y
      · obtain ⟨j, hj⟩ := vny ht (r := r) hu hk l out (i + 1) q (vap hd) (by simpa using hq) (by omega)
        refine ⟨j, fun K => ?_⟩
        simp only [vae, vet, vcs, c1, c2, decide_true, cond_true, and_self, if_true, Int.toNat_natCast, hy, v3f ht hu, he, hin, hr, cond_false, Sum.elim_inl, w, List.filterMap_cons, ownI, Bool.true_and]
        exact hj K
      · have hm : out.length + [(y, (vc2 t u0 y).1)].length ≤ VE.maxLen := by show _ ≤ 4294967296; simp; omega
        obtain ⟨j, hj⟩ := vny ht (r := r) hu hk l (out ++ [(y, (vc2 t u0 y).1)]) (i + 1) q (vap hd) (by simpa using hq) (by simp; omega)
        refine ⟨j, fun K => ?_⟩
        simp only [vae, vet, vcs, c1, c2, decide_true, cond_true, and_self, if_true, Int.toNat_natCast, hy, v3f ht hu, he, hin, hr, if_pos hm, Sum.elim_inl, w, List.filterMap_cons, ownI, Bool.true_and]
        rw [hj K, List.append_assoc, List.singleton_append]
def vnm (t : tTxn.D) (l : List tVersion.D) : List ByteArray := dd (ve2 (vn4 l ++ t.2.2.2.2.2.1.map fun w => w.1))
def vhx (t : tTxn.D) (l : List tVersion.D) (r : tRange.D) : List tRange.D := (vpe r (l ++ t.2.2.2.2.2.1.map asV) []).filterMap (ownF t l)
theorem v15 (t : tTxn.D) (l : List tVersion.D) (r : tRange.D) : (vnm t l).filter (fun k => vcj r k) = vpe r (l ++ t.2.2.2.2.2.1.map asV) [] := by
  obtain ⟨s1, s2⟩ := vov (vn4 l ++ t.2.2.2.2.2.1.map fun w => w.1)
  obtain ⟨d1, d2⟩ := v9u s1
  obtain ⟨e1, e2⟩ := vov (l.map fun v => v.1)
  obtain ⟨f1, f2⟩ := v9u e1
  obtain ⟨k1, k2⟩ := vnu r (l ++ t.2.2.2.2.2.1.map asV) [] List.Pairwise.nil
  refine wc3 (List.Pairwise.filter _ d1) k1 (fun x => ?_)
  have hk : x ∈ vn4 l ↔ x ∈ l.map fun v => v.1 := by unfold vn4; rw [f2 x, e2 x]
  have hm : ((t.2.2.2.2.2.1.map asV).map fun v => v.1) = t.2.2.2.2.2.1.map fun w => w.1 := by rw [List.map_map]; rfl
  rw [List.mem_filter, k2 x]
  unfold vnm
  rw [d2 x, s2 x, List.mem_append, hk, List.map_append, hm, List.mem_append]
  constructor
  · rintro ⟨a, b⟩; exact .inr ⟨b, a⟩
  · rintro (a | ⟨a, b⟩)
    · cases a
    · exact ⟨b, a⟩
theorem v84 (t : tTxn.D) (l : List tVersion.D) (r : tRange.D) : (vnm t l).filterMap (ownI t l r) = vhx t l r := by
  unfold vhx
  rw [← v15, ← filterMap_filter']
  congr 1
  funext k
  unfold ownI ownF
  cases vcj r k <;> cases (vc2 t l k).2 <;> rfl
theorem vtg (t : tTxn.D) (l : List tVersion.D) (r : tRange.D) : (vhx t l r).length ≤ l.length + t.2.2.2.2.2.1.length := by
  unfold vhx
  have := vqp (l := l ++ t.2.2.2.2.2.1.map asV) r
  rw [List.length_append, List.length_map] at this
  exact Nat.le_trans (List.length_filterMap_le _ _) this
theorem wp3 {t : tTxn.D} (ht : tTxn.wt t ≤ 1048576) {l : List tVersion.D} (hl : l.length + t.2.2.2.2.2.1.length ≤ 1048576) (r : tRange.D) (k) : vxk t l r k = k (vhx t l r) := by
  rw [wqb (by omega)]
  unfold wet
  obtain ⟨j0, h0⟩ := vwm (u0 := l) (u2 := t.1) (u3 := t.2.1) (u4 := t.2.2.1) (u5 := t.2.2.2.1) (u6 := t.2.2.2.2.1) (u7 := t.2.2.2.2.2.1) (u8 := t.2.2.2.2.2.2.1) (u9 := t.2.2.2.2.2.2.2) (u10 := r.1) (u11 := r.2) t.2.2.2.2.2.1 l 0 (by omega)
  have hka := vqp (l := l ++ t.2.2.2.2.2.1.map asV) r
  have hal : (l ++ t.2.2.2.2.2.1.map asV).length ≤ 1048576 := by rw [List.length_append, List.length_map]; omega
  obtain ⟨j, hj⟩ := vru ht (u0 := l) (by omega) (ks := vpe r (l ++ t.2.2.2.2.2.1.map asV) []) (by omega) _ [] 0 Fuel rfl (Nat.lt_of_lt_of_le (by rw [List.drop_zero]; omega) vcc) (by simp; omega)
  have hz : ((0 : Nat) : Int) = 0 := rfl
  rw [hz] at hj
  rw [if_pos (by show _ ≤ 4294967296; simp; omega)]
  simp only [List.nil_append, h0, wov hal, hj, List.drop_zero]
  rfl
theorem wpr {t : tTxn.D} (ht : tTxn.wt t ≤ 1048576) {l : List tVersion.D} (hl : l.length + t.2.2.2.2.2.1.length ≤ 1048576) (r : tRange.D) (k) : vx6 t l r k = k (vhx t l r) := by
  rw [wrv (by omega)]
  unfold wd2
  have hki := v0t l
  obtain ⟨j0, h0⟩ := vwr (u0 := l) (u1 := t.2.2.2.2.2.1) (u4 := t.1) (u5 := t.2.1) (u6 := t.2.2.1) (u7 := t.2.2.2.1) (u8 := t.2.2.2.2.1) (u9 := t.2.2.2.2.2.1) (u10 := t.2.2.2.2.2.2.1) (u11 := t.2.2.2.2.2.2.2) (u12 := r.1) (u13 := r.2) t.2.2.2.2.2.1 (vn4 l) 0 (by omega)
  have hs : ∀ xs : List ByteArray, xs.length ≤ 1000000000 → ∀ k, vn9 xs k = k (ve2 xs) := fun xs h k => by
    rw [v6s]
    unfold vv2
    rw [if_pos h]
  have hkl : (vn4 l ++ t.2.2.2.2.2.1.map fun w => w.1).length ≤ 1048576 := by rw [List.length_append, List.length_map]; omega
  have hsl : (ve2 (vn4 l ++ t.2.2.2.2.2.1.map fun w => w.1)).length ≤ 1048576 := by rw [vem]; exact hkl
  have hol : (vnm t l).length ≤ 1048576 := by
    obtain ⟨s1, s2⟩ := vov (vn4 l ++ t.2.2.2.2.2.1.map fun w => w.1)
    obtain ⟨d1, d2⟩ := v9u s1
    have := vlu (m := vn4 l ++ t.2.2.2.2.2.1.map fun w => w.1) d1 (fun x hx => (s2 x).1 ((d2 x).1 hx))
    unfold vnm
    omega
  obtain ⟨j, hj⟩ := vny ht (r := r) (u0 := l) (by omega) (ks := vnm t l) (by omega) _ [] 0 Fuel rfl (Nat.lt_of_lt_of_le (by rw [List.drop_zero]; omega) vcc) (by simp; omega)
  have hz : ((0 : Nat) : Int) = 0 := rfl
  rw [hz] at hj
  simp only [woy (show l.length ≤ 1048576 by omega), h0, hs _ (show (vn4 l ++ t.2.2.2.2.2.1.map fun w => w.1).length ≤ 1000000000 by omega)]
  have e : dd (ve2 (vn4 l ++ t.2.2.2.2.2.1.map fun w => w.1)) = vnm t l := rfl
  rcases vhe (T := ve2 (vn4 l ++ t.2.2.2.2.2.1.map fun w => w.1)) (by omega) with h | h
  · rw [h, e]
    simp only [Sum.elim_inl, hj, List.nil_append, List.drop_zero]
    exact congrArg k (v84 t l r)
  · rw [h, e]
    simp only [Sum.elim_inr, hj, List.nil_append, List.drop_zero]
    exact congrArg k (v84 t l r)
end
end Go.VE
/- Plain laws: marks of lists of transactions, of bases and engines that own all their slices. -/
namespace Go.VE
noncomputable section
set_option linter.unusedVariables false
set_option linter.unusedSimpArgs false
set_option maxRecDepth 100000
theorem vqu {l : List tRange.D} (hl : l.length ≤ 1048576) {c : Int} (h0 : 0 ≤ c) (hc : c + 2 * l.length ≤ 9000000) (k) : v2p c l k = k (c + 2 * l.length, vfo c l) := by
  rw [wgh]
  unfold v9c
  obtain ⟨j, hj⟩ := vku l [] c Fuel h0 hc (by simpa using hl) (by have := vcc; omega)
  simp only [List.length_nil, List.nil_append] at hj
  rw [show ((0 : Int)) = ((0 : Nat) : Int) from rfl, hj]
theorem vqw {l : List tWrite.D} (hl : l.length ≤ 1048576) {c : Int} (h0 : 0 ≤ c) (hc : c + 3 * l.length ≤ 9000000) (k) : v3c c l k = k (c + 3 * l.length, vpt c l) := by
  rw [wcx]
  unfold v9w
  obtain ⟨j, hj⟩ := vlo l [] c Fuel h0 hc (by simpa using hl) (by have := vcc; omega)
  simp only [List.length_nil, List.nil_append] at hj
  rw [show ((0 : Int)) = ((0 : Nat) : Int) from rfl, hj]
/-- How many marks one takes. -/
def vjn (t : tTxn.D) : Int := 6 + 2 * (t.2.2.2.2.1.length : Int) + 3 * (t.2.2.2.2.2.1.length : Int)
def cntT : List tTxn.D → Int
  | [] => 0
  | y :: l => vjn y + cntT l
def v60 (c : Int) (t : tTxn.D) : tTxn.D :=
  (c, (c + 1, (c + 2, (c + 3, (vfo (c + 4) t.2.2.2.2.1, (vpt (c + 4 + 2 * (t.2.2.2.2.1.length : Int)) t.2.2.2.2.2.1,
    ((c + 4 + 2 * (t.2.2.2.2.1.length : Int) + 3 * (t.2.2.2.2.2.1.length : Int)).tmod 3 == 0, vh0 (c + 4 + 2 * (t.2.2.2.2.1.length : Int) + 3 * (t.2.2.2.2.2.1.length : Int) + 1))))))))
def vnk : Int → List tTxn.D → List tTxn.D
  | _, [] => []
  | c, y :: l => v60 c y :: vnk (c + vjn y) l
theorem v2v (t : tTxn.D) : 6 ≤ vjn t := by unfold vjn; omega
theorem vc7 : ∀ l : List tTxn.D, 0 ≤ cntT l
  | [] => Int.le_refl _
  | y :: l => by have := v2v y; have := vc7 l; simp only [cntT]; omega
theorem vp5 : ∀ (c : Int) (l : List tTxn.D), (vnk c l).length = l.length
  | _, [] => rfl
  | c, y :: l => by simp [vnk, vp5 (c + vjn y) l]
theorem wfv : ∀ (l : List tTxn.D), cntT l ≤ 6 * (l.length + wtL tTxn l : Nat)
  | [] => by simp [cntT, wtL]
  | y :: l => by
    have h := wfv l
    have hw := vuc y
    have h1 : (Ty.slice tRange).wt y.2.2.2.2.1 = y.2.2.2.2.1.length + wtL tRange y.2.2.2.2.1 := Ty.wt_slice _ _
    have h2 : (Ty.slice tWrite).wt y.2.2.2.2.2.1 = y.2.2.2.2.2.1.length + wtL tWrite y.2.2.2.2.2.1 := Ty.wt_slice _ _
    simp only [cntT, vjn, List.length_cons, wtL]
    push_cast at h ⊢
    omega
theorem voq : ∀ (l pre : List tTxn.D) (c : Int) (q : Nat), (∀ y ∈ l, y.2.2.2.2.1.length ≤ 1048576 ∧ y.2.2.2.2.2.1.length ≤ 1048576) → 0 ≤ c → c + cntT l ≤ 9000000 → pre.length + l.length ≤ 1048576 → l.length < q →
    ∃ j : Int, ∀ k, vae vjb q (c, (pre.length : Int), pre ++ l) k = k (c + cntT l, j, pre ++ vnk c l)
  | [], pre, c, q, hw, h0, hc, hl, hq => by
    obtain ⟨q, rfl⟩ : ∃ r, q = r + 1 := ⟨q - 1, by omega⟩
    refine ⟨pre.length, fun k => ?_⟩
    simp only [vae, vjb, List.append_nil, Int.lt_irrefl, decide_false, cond_false, Sum.elim_inr, vnk, cntT]
    simp
  | y :: l, pre, c, q, hw, h0, hc, hl, hq => by
    obtain ⟨q, rfl⟩ : ∃ r, q = r + 1 := ⟨q - 1, by omega⟩
    simp only [List.length_cons] at hl hq
    obtain ⟨hy1, hy2⟩ := hw y (by simp)
    have hp1 := vc7 l
    simp only [cntT] at hc
    obtain ⟨j, hj⟩ := voq l (pre ++ [v60 c y]) (c + vjn y) q (fun z hz => hw z (by simp [hz])) (by have := v2v y; omega) (by omega) (by rw [List.length_append, List.length_singleton]; omega) (by omega)
    refine ⟨j, fun k => ?_⟩
    have hlt : ∀ v : tTxn.D, (pre.length : Int) < ((pre ++ v :: l).length : Int) := fun v => by rw [List.length_append, List.length_cons]; omega
    have hcy : vjn y = 6 + 2 * (y.2.2.2.2.1.length : Int) + 3 * (y.2.2.2.2.2.1.length : Int) := rfl
    have w1 : IntKind.wrap .i64 (c + 1) = c + 1 := vba (by omega) (by omega)
    have w2 : IntKind.wrap .i64 (c + 1 + 1) = c + 2 := by rw [vba (by omega) (by omega)]; omega
    have w3 : IntKind.wrap .i64 (c + 2 + 1) = c + 3 := by rw [vba (by omega) (by omega)]; omega
    have w4 : IntKind.wrap .i64 (c + 3 + 1) = c + 4 := by rw [vba (by omega) (by omega)]; omega
    have w5 : IntKind.wrap .i64 (c + 4 + 2 * (y.2.2.2.2.1.length : Int) + 3 * (y.2.2.2.2.2.1.length : Int) + 1) = c + 4 + 2 * (y.2.2.2.2.1.length : Int) + 3 * (y.2.2.2.2.2.1.length : Int) + 1 := vba (by omega) (by omega)
    have w6 : IntKind.wrap .i64 (c + 4 + 2 * (y.2.2.2.2.1.length : Int) + 3 * (y.2.2.2.2.2.1.length : Int) + 1 + 1) = c + vjn y := by rw [vba (by omega) (by omega)]; omega
    have w7 : IntKind.wrap .i64 ((pre.length : Int) + 1) = ((pre.length + 1 : Nat) : Int) := vb1 (by omega)
    have hp : (0 : Int) ≤ (pre.length : Int) := Int.natCast_nonneg _
    have hj' := hj k
    rw [List.length_append, List.length_singleton, List.append_assoc, List.singleton_append, List.append_assoc, List.singleton_append] at hj'
    simp only [vae, vjb, hlt, decide_true, cond_true, hp, and_self, if_true, Int.toNat_natCast, vtk, vo5, vdt, vdn, vdv, vdj,
      vdo, vdi, vdr, w1, w2, w3, w4, w7,
      vqu hy1 (show 0 ≤ c + 4 by omega) (show c + 4 + 2 * (y.2.2.2.2.1.length : Int) ≤ 9000000 by omega),
      vqw hy2 (show 0 ≤ c + 4 + 2 * (y.2.2.2.2.1.length : Int) by omega) (show c + 4 + 2 * (y.2.2.2.2.1.length : Int) + 3 * (y.2.2.2.2.2.1.length : Int) ≤ 9000000 by omega), w5,
      vay (show c + 4 + 2 * (y.2.2.2.2.1.length : Int) + 3 * (y.2.2.2.2.2.1.length : Int) + 1 ≤ 10000000 by omega), w6, Sum.elim_inl]
    refine Eq.trans (b := vae vjb q (c + vjn y, ((pre.length + 1 : Nat) : Int), pre ++ v60 c y :: l) k) rfl ?_
    rw [hj']
    simp only [vnk, cntT]
    congr 2
    omega
theorem vf5 {l : List tTxn.D} (hw : ∀ y ∈ l, y.2.2.2.2.1.length ≤ 1048576 ∧ y.2.2.2.2.2.1.length ≤ 1048576) (hl : l.length ≤ 1048576) {c : Int} (h0 : 0 ≤ c) (hc : c + cntT l ≤ 9000000) (k) :
    vr7 c l k = k (c + cntT l, vnk c l) := by
  rw [wgv]
  unfold v8r
  obtain ⟨j, hj⟩ := voq l [] c Fuel hw h0 hc (by simpa using hl) (by have := vcc; omega)
  simp only [List.length_nil, List.nil_append] at hj
  rw [show ((0 : Int)) = ((0 : Nat) : Int) from rfl, hj]
end
end Go.VE
/- Plain laws: what is marked in versions, transactions, bases and engines is held. -/
namespace Go.VE
noncomputable section
set_option linter.unusedVariables false
set_option linter.unusedSimpArgs false
set_option maxRecDepth 100000
def vpb : Int → List tVersion.D → List tVersion.D
  | _, [] => []
  | c, y :: l => (vh0 c, (vh0 (c + 1), ((c + 2).tmod 3 == 0, c + 3))) :: vpb (c + 4) l
theorem vp3 : ∀ (c : Int) (l : List tVersion.D), (vpb c l).length = l.length
  | _, [] => rfl
  | c, y :: l => by simp [vpb, vp3 (c + 4) l]
theorem vey : ∀ (l pre : List tVersion.D) (c : Int) (q : Nat), 0 ≤ c → c + 4 * l.length ≤ 9000000 → pre.length + l.length ≤ 1048576 → l.length < q →
    ∃ j : Int, ∀ k, vae vlg q (c, (pre.length : Int), pre ++ l) k = k (c + 4 * l.length, j, pre ++ vpb c l)
  | [], pre, c, q, h0, hc, hl, hq => by
    obtain ⟨q, rfl⟩ : ∃ r, q = r + 1 := ⟨q - 1, by omega⟩
    refine ⟨pre.length, fun k => ?_⟩
    simp only [vae, vlg, List.append_nil, Int.lt_irrefl, decide_false, cond_false, Sum.elim_inr, List.length_nil, vpb]
    simp
  | y :: l, pre, c, q, h0, hc, hl, hq => by
    obtain ⟨q, rfl⟩ : ∃ r, q = r + 1 := ⟨q - 1, by omega⟩
    simp only [List.length_cons] at hc hl hq
    obtain ⟨j, hj⟩ := vey l (pre ++ [(vh0 c, (vh0 (c + 1), ((c + 2).tmod 3 == 0, c + 3)))]) (c + 4) q (by omega) (by omega) (by rw [List.length_append, List.length_singleton]; omega) (by omega)
    refine ⟨j, fun k => ?_⟩
    have hlt : ∀ v : tVersion.D, (pre.length : Int) < ((pre ++ v :: l).length : Int) := fun v => by rw [List.length_append, List.length_cons]; omega
    have w1 : IntKind.wrap .i64 (c + 1) = c + 1 := vba (by omega) (by omega)
    have w2 : IntKind.wrap .i64 (c + 1 + 1) = c + 2 := by rw [vba (by omega) (by omega)]; omega
    have w3 : IntKind.wrap .i64 (c + 2 + 1) = c + 3 := by rw [vba (by omega) (by omega)]; omega
    have w4 : IntKind.wrap .i64 (c + 3 + 1) = c + 4 := by rw [vba (by omega) (by omega)]; omega
    have w5 : IntKind.wrap .i64 ((pre.length : Int) + 1) = ((pre.length + 1 : Nat) : Int) := vb1 (by omega)
    have hp : (0 : Int) ≤ (pre.length : Int) := Int.natCast_nonneg _
    have hj' := hj k
    rw [List.length_append, List.length_singleton, List.append_assoc, List.singleton_append, List.append_assoc, List.singleton_append] at hj'
    simp only [vae, vlg, hlt, decide_true, cond_true, vay (show c ≤ 10000000 by omega), w1, vay (show c + 1 ≤ 10000000 by omega), Int.toNat_natCast, vtk, vo5, hp, and_self, if_true, w2, w3, w4, w5, Sum.elim_inl]
    refine Eq.trans (b := vae vlg q (c + 4, ((pre.length + 1 : Nat) : Int), pre ++ (vh0 c, (vh0 (c + 1), ((c + 2).tmod 3 == 0, c + 3))) :: l) k) rfl ?_
    rw [hj']
    simp only [vpb, List.length_cons]
    congr 2
    push_cast
    omega
theorem voc {l : List tVersion.D} (hl : l.length ≤ 1048576) {c : Int} (h0 : 0 ≤ c) (hc : c + 4 * l.length ≤ 9000000) (k) : v07 c l k = k (c + 4 * l.length, vpb c l) := by
  rw [wej]
  unfold v9n
  obtain ⟨j, hj⟩ := vey l [] c Fuel h0 hc (by simpa using hl) (by have := vcc; omega)
  simp only [List.length_nil, List.nil_append] at hj
  rw [show ((0 : Int)) = ((0 : Nat) : Int) from rfl, hj]
theorem vhq {u0 u2} : ∀ (l : List tVersion.D) (c : Int) (i : Nat), 0 ≤ c → c + 4 * l.length ≤ 9000000 → ∃ j : Int, ∀ k, vig u0 u2 (vpb c l) c i k = k (.inr (c + 4 * l.length, j))
  | [], c, i, _, _ => ⟨_, fun k => by simp only [vpb, vig, List.length_nil]; simp; rfl⟩
  | y :: l, c, i, h0, hc => by
    simp only [List.length_cons] at hc
    obtain ⟨j, hj⟩ := vhq (u0 := u0) (u2 := u2) l (c + 4) (i + 1) (by omega) (by omega)
    have w1 : IntKind.wrap .i64 (c + 1) = c + 1 := vba (by omega) (by omega)
    have w2 : IntKind.wrap .i64 (c + 1 + 1) = c + 2 := by rw [vba (by omega) (by omega)]; omega
    have w3 : IntKind.wrap .i64 (c + 2 + 1) = c + 3 := by rw [vba (by omega) (by omega)]; omega
    have w4 : IntKind.wrap .i64 (c + 3 + 1) = c + 4 := by rw [vba (by omega) (by omega)]; omega
    refine ⟨j, fun k => ?_⟩
    simp only [vpb, vig, vay (show c ≤ 10000000 by omega), w1, vay (show c + 1 ≤ 10000000 by omega), vbl, Bool.not_true, cond_false, w2, w3, w4, beq_self_eq_true, bne_self_eq_false, hj, List.length_cons]
    congr 3
    push_cast
    omega
theorem vua {l : List tVersion.D} (hl : l.length ≤ 1048576) {c : Int} (h0 : 0 ≤ c) (hc : c + 4 * l.length ≤ 9000000) (k) : vxf (vpb c l) c k = k (c + 4 * (l.length : Int)) := by
  rw [wrx (by rw [vp3]; omega)]
  unfold wec
  obtain ⟨j, hj⟩ := vhq (u0 := vpb c l) (u2 := 0) l c 0 h0 hc
  rw [hj]; rfl
theorem v0b {l : List tRange.D} (hl : l.length ≤ 1048576) {c : Int} (h0 : 0 ≤ c) (hc : c + 2 * l.length ≤ 9000000) (k) : vrb (vfo c l) c k = k (c + 2 * (l.length : Int)) := by
  rw [wqo (by rw [vki]; omega)]
  unfold wdz
  obtain ⟨j, hj⟩ := vje (u0 := vfo c l) (u2 := 0) l c 0 h0 hc
  rw [hj]; rfl
theorem vzg {l : List tWrite.D} (hl : l.length ≤ 1048576) {c : Int} (h0 : 0 ≤ c) (hc : c + 3 * l.length ≤ 9000000) (k) : vst (vpt c l) c k = k (c + 3 * (l.length : Int)) := by
  rw [wsm (by rw [vqj]; omega)]
  unfold wf0
  obtain ⟨j, hj⟩ := vjs (u0 := vpt c l) (u2 := 0) l c 0 h0 hc
  rw [hj]; rfl
theorem vo3 {u0 u2} : ∀ (l : List tTxn.D) (c : Int) (i : Nat), (∀ y ∈ l, y.2.2.2.2.1.length ≤ 1048576 ∧ y.2.2.2.2.2.1.length ≤ 1048576) → 0 ≤ c → c + cntT l ≤ 9000000 → ∃ j : Int, ∀ k, vir u0 u2 (vnk c l) c i k = k (.inr (c + cntT l, j))
  | [], c, i, _, _, _ => ⟨_, fun k => by simp only [vnk, vir, cntT]; simp; rfl⟩
  | y :: l, c, i, hw, h0, hc => by
    obtain ⟨hy1, hy2⟩ := hw y (by simp)
    have hp1 := vc7 l
    simp only [cntT] at hc
    have hcy : vjn y = 6 + 2 * (y.2.2.2.2.1.length : Int) + 3 * (y.2.2.2.2.2.1.length : Int) := rfl
    obtain ⟨j, hj⟩ := vo3 (u0 := u0) (u2 := u2) l (c + vjn y) (i + 1) (fun z hz => hw z (by simp [hz])) (by omega) (by omega)
    have w1 : IntKind.wrap .i64 (c + 1) = c + 1 := vba (by omega) (by omega)
    have w2 : IntKind.wrap .i64 (c + 1 + 1) = c + 2 := by rw [vba (by omega) (by omega)]; omega
    have w3 : IntKind.wrap .i64 (c + 2 + 1) = c + 3 := by rw [vba (by omega) (by omega)]; omega
    have w4 : IntKind.wrap .i64 (c + 3 + 1) = c + 4 := by rw [vba (by omega) (by omega)]; omega
    have w5 : IntKind.wrap .i64 (c + 4 + 2 * (y.2.2.2.2.1.length : Int) + 3 * (y.2.2.2.2.2.1.length : Int) + 1) = c + 4 + 2 * (y.2.2.2.2.1.length : Int) + 3 * (y.2.2.2.2.2.1.length : Int) + 1 := vba (by omega) (by omega)
    have w6 : IntKind.wrap .i64 (c + 4 + 2 * (y.2.2.2.2.1.length : Int) + 3 * (y.2.2.2.2.2.1.length : Int) + 1 + 1) = c + vjn y := by rw [vba (by omega) (by omega)]; omega
    have n1 : decide (c + 4 + 2 * (y.2.2.2.2.1.length : Int) < 0) = false := decide_eq_false (by omega)
    have n2 : decide (c + 4 + 2 * (y.2.2.2.2.1.length : Int) + 3 * (y.2.2.2.2.2.1.length : Int) < 0) = false := decide_eq_false (by omega)
    refine ⟨j, fun k => ?_⟩
    simp only [vnk, v60, vir, w1, w2, w3, w4, bne_self_eq_false, cond_false, v0b hy1 (show 0 ≤ c + 4 by omega) (show c + 4 + 2 * (y.2.2.2.2.1.length : Int) ≤ 9000000 by omega), n1,
      vzg hy2 (show 0 ≤ c + 4 + 2 * (y.2.2.2.2.1.length : Int) by omega) (show c + 4 + 2 * (y.2.2.2.2.1.length : Int) + 3 * (y.2.2.2.2.2.1.length : Int) ≤ 9000000 by omega), n2, beq_self_eq_true, Bool.not_true, w5,
      vay (show c + 4 + 2 * (y.2.2.2.2.1.length : Int) + 3 * (y.2.2.2.2.2.1.length : Int) + 1 ≤ 10000000 by omega), vbl, w6, hj, cntT]
    congr 3
    omega
theorem vmt {l : List tTxn.D} (hw : ∀ y ∈ l, y.2.2.2.2.1.length ≤ 1048576 ∧ y.2.2.2.2.2.1.length ≤ 1048576) (hl : l.length ≤ 1048576) {c : Int} (h0 : 0 ≤ c) (hc : c + cntT l ≤ 9000000) (k) :
    vqc (vnk c l) c k = k (c + cntT l) := by
  rw [wqu (by rw [vp5]; omega)]
  unfold wgi
  obtain ⟨j, hj⟩ := vo3 (u0 := vnk c l) (u2 := 0) l c 0 hw h0 hc
  rw [hj]; rfl
/-- A list of transactions small enough to be marked. -/
def OkTs (l : List tTxn.D) : Prop := (∀ y ∈ l, y.2.2.2.2.1.length ≤ 1048576 ∧ y.2.2.2.2.2.1.length ≤ 1048576) ∧ l.length ≤ 1048576
theorem v5i {l : List tTxn.D} (h : (Ty.slice tTxn).wt l ≤ 1048576) : OkTs l :=
  ⟨fun y hy => by
    have := vbz hy h
    rw [vuc] at this
    exact ⟨vb8 (T := tRange) (by omega), vb8 (T := tWrite) (by omega)⟩, vb8 h⟩
theorem v3j {l : List tTxn.D} : cntT l ≤ 6 * ((Ty.slice tTxn).wt l : Nat) := by
  have := wfv l
  rw [Ty.wt_slice]; exact this
/-- How many marks a base takes. -/
def cntB (b : tBase.D) : Int := 4 * (b.1.length : Int) + cntT b.2.1 + cntT b.2.2.1
def OkBs (b : tBase.D) : Prop := b.1.length ≤ 1048576 ∧ OkTs b.2.1 ∧ OkTs b.2.2.1
def vnx (c : Int) (b : tBase.D) : tBase.D := (vpb c b.1, (vnk (c + 4 * b.1.length) b.2.1, (vnk (c + 4 * b.1.length + cntT b.2.1) b.2.2.1, b.2.2.2)))
theorem v0p (b : tBase.D) : 0 ≤ cntB b := by unfold cntB; have := vc7 b.2.1; have := vc7 b.2.2.1; omega
theorem wpd {b : tBase.D} (h : tBase.wt b ≤ 1048576) : OkBs b := by
  rw [vww] at h
  exact ⟨vb8 (T := tVersion) (by omega), v5i (by omega), v5i (by omega)⟩
theorem wpm (b : tBase.D) : cntB b ≤ 6 * (tBase.wt b : Nat) := by
  have h1 := v3j (l := b.2.1)
  have h2 := v3j (l := b.2.2.1)
  have h3 : (Ty.slice tVersion).wt b.1 = b.1.length + wtL tVersion b.1 := Ty.wt_slice _ _
  have h4 := vww b
  unfold cntB
  omega
theorem v3z {b : tBase.D} (hb : OkBs b) {c : Int} (h0 : 0 ≤ c) (hc : c + cntB b ≤ 9000000) (a0 a1 : Int) (k) :
    v2e a0 a1 c b.1 b.2.1 b.2.2.1 k = k (c + cntB b, (vnx c b).1, (vnx c b).2.1, (vnx c b).2.2.1) := by
  obtain ⟨hb1, hb2, hb3⟩ := hb
  have p1 := vc7 b.2.1
  have p2 := vc7 b.2.2.1
  have hcb : cntB b = 4 * (b.1.length : Int) + cntT b.2.1 + cntT b.2.2.1 := rfl
  rw [wdl]
  unfold v74
  simp only [voc hb1 h0 (by omega), vf5 hb2.1 hb2.2 (show 0 ≤ c + 4 * (b.1.length : Int) by omega) (by omega), vf5 hb3.1 hb3.2 (show 0 ≤ c + 4 * (b.1.length : Int) + cntT b.2.1 by omega) (by omega), vnx]
  congr 2
  omega
theorem v5t {b : tBase.D} (hb : OkBs b) {c : Int} (h0 : 0 ≤ c) (hc : c + cntB b ≤ 9000000) (z : Int × Int) (k) :
    v1z ((vnx c b).1, ((vnx c b).2.1, ((vnx c b).2.2.1, z))) c k = k (c + cntB b) := by
  obtain ⟨hb1, hb2, hb3⟩ := hb
  have p1 := vc7 b.2.1
  have p2 := vc7 b.2.2.1
  have hcb : cntB b = 4 * (b.1.length : Int) + cntT b.2.1 + cntT b.2.2.1 := rfl
  have n1 : decide (c + 4 * (b.1.length : Int) < 0) = false := decide_eq_false (by omega)
  have n2 : decide (c + 4 * (b.1.length : Int) + cntT b.2.1 < 0) = false := decide_eq_false (by omega)
  have n3 : decide (c + 4 * (b.1.length : Int) + cntT b.2.1 + cntT b.2.2.1 < 0) = false := decide_eq_false (by omega)
  rw [wgl]
  unfold v6v
  simp only [vnx, vua hb1 h0 (by omega), n1, cond_false, vmt hb2.1 hb2.2 (show 0 ≤ c + 4 * (b.1.length : Int) by omega) (by omega), n2, vmt hb3.1 hb3.2 (show 0 ≤ c + 4 * (b.1.length : Int) + cntT b.2.1 by omega) (by omega), n3]
  congr 1
  omega
def cntE (e : tEngine.D) : Int := cntB e.1 + cntT e.2
def OkE (e : tEngine.D) : Prop := OkBs e.1 ∧ OkTs e.2
def vi0 (c : Int) (e : tEngine.D) : tEngine.D := (vnx c e.1, vnk (c + cntB e.1) e.2)
theorem v8s {e : tEngine.D} (h : tEngine.wt e ≤ 1048576) : OkE e := by
  rw [ve4] at h
  exact ⟨wpd (by omega), v5i (by omega)⟩
theorem v64 (e : tEngine.D) : 0 ≤ cntE e := by unfold cntE; have := v0p e.1; have := vc7 e.2; omega
theorem wow (e : tEngine.D) : cntE e ≤ 6 * (tEngine.wt e : Nat) := by
  have h1 := wpm e.1
  have h2 := v3j (l := e.2)
  have h4 := ve4 e
  unfold cntE
  omega
theorem vof {e : tEngine.D} (hb : OkE e) {c : Int} (h0 : 0 ≤ c) (hc : c + cntE e ≤ 9000000) (a0 a1 : Int) (k) :
    vo6 a0 a1 c e.1.1 e.1.2.1 e.1.2.2.1 e.2 k = k (c + cntE e, (vi0 c e).1.1, (vi0 c e).1.2.1, (vi0 c e).1.2.2.1, (vi0 c e).2) := by
  obtain ⟨hb1, hb2⟩ := hb
  have p1 := v0p e.1
  have p2 := vc7 e.2
  have hcb : cntE e = cntB e.1 + cntT e.2 := rfl
  rw [wew]
  unfold v6h
  simp only [v3z hb1 h0 (by omega), vf5 hb2.1 hb2.2 (show 0 ≤ c + cntB e.1 by omega) (by omega), vi0]
  congr 2
  omega
theorem vy8 {e : tEngine.D} (hb : OkE e) {c : Int} (h0 : 0 ≤ c) (hc : c + cntE e ≤ 9000000) (z : Int × Int) (k) :
    vn5 (((vi0 c e).1.1, ((vi0 c e).1.2.1, ((vi0 c e).1.2.2.1, z))), (vi0 c e).2) c k = k (c + cntE e) := by
  obtain ⟨hb1, hb2⟩ := hb
  have p1 := v0p e.1
  have p2 := vc7 e.2
  have hcb : cntE e = cntB e.1 + cntT e.2 := rfl
  have n1 : decide (c + cntB e.1 < 0) = false := decide_eq_false (by omega)
  have n2 : decide (c + cntB e.1 + cntT e.2 < 0) = false := decide_eq_false (by omega)
  rw [whe]
  unfold v9j
  simp only [vi0, v5t hb1 h0 (by omega), n1, cond_false, vmt hb2.1 hb2.2 (show 0 ≤ c + cntB e.1 by omega) (by omega), n2]
  congr 1
  omega
end
end Go.VE
/- Plain laws of engines: copies, comparisons, marks where lists are short; GetKey. -/
namespace Go.VE
noncomputable section
set_option linter.unusedVariables false
set_option linter.unusedSimpArgs false
set_option maxRecDepth 100000
/-! ### copies -/
theorem v1a {u0 : List tTxn.D} : ∀ (l acc : List tTxn.D) (i : Nat), (∀ y ∈ l, y.2.2.2.2.1.length ≤ 1048576 ∧ y.2.2.2.2.2.1.length ≤ 1048576) → acc.length + l.length ≤ 1048576 →
    ∃ j : Int, ∀ K, vhy u0 l acc i K = K (j, acc ++ l)
  | [], acc, i, _, _ => ⟨_, fun K => by simp only [vhy, List.append_nil]; rfl⟩
  | y :: l, acc, i, hw, h => by
    simp only [List.length_cons] at h
    obtain ⟨j, hj⟩ := v1a (u0 := u0) l (acc ++ [y]) (i + 1) (fun z hz => hw z (by simp [hz])) (by rw [List.length_append, List.length_singleton]; omega)
    have hy := hw y (by simp)
    refine ⟨j, fun K => ?_⟩
    simp only [vhy, wcw hy.1 hy.2, vcs]
    rw [if_pos (by rw [List.length_singleton]; have : VE.maxLen = 4294967296 := rfl; omega), hj]
    simp only [List.append_assoc, List.singleton_append]
theorem v4h {l : List tTxn.D} (h : OkTs l) (k) : vqi l k = k l := by
  rw [wsk (by have := h.2; omega)]
  obtain ⟨j, hj⟩ := v1a (u0 := l) l [] 0 h.1 (by simpa using h.2)
  simp only [wf2, hj, List.nil_append]
theorem v1q {u0 : List tTxn.D} : ∀ (l acc : List tTxn.D) (i : Nat), (∀ y ∈ l, y.2.2.2.2.1.length ≤ 1048576 ∧ y.2.2.2.2.2.1.length ≤ 1048576) → acc.length + l.length ≤ 1048576 →
    ∃ j : Int, ∀ K, vit u0 l acc i K = K (j, acc ++ l)
  | [], acc, i, _, _ => ⟨_, fun K => by simp only [vit, List.append_nil]; rfl⟩
  | y :: l, acc, i, hw, h => by
    simp only [List.length_cons] at h
    obtain ⟨j, hj⟩ := v1q (u0 := u0) l (acc ++ [y]) (i + 1) (fun z hz => hw z (by simp [hz])) (by rw [List.length_append, List.length_singleton]; omega)
    have hy := hw y (by simp)
    refine ⟨j, fun K => ?_⟩
    simp only [vit, wef hy.1 hy.2, vcs]
    rw [if_pos (by rw [List.length_singleton]; have : VE.maxLen = 4294967296 := rfl; omega), hj]
    simp only [List.append_assoc, List.singleton_append]
theorem v4n {l : List tTxn.D} (h : OkTs l) (k) : vpz l k = k l := by
  rw [wr8 (by have := h.2; omega)]
  obtain ⟨j, hj⟩ := v1q (u0 := l) l [] 0 h.1 (by simpa using h.2)
  simp only [wcf, hj, List.nil_append]
theorem wpp {e : tEngine.D} (h : OkE e) (k) : v17 e k = k (e.1.2.2.2.1, e.1.2.2.2.2, e.1.1, e.1.2.1, e.1.2.2.1, e.2) := by
  rw [wg2]
  unfold v6l
  rw [wdr]
  unfold v8x
  rw [if_pos (by have h1 := h.1.1; have : VE.maxLen = 4294967296 := rfl; simp only [List.length_nil]; omega)]
  simp only [v4h h.1.2.1, v4h h.1.2.2, v4h h.2, List.nil_append]
theorem woo {e : tEngine.D} (h : OkE e) (k) : v1e e k = k (e.1.2.2.2.1, e.1.2.2.2.2, e.1.1, e.1.2.1, e.1.2.2.1, e.2) := by
  rw [wft]
  unfold v8u
  rw [wck]
  unfold v6y
  rw [if_pos (by have h1 := h.1.1; have : VE.maxLen = 4294967296 := rfl; omega)]
  simp only [v4n h.1.2.1, v4n h.1.2.2, v4n h.2]
theorem vmm {u0 : List tTxn.D} (hu : OkTs u0) {u2 : Bool} : ∀ (l : List tTxn.D) (i : Nat), u0.drop i = l → ∃ z, ∀ k, vf9 u0 u0 u2 l i k = k (.inr z)
  | [], i, h => ⟨_, fun k => rfl⟩
  | y :: l, i, h => by
    have hlt := vbu h
    obtain ⟨z, hz⟩ := vmm hu (u2 := u2) l (i + 1) (vap h)
    have hy := (van h).1
    have hm := hu.1 y (vd4 h)
    refine ⟨z, fun k => ?_⟩
    simp only [vf9]
    rw [if_pos ⟨by omega, by omega⟩]
    simp only [hy, vxv y hm.1 hm.2, Bool.not_true, cond_false, hz]
theorem vt0 {x : List tTxn.D} (h : OkTs x) (k) : vob x x k = k true := by
  rw [won (by have := h.2; omega)]
  obtain ⟨z, hz⟩ := vmm h (u2 := false) x 0 rfl
  simp [v90, hz]
theorem v4e {e : tEngine.D} (h : OkE e) (k) : vft e e k = k true := by
  rw [v7k]
  unfold v1g
  rw [v8h]
  simp [v19, vkb h.1.1, vt0 h.1.2.1, vt0 h.1.2.2, vt0 h.2]
theorem wie {l : List tTxn.D} (h : OkTs l) {y : tTxn.D} (hy : y.2.2.2.2.1.length ≤ 1048576 ∧ y.2.2.2.2.2.1.length ≤ 1048576) (i : Nat) : OkTs (l.set i y) :=
  ⟨fun z hz => by rcases List.mem_or_eq_of_mem_set hz with hz | rfl; exact h.1 z hz; exact hy, by rw [List.length_set]; exact h.2⟩
theorem v7u : ∀ (l : List tTxn.D) (i : Nat) (y z : tTxn.D), l[i]? = some z → cntT (l.set i y) = cntT l - vjn z + vjn y
  | [], i, y, z, h => by simp at h
  | x :: l, 0, y, z, h => by
    simp only [List.getElem?_cons_zero, Option.some.injEq] at h
    subst h
    simp only [List.set_cons_zero, cntT]
    omega
  | x :: l, i + 1, y, z, h => by
    simp only [List.getElem?_cons_succ] at h
    simp only [List.set_cons_succ, cntT, v7u l i y z h]
    omega
theorem v1y (p : tTxn.D → Bool) : ∀ (l : List tTxn.D) (i : Nat), atF p l i = -1 ∨ ∃ a : Nat, atF p l i = (a : Int) ∧ i ≤ a ∧ a < i + l.length
  | [], i => .inl rfl
  | y :: l, i => by
    simp only [atF]
    cases p y
    · rcases v1y p l (i + 1) with h | ⟨a, h, h1, h2⟩
      · exact .inl h
      · exact .inr ⟨a, h, by omega, by simp only [List.length_cons]; omega⟩
    · exact .inr ⟨i, rfl, Nat.le_refl _, by simp only [List.length_cons]; omega⟩
def vmc (e : tEngine.D) (c : Int) : Int := atF (fun x => x.1 == c) e.2 0
theorem vnf (e : tEngine.D) (c : Int) : vmc e c = -1 ∨ ∃ a : Nat, ∃ t, vmc e c = (a : Int) ∧ a < e.2.length ∧ e.2[a]? = some t ∧ rd (Ty.zero tTxn) e.2 (a : Int) = t := by
  rcases v1y (fun x => x.1 == c) e.2 0 with h | ⟨a, h, h1, h2⟩
  · exact .inl h
  · have hlt : a < e.2.length := by omega
    exact .inr ⟨a, e.2[a], h, hlt, List.getElem?_eq_getElem hlt, by simp [rd, List.getElem?_eq_getElem hlt]⟩
/-- A transaction with other ranges. -/
def v03 (t : tTxn.D) (r : List tRange.D) : tTxn.D := (t.1, (t.2.1, (t.2.2.1, (t.2.2.2.1, (r, (t.2.2.2.2.2.1, (t.2.2.2.2.2.2.1, t.2.2.2.2.2.2.2)))))))
theorem vp2 (t : tTxn.D) (r : tRange.D) : (vaq t r).2.length ≤ t.2.2.2.2.1.length + 1 := by
  unfold vaq
  simp only [cond_eq_ite]
  repeat' split
  all_goals first | simp | omega
end
end Go.VE
/- Plain laws: the keys that are scanned in an engine. -/
namespace Go.VE
noncomputable section
set_option linter.unusedVariables false
set_option linter.unusedSimpArgs false
set_option maxRecDepth 100000
theorem vsv {l : List tRange.D} (hl : l.length ≤ 1048576) {c : Int} (h0 : 0 ≤ c) (hc : c + 2 * l.length ≤ 9000000) (k) : vvr c l k = k (c + 2 * l.length, vfo c l) := by
  rw [wd6]
  unfold v9h
  obtain ⟨j, hj⟩ := vmh l [] c Fuel h0 hc (by simpa using hl) (by have := vcc; omega)
  simp only [List.length_nil, List.nil_append] at hj
  rw [show ((0 : Int)) = ((0 : Nat) : Int) from rfl, hj]
theorem v2f {l : List tRange.D} (hl : l.length ≤ 1048576) {c : Int} (h0 : 0 ≤ c) (hc : c + 2 * l.length ≤ 9000000) (k) : vox (vfo c l) c k = k (c + 2 * (l.length : Int)) := by
  rw [wto (by rw [vki]; omega)]
  unfold wcb
  obtain ⟨j, hj⟩ := vmq (u0 := vfo c l) (u2 := 0) l c 0 h0 hc
  rw [hj]; rfl
theorem v04 {t : tTxn.D} {r : tRange.D} (h : (vaq t r).1 = true) : tTxn.wt (v03 t (vaq t r).2) ≤ 1048576 := by
  unfold vaq at h
  cases hok : vk9 t with
  | false => rw [hok] at h; simp at h
  | true =>
    have hs := vnn hok
    have hq : (vaq t r).2.length ≤ 9 := by
      have := vp2 t r
      have := hs.2.2.2.2.1
      omega
    have hr : vbc r = true := by
      rw [hok] at h
      cases hr : vbc r
      · rw [hr] at h
        cases hst : t.2.1 != 1 <;> rw [hst] at h <;> simp at h
      · rfl
    have hrs : r.1.size ≤ 12 ∧ r.2.size ≤ 12 := by
      unfold vbc at hr
      simp only [Bool.and_eq_true] at hr
      have h1 := vfc hr.1.1
      have h2 := vfc hr.1.2
      omega
    have hm : ∀ y ∈ (vaq t r).2, y.1.size ≤ 12 ∧ y.2.size ≤ 12 := by
      intro y hy
      have h5 := hs.2.2.2.2.2.1
      unfold vaq at hy
      simp only [cond_eq_ite] at hy
      repeat' split at hy
      all_goals first
        | exact h5 y hy
        | (rcases List.mem_append.1 hy with hy | hy
           · exact h5 y hy
           · rw [List.mem_singleton] at hy; rw [hy]; exact hrs)
    have e := vuc (v03 t (vaq t r).2)
    have h1 := wfc (T := tRange) (c := 40) (l := (vaq t r).2) (fun y hy => by have := hm y hy; rw [v0f]; omega)
    have h2 := wfc (T := tWrite) (c := 40) (l := t.2.2.2.2.2.1) (fun y hy => by have := hs.2.2.2.2.2.2.2.1 y hy; rw [vzp]; omega)
    have h7 := hs.2.2.2.2.2.2.1
    have h8 := hs.2.2.2.2.2.2.2.2
    rw [Ty.wt_slice, Ty.wt_slice] at e
    unfold v03 at e ⊢
    dsimp only at e
    rw [e]
    omega
def vaw (e : tEngine.D) (c : Int) (r : tRange.D) : (Int × List tRange.D) × List tTxn.D :=
  if vmc e c < 0 then ((1, []), e.2) else
  bif !(vbc r) then ((2, []), e.2) else
  bif !((vaq (rd (Ty.zero tTxn) e.2 (vmc e c)) r).1) then ((3, []), e.2) else
    ((0, vhx (rd (Ty.zero tTxn) e.2 (vmc e c)) e.1.1 r),
      e.2.set (vmc e c).toNat (v03 (rd (Ty.zero tTxn) e.2 (vmc e c)) (vaq (rd (Ty.zero tTxn) e.2 (vmc e c)) r).2))
theorem v5s {e : tEngine.D} (h : tEngine.wt e ≤ 1048576) {t : tTxn.D} (ht : t ∈ e.2) : e.1.1.length + t.2.2.2.2.2.1.length ≤ 1048576 := by
  have hE := ve4 e
  have hB := vww e.1
  have h1 := Ty.wt_slice tVersion e.1.1
  have h2 := Ty.wt_slice tTxn e.2
  have h3 := v5w ht
  have h4 := vuc t
  have h5 := Ty.wt_slice tWrite t.2.2.2.2.2.1
  omega
theorem wo0 {e : tEngine.D} (h : tEngine.wt e ≤ 1048576) (c : Int) {r : tRange.D} (hr0 : tRange.wt r ≤ 1048576) (k) :
    vxg e c r k = k (e.1.2.2.2.1, e.1.2.2.2.2, (vaw e c r).1.1, e.1.1, e.1.2.1, e.1.2.2.1, (vaw e c r).2, (vaw e c r).1.2) := by
  have hE := ve4 e
  have ho := v8s h
  rw [whl]
  unfold v7s vaw
  simp only [wpp ho, wo3 e c ho.2.2, v5m hr0, show atF (fun x : tTxn.D => x.1 == c) e.2 0 = vmc e c from rfl]
  rcases vnf e c with hp | ⟨a, t, hp, hlt, ht, hr⟩
  · simp only [hp, show ((-1 : Int) < 0) by decide, decide_true, cond_true, if_true]
  have hn : ¬ vmc e c < 0 := by rw [hp]; omega
  simp only [hn, decide_false, cond_false, if_false]
  cases hko : vbc r with
  | false => simp only [Bool.not_false, cond_true]
  | true =>
    have hmem := List.mem_of_getElem? ht
    have htw : tTxn.wt t ≤ 1048576 := vbz (T := tTxn) hmem (by omega)
    have hi : (0 ≤ vmc e c ∧ vmc e c < (e.2.length : Int)) := by rw [hp]; omega
    simp only [Bool.not_true, cond_false]
    rw [if_pos hi]
    rw [hp, hr, woz htw hr0]
    cases hrr : (vaq t r).1 with
    | false => simp only [Bool.not_false, cond_true]
    | true =>
      simp only [Bool.not_true, cond_false]
      rw [if_pos (by rw [← hp]; exact hi)]
      refine (wp3 (t := v03 t (vaq t r).2) (v04 hrr) (show e.1.1.length + t.2.2.2.2.2.1.length ≤ 1048576 from v5s h hmem) r _).trans ?_
      rfl
theorem wpu {e : tEngine.D} (h : tEngine.wt e ≤ 1048576) (c : Int) {r : tRange.D} (hr0 : tRange.wt r ≤ 1048576) (k) :
    vpy e c r k = k (e.1.2.2.2.1, e.1.2.2.2.2, (vaw e c r).1.1, e.1.1, e.1.2.1, e.1.2.2.1, (vaw e c r).2, (vaw e c r).1.2) := by
  have hE := ve4 e
  have ho := v8s h
  rw [wg8]
  unfold v9i vaw
  rw [v5d hr0, wg3]
  unfold v6q
  simp only [woo ho, wo4 e c ho.2.2, show atF (fun x : tTxn.D => x.1 == c) e.2 0 = vmc e c from rfl]
  rcases vnf e c with hp | ⟨a, t, hp, hlt, ht, hr⟩
  · simp only [hp, show ((-1 : Int) < 0) by decide, decide_true, cond_true, if_true]
    rfl
  have hn : ¬ vmc e c < 0 := by rw [hp]; omega
  simp only [hn, decide_false, cond_false, if_false]
  cases hko : vbc r with
  | false => simp only [Bool.not_false, cond_true]; rfl
  | true =>
    have hmem := List.mem_of_getElem? ht
    have htw : tTxn.wt t ≤ 1048576 := vbz (T := tTxn) hmem (by omega)
    have hi : (0 ≤ vmc e c ∧ vmc e c < (e.2.length : Int)) := by rw [hp]; omega
    simp only [Bool.not_true, cond_false]
    rw [if_pos hi]
    rw [hp, hr, wps htw hr0]
    cases hrr : (vaq t r).1 with
    | false => simp only [Bool.not_false, cond_true]; rfl
    | true =>
      simp only [Bool.not_true, cond_false]
      rw [if_pos (by rw [← hp]; exact hi)]
      simp only [bne_self_eq_false, cond_false]
      rw [if_pos (by rw [← hp]; exact hi)]
      refine (wpr htw (v5s h hmem) r _).trans ?_
      rfl
/-- The engine that a scan leaves. -/
theorem v4a {e : tEngine.D} (h : tEngine.wt e ≤ 1048576) (c : Int) (r : tRange.D) :
    OkE (e.1, (vaw e c r).2) ∧ cntE (e.1, (vaw e c r).2) ≤ cntE e + 2 ∧ (vaw e c r).1.2.length ≤ 1048576 := by
  have hE := ve4 e
  have ho := v8s h
  unfold vaw
  simp only [cond_eq_ite]
  repeat' split
  · exact ⟨ho, show cntE e ≤ cntE e + 2 by omega, by simp⟩
  · exact ⟨ho, show cntE e ≤ cntE e + 2 by omega, by simp⟩
  · exact ⟨ho, show cntE e ≤ cntE e + 2 by omega, by simp⟩
  · rcases vnf e c with hp | ⟨a, t, hp, hlt, ht, hr⟩
    · omega
    rw [hp, hr]
    have hmem := List.mem_of_getElem? ht
    have htw : tTxn.wt t ≤ 1048576 := vbz (T := tTxn) hmem (by omega)
    have hl := vqy htw
    refine ⟨⟨ho.1, wie (y := v03 t (vaq t r).2) ho.2 ⟨vz2 htw r, hl.2⟩ (a : Int).toNat⟩, ?_, Nat.le_trans (vtg t e.1.1 r) (v5s h hmem)⟩
    have hs := v7u e.2 a (v03 t (vaq t r).2) t ht
    have hr1 := vp2 t r
    have h1 : vjn (v03 t (vaq t r).2) = 6 + 2 * ((vaq t r).2.length : Int) + 3 * (t.2.2.2.2.2.1.length : Int) := rfl
    have h2 : vjn t = 6 + 2 * (t.2.2.2.2.1.length : Int) + 3 * (t.2.2.2.2.2.1.length : Int) := rfl
    show cntB e.1 + cntT (e.2.set (a : Int).toNat _) ≤ cntB e.1 + cntT e.2 + 2
    rw [Int.toNat_natCast, hs]
    omega
end
end Go.VE
/- The plain laws. -/
namespace Go.VE
set_option linter.unusedVariables false
set_option linter.unusedSimpArgs false
set_option maxRecDepth 100000
theorem vnh (x : tEngine.D) (c : Int) (z : tRange.D) (hx : tEngine.wf x) (hc : (Ty.int .i64).wf c) (hz : tRange.wf z) (k : Bool → Option Res) : v2j x c z k = k true := by
  rw [wq7]
  unfold web
  obtain ⟨r0, q0, p0⟩ := v5p hx (a := 1048576) (by omega) (by omega)
  rw [q0]
  rcases p0 with p0 | ⟨p0, e0⟩
  · simp [p0]
  have c0 : ¬ r0 < 0 := by omega
  simp only [c0, decide_false, cond_false]
  obtain ⟨r1, q1, p1⟩ := vxn hz (a := r0) p0 (by omega)
  rw [q1]
  rcases p1 with p1 | ⟨p1, e1⟩
  · simp [p1]
  have c1 : ¬ r1 < 0 := by omega
  simp only [c1, decide_false, cond_false]
  have wx : tEngine.wt x ≤ 1048576 := by omega
  have wz : tRange.wt z ≤ 1048576 := by omega
  obtain ⟨hok, hcnt, hlen⟩ := v4a wx c z
  have hcx := wow x
  have hpx := v64 x
  have hpe := v64 (x.1, (vaw x c z).2)
  have hE := fun k => v4e hok k
  have hM0 := fun a0 a1 k => vof (v8s wx) (c := 1) (by omega) (by omega) a0 a1 k
  have hM1 : ∀ a0 a1 k, vo6 a0 a1 1 x.1.1 x.1.2.1 x.1.2.2.1 (vaw x c z).2 k = k (1 + cntE (x.1, (vaw x c z).2), (vi0 1 (x.1, (vaw x c z).2)).1.1, (vi0 1 (x.1, (vaw x c z).2)).1.2.1, (vi0 1 (x.1, (vaw x c z).2)).1.2.2.1, (vi0 1 (x.1, (vaw x c z).2)).2) :=
    fun a0 a1 k => vof hok (c := 1) (by omega) (by omega) a0 a1 k
  have hH : ∀ z1 z2 k, vn5 (((vi0 1 (x.1, (vaw x c z).2)).1.1, ((vi0 1 (x.1, (vaw x c z).2)).1.2.1, ((vi0 1 (x.1, (vaw x c z).2)).1.2.2.1, (z1, z2)))), (vi0 1 (x.1, (vaw x c z).2)).2) 1 k = k (1 + cntE (x.1, (vaw x c z).2)) :=
    fun z1 z2 k => vy8 hok (c := 1) (by omega) (by omega) (z1, z2) k
  have hM2 := fun k => vsv hlen (c := 1 + cntE (x.1, (vaw x c z).2)) (by omega) (by omega) k
  have hH2 := fun k => v2f hlen (c := 1 + cntE (x.1, (vaw x c z).2)) (by omega) (by omega) k
  have n0 : decide (1 + cntE x < 0) = false := decide_eq_false (by omega)
  have n1 : decide (1 + cntE (x.1, (vaw x c z).2) < 0) = false := decide_eq_false (by omega)
  have n2 : decide (1 + cntE (x.1, (vaw x c z).2) + 2 * ((vaw x c z).1.2.length : Int) < 0) = false := decide_eq_false (by omega)
  simp only [wbv wx, vyd, wo0 wx c wz, wpu wx c wz, vcs, hE, wan wx, v2o hlen, beq_self_eq_true, bne_self_eq_false, Bool.not_true, Bool.not_false, cond_true, cond_false, ved, vea, vee, hM0, n0, hM1, hM2, hH, hH2, n1, n2, Sum.elim_inl, Sum.elim_inr]
end Go.VE
