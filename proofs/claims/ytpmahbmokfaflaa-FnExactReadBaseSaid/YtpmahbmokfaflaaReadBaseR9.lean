/- Plain laws: versions, bases. -/
import Derived.Test.YtpmahbmokfaflaaReadBaseR8
import Derived.Test.YtpmahbmokfaflaaP3
namespace Go.VE
noncomputable section
set_option linter.unusedVariables false
set_option linter.unusedSimpArgs false
set_option maxRecDepth 100000
def vjv (v : tVersion.D) : Bool := vdz v.1 && decide ((v.2.1.size : Int) ≤ 12) && (!v.2.2.1 || va9 v.2.1 ⟨#[]⟩) && vaw v.2.2.2 1 9999
def vrq (x y : tVersion.D) : Bool := va2 x.1 y.1 || (va9 x.1 y.1 && decide (x.2.2.2 < y.2.2.2))
def vg3 : Option tVersion.D → List tVersion.D → Bool
  | _, [] => true
  | p, y :: l => vjv y && (match p with | none => true | some x => vrq x y) && vg3 (some y) l
def vdl (l : List tVersion.D) : Bool := vg3 none l && decide ((l.length : Int) ≤ 120)
def cmpS (x y : ByteArray) : Int := bif va2 x y then -1 else bif !(va2 x y || va9 x y) then 1 else 0
def cmpI (x y : Int) : Int := bif decide (x < y) then -1 else bif decide (x > y) then 1 else 0
def cmpV (x y : tVersion.D) : Int := bif cmpS x.1 y.1 != 0 then cmpS x.1 y.1 else cmpI x.2.2.2 y.2.2.2
theorem wvi (x y) (k) : v1u x y k = k (cmpS x y) := by
  rw [whx]
  unfold we8 cmpS
  rw [wl9]
  unfold wcd
  simp only [vdp, Bool.not_true, cond_false]
  cases va2 x y <;> cases va9 x y <;> rfl
theorem wut (x y) (k) : v1j x y k = k (cmpI x y) := by
  rw [wkd]
  unfold wbr cmpI
  rw [wl4]
  unfold wcs
  simp only [bne_self_eq_false, cond_false]
  cases decide (x < y) <;> cases decide (x > y) <;> rfl
theorem wuy (x y : tVersion.D) (k) : vru x y k = k (cmpV x y) := by
  rw [wlz]
  unfold wfb cmpV
  simp only [wvi, wut]
  cases cmpS x.1 y.1 != 0 <;> rfl
theorem wsg (x y : tVersion.D) : decide (cmpV x y ≥ 0) = !vrq x y := by
  unfold cmpV vrq cmpS cmpI
  cases h1 : va2 x.1 y.1
  · cases h2 : va9 x.1 y.1
    · simp
    · simp only [cond_false, Bool.or_true, Bool.not_true, bne_self_eq_false, Bool.false_or, Bool.true_and]
      by_cases h3 : x.2.2.2 < y.2.2.2
      · simp [h3]
      · by_cases h4 : x.2.2.2 > y.2.2.2
        · simp [h3, h4]
        · simp [h3, h4]
  · simp
theorem v1m {u0 : List tVersion.D} (hu : ∀ y ∈ u0, tVersion.wt y ≤ 1048576) (hl : u0.length ≤ 1048576) {u1 u2} : ∀ (l : List tVersion.D) (i : Nat), u0.drop i = l → ∃ j : Int, ∀ k,
    viu u0 u1 u2 l i k = k (bif vg3 (if i = 0 then none else some (u0.getD (i - 1) (Ty.zero tVersion))) l then .inr j else .inl (false, j))
  | [], i, _ => ⟨_, fun k => rfl⟩
  | y :: l, i, h => by
    obtain ⟨j, hj⟩ := v1m hu hl (u1 := u1) (u2 := u2) l (i + 1) (vca h)
    have hlt := vds h
    have hy := (va8 h).2 (Ty.zero tVersion)
    have hyw := hu y (vdd h)
    rw [vxv] at hyw
    rw [if_neg (by omega), show i + 1 - 1 = i by omega, hy] at hj
    simp only [viu, vw0 (show y.1.size ≤ 1048576 by omega), vrn, wuy, wsg, hj, vg3, vjv]
    have hsz : decide ((y.2.1.size : Int) > 12) = !decide ((y.2.1.size : Int) ≤ 12) := by
      by_cases h : (y.2.1.size : Int) ≤ 12
      · simp [h]
      · simp [h]; omega
    rw [hsz]
    by_cases hi : i = 0
    · subst hi
      simp only [if_pos, show ¬ ((0 : Nat) : Int) > 0 by omega, decide_false, cond_false, Bool.and_true]
      cases vdz y.1 <;> cases decide ((y.2.1.size : Int) ≤ 12) <;> cases y.2.2.1 <;> cases va9 y.2.1 ⟨#[]⟩ <;> cases vaw y.2.2.2 1 9999 <;> first | (refine ⟨((0 : Nat) : Int), fun k => ?_⟩; simp; done) | (refine ⟨j, fun k => ?_⟩; simp; done)
    · have hw : IntKind.wrap .i64 ((i : Int) - 1) = ((i - 1 : Nat) : Int) := by rw [vax (by omega) (by omega)]; omega
      have hrd : rd (Ty.zero tVersion) u0 ((i - 1 : Nat) : Int) = u0.getD (i - 1) (Ty.zero tVersion) := rfl
      simp only [if_neg hi, show (i : Int) > 0 by omega, decide_true, cond_true, hw, hrd, if_pos (show 0 ≤ ((i - 1 : Nat) : Int) ∧ ((i - 1 : Nat) : Int) < (u0.length : Int) by omega)]
      cases vdz y.1 <;> cases decide ((y.2.1.size : Int) ≤ 12) <;> cases y.2.2.1 <;> cases va9 y.2.1 ⟨#[]⟩ <;> cases vaw y.2.2.2 1 9999 <;> cases vrq (u0.getD (i - 1) (Ty.zero tVersion)) y <;> first | (refine ⟨(i : Int), fun k => ?_⟩; simp; done) | (refine ⟨j, fun k => ?_⟩; simp; done)
theorem wu3 {x : List tVersion.D} (hx : (Ty.slice tVersion).wt x ≤ 1048576) (k) : vu7 x k = k (vdl x) := by
  have hl := vd3 hx
  rw [wzy (by omega)]
  unfold whf vdl
  obtain ⟨j, hj⟩ := v1m (u0 := x) (fun y hy => vch hy hx) hl (u1 := false) (u2 := x) x 0 rfl
  rw [hj]
  simp only [if_true]
  cases vg3 none x <;> rfl
theorem v1h {u0 : List tVersion.D} (hu : ∀ y ∈ u0, tVersion.wt y ≤ 1048576) (hl : u0.length ≤ 1048576) : ∀ (l : List tVersion.D) (i : Nat), u0.drop i = l → ∃ j : Int, ∀ k,
    vlo u0 false l i k = k (bif vg3 (if i = 0 then none else some (u0.getD (i - 1) (Ty.zero tVersion))) l then .inr j else .inl (false, j))
  | [], i, _ => ⟨_, fun k => rfl⟩
  | y :: l, i, h => by
    obtain ⟨j, hj⟩ := v1h hu hl l (i + 1) (vca h)
    have hlt := vds h
    have hy := (va8 h).2 (Ty.zero tVersion)
    have hyw := hu y (vdd h)
    rw [vxv] at hyw
    rw [if_neg (by omega), show i + 1 - 1 = i by omega, hy] at hj
    simp only [vlo, ve3, vxk (show y.1.size ≤ 1048576 by omega), vtb, hj, vg3, vjv]
    have hsz : decide ((y.2.1.size : Int) > 12) = !decide ((y.2.1.size : Int) ≤ 12) := by
      by_cases h : (y.2.1.size : Int) ≤ 12
      · simp [h]
      · simp [h]; omega
    rw [hsz]
    by_cases hi : i = 0
    · subst hi
      simp only [if_pos, show ¬ ((0 : Nat) : Int) > 0 by omega, decide_false, cond_false, Bool.and_true]
      cases vdz y.1 <;> cases decide ((y.2.1.size : Int) ≤ 12) <;> cases y.2.2.1 <;> cases va9 y.2.1 ⟨#[]⟩ <;> cases vaw y.2.2.2 1 9999 <;> first | (refine ⟨((0 : Nat) : Int), fun k => ?_⟩; simp; done) | (refine ⟨j, fun k => ?_⟩; simp; done)
    · have hw : IntKind.wrap .i64 ((i : Int) - 1) = ((i - 1 : Nat) : Int) := by rw [vax (by omega) (by omega)]; omega
      have hrd : rd (Ty.zero tVersion) u0 ((i - 1 : Nat) : Int) = u0.getD (i - 1) (Ty.zero tVersion) := rfl
      simp only [if_neg hi, show (i : Int) > 0 by omega, decide_true, cond_true, hw, hrd, if_pos (show 0 ≤ ((i - 1 : Nat) : Int) ∧ ((i - 1 : Nat) : Int) < (u0.length : Int) by omega)]
      generalize u0.getD (i - 1) (Ty.zero tVersion) = x
      have hge : decide (x.2.2.2 ≥ y.2.2.2) = !decide (x.2.2.2 < y.2.2.2) := by rw [Bool.eq_iff_iff]; simp
      unfold vrq
      rw [hge]
      cases h1 : va2 x.1 y.1
      · cases vdz y.1 <;> cases decide ((y.2.1.size : Int) ≤ 12) <;> cases y.2.2.1 <;> cases va9 y.2.1 ⟨#[]⟩ <;> cases vaw y.2.2.2 1 9999 <;> cases va9 x.1 y.1 <;> cases decide (x.2.2.2 < y.2.2.2) <;> first | (refine ⟨(i : Int), fun k => ?_⟩; simp; done) | (refine ⟨j, fun k => ?_⟩; simp; done)
      · rw [wgo h1]
        cases vdz y.1 <;> cases decide ((y.2.1.size : Int) ≤ 12) <;> cases y.2.2.1 <;> cases va9 y.2.1 ⟨#[]⟩ <;> cases vaw y.2.2.2 1 9999 <;> first | (refine ⟨(i : Int), fun k => ?_⟩; simp; done) | (refine ⟨j, fun k => ?_⟩; simp; done)
theorem wun {x : List tVersion.D} (hx : (Ty.slice tVersion).wt x ≤ 1048576) (k) : vvg x k = k (vdl x) := by
  have hl := vd3 hx
  rw [w0o (by omega)]
  unfold wme vdl
  obtain ⟨j, hj⟩ := v1h (u0 := x) (fun y hy => vch hy hx) hl x 0 rfl
  rw [hj]
  simp only [if_true]
  cases vg3 none x <;> rfl
/-- What was let through: right, done, not behind the counter, numbers ascending. -/
def vfe (cs : Int) : Option tTxn.D → List tTxn.D → Bool
  | _, [] => true
  | p, y :: l => vc4 y && (y.2.1 == 3) && decide (y.2.2.2.1 ≤ cs) && (match p with | none => true | some x => decide (x.2.2.2.1 < y.2.2.2.1)) && vfe cs (some y) l
/-- What is ready: right, names ascending. -/
def vd1 (cs : Int) : Option tTxn.D → List tTxn.D → Bool
  | _, [] => true
  | p, y :: l => vc4 y && (y.2.1 == 2) && decide (y.2.2.1 ≤ cs) && (match p with | none => true | some x => va2 x.2.2.2.2.2.2.2 y.2.2.2.2.2.2.2) && vd1 cs (some y) l
/-- Numbers: below a bound, unlike. -/
def vkp (nx : Int) : List Int → List Int → Bool
  | _, [] => true
  | pre, y :: l => decide (y < nx) && !(pre.any fun z => z == y) && vkp nx (pre ++ [y]) l
theorem v2g {u5 : List tTxn.D} (hu : ∀ y ∈ u5, tTxn.wt y ≤ 1048576) (hl : u5.length ≤ 1048576) {u0 u1 u4 u6 u7 u8} : ∀ (l : List tTxn.D) (i : Nat), u5.drop i = l → ∃ j : Int, ∀ k,
    vkn u0 u1 u4 u5 u6 u7 u8 l i k = k (bif vfe u7 (if i = 0 then none else some (u5.getD (i - 1) (Ty.zero tTxn))) l then .inr j else .inl (false, j))
  | [], i, _ => ⟨_, fun k => rfl⟩
  | y :: l, i, h => by
    obtain ⟨j, hj⟩ := v2g hu hl (u0 := u0) (u1 := u1) (u4 := u4) (u6 := u6) (u7 := u7) (u8 := u8) l (i + 1) (vca h)
    have hlt := vds h
    have hy := (va8 h).2 (Ty.zero tTxn)
    rw [if_neg (by omega), show i + 1 - 1 = i by omega, hy] at hj
    have hcs : decide (y.2.2.2.1 > u7) = !decide (y.2.2.2.1 ≤ u7) := by rw [Bool.eq_iff_iff]; simp
    simp only [vkn, v3v (hu y (vdd h)), wuo, hj, vfe, hcs]
    by_cases hi : i = 0
    · subst hi
      simp only [if_pos, show ¬ ((0 : Nat) : Int) > 0 by omega, decide_false, cond_false, Bool.and_true]
      cases vc4 y <;> cases (y.2.1 == 3) <;> cases decide (y.2.2.2.1 ≤ u7) <;> first | (refine ⟨((0 : Nat) : Int), fun k => ?_⟩; simp; done) | (refine ⟨j, fun k => ?_⟩; simp; done)
    · have hw : IntKind.wrap .i64 ((i : Int) - 1) = ((i - 1 : Nat) : Int) := by rw [vax (by omega) (by omega)]; omega
      have hrd : rd (Ty.zero tTxn) u5 ((i - 1 : Nat) : Int) = u5.getD (i - 1) (Ty.zero tTxn) := rfl
      simp only [if_neg hi, show (i : Int) > 0 by omega, decide_true, cond_true, hw, hrd, if_pos (show 0 ≤ ((i - 1 : Nat) : Int) ∧ ((i - 1 : Nat) : Int) < (u5.length : Int) by omega)]
      generalize u5.getD (i - 1) (Ty.zero tTxn) = x
      have hge : decide (x.2.2.2.1 ≥ y.2.2.2.1) = !decide (x.2.2.2.1 < y.2.2.2.1) := by rw [Bool.eq_iff_iff]; simp
      rw [hge]
      cases vc4 y <;> cases (y.2.1 == 3) <;> cases decide (y.2.2.2.1 ≤ u7) <;> cases decide (x.2.2.2.1 < y.2.2.2.1) <;> first | (refine ⟨(i : Int), fun k => ?_⟩; simp; done) | (refine ⟨j, fun k => ?_⟩; simp; done)
theorem v0v {u6 : List tTxn.D} (hu : ∀ y ∈ u6, tTxn.wt y ≤ 1048576) (hl : u6.length ≤ 1048576) {u0 u1 u4 u5 u7 u8} : ∀ (l : List tTxn.D) (i : Nat), u6.drop i = l → ∃ j : Int, ∀ k,
    vk4 u0 u1 u4 u5 u6 u7 u8 l i k = k (bif vd1 u7 (if i = 0 then none else some (u6.getD (i - 1) (Ty.zero tTxn))) l then .inr j else .inl (false, j))
  | [], i, _ => ⟨_, fun k => rfl⟩
  | y :: l, i, h => by
    obtain ⟨j, hj⟩ := v0v hu hl (u0 := u0) (u1 := u1) (u4 := u4) (u5 := u5) (u7 := u7) (u8 := u8) l (i + 1) (vca h)
    have hlt := vds h
    have hy := (va8 h).2 (Ty.zero tTxn)
    rw [if_neg (by omega), show i + 1 - 1 = i by omega, hy] at hj
    have hcs : decide (y.2.2.1 > u7) = !decide (y.2.2.1 ≤ u7) := by rw [Bool.eq_iff_iff]; simp
    simp only [vk4, v3v (hu y (vdd h)), wvm, hj, vd1, hcs]
    by_cases hi : i = 0
    · subst hi
      simp only [if_pos, show ¬ ((0 : Nat) : Int) > 0 by omega, decide_false, cond_false, Bool.and_true]
      cases vc4 y <;> cases (y.2.1 == 2) <;> cases decide (y.2.2.1 ≤ u7) <;> first | (refine ⟨((0 : Nat) : Int), fun k => ?_⟩; simp; done) | (refine ⟨j, fun k => ?_⟩; simp; done)
    · have hw : IntKind.wrap .i64 ((i : Int) - 1) = ((i - 1 : Nat) : Int) := by rw [vax (by omega) (by omega)]; omega
      have hrd : rd (Ty.zero tTxn) u6 ((i - 1 : Nat) : Int) = u6.getD (i - 1) (Ty.zero tTxn) := rfl
      simp only [if_neg hi, show (i : Int) > 0 by omega, decide_true, cond_true, hw, hrd, if_pos (show 0 ≤ ((i - 1 : Nat) : Int) ∧ ((i - 1 : Nat) : Int) < (u6.length : Int) by omega)]
      generalize u6.getD (i - 1) (Ty.zero tTxn) = x
      cases vc4 y <;> cases (y.2.1 == 2) <;> cases decide (y.2.2.1 ≤ u7) <;> cases va2 x.2.2.2.2.2.2.2 y.2.2.2.2.2.2.2 <;> first | (refine ⟨(i : Int), fun k => ?_⟩; simp; done) | (refine ⟨j, fun k => ?_⟩; simp; done)
theorem v09 {u0 u1 u4 u5 u6 u7 u8} : ∀ (l : List tVersion.D) (i : Nat), ∃ j : Int, ∀ k,
    vnd u0 u1 u4 u5 u6 u7 u8 l i k = k (bif l.all (fun y => decide (y.2.2.2 ≤ u7)) then .inr j else .inl (false, j))
  | [], i => ⟨_, fun k => rfl⟩
  | y :: l, i => by
    obtain ⟨j, hj⟩ := v09 (u0 := u0) (u1 := u1) (u4 := u4) (u5 := u5) (u6 := u6) (u7 := u7) (u8 := u8) l (i + 1)
    have hcs : decide (y.2.2.2 > u7) = !decide (y.2.2.2 ≤ u7) := by rw [Bool.eq_iff_iff]; simp
    simp only [vnd, hj, List.all_cons, hcs]
    cases decide (y.2.2.2 ≤ u7)
    · exact ⟨(i : Int), fun k => rfl⟩
    · exact ⟨j, fun k => rfl⟩
theorem v57 {u0 u2} {α : Type} : ∀ (l : List (List tTxn.D)) (s : Int) (i : Nat), 0 ≤ s → s + ((l.map List.length).sum : Int) ≤ 100000000 → ∃ j : Int, ∀ k, vl3 u0 u2 l s i k = k (s + ((l.map List.length).sum : Int), j)
  | [], s, i, _, _ => ⟨_, fun k => by simp [vl3]; rfl⟩
  | y :: l, s, i, h0, h => by
    simp only [List.map_cons, List.sum_cons] at h
    have hw : IntKind.wrap .i64 (s + (y.length : Int)) = s + (y.length : Int) := vax (by omega) (by omega)
    obtain ⟨j, hj⟩ := v57 (u0 := u0) (u2 := u2) (α := α) l (s + (y.length : Int)) (i + 1) (by omega) (by push_cast at h; omega)
    refine ⟨j, fun k => ?_⟩
    simp only [vl3, hw, show decide (s + (y.length : Int) < 0) = false by simp; omega, cond_false, hj]
    congr 2
    simp only [List.map_cons, List.sum_cons]
    push_cast
    omega
theorem vww {u : List (List tTxn.D)} (hu : u.length ≤ 1000) : ∀ (l : List (List tTxn.D)) (i : Nat) (s : List tTxn.D) (q : Nat), u.drop i = l → s.length + (l.map List.length).sum ≤ 100000000 → l.length < q →
    ∃ j : Int, ∀ K, vai ve4 q (.inl (u, (u.length : Int), (i : Int), s)) K = K (.inl (u, (u.length : Int), j, s ++ l.flatten))
  | [], i, s, q, h, hs, hq => by
    obtain ⟨q, rfl⟩ : ∃ r, q = r + 1 := ⟨q - 1, by omega⟩
    have hi : u.length ≤ i := by have := congrArg List.length h; simp at this; omega
    refine ⟨(i : Int), fun K => ?_⟩
    simp only [vai, ve4, Sum.elim_inl, show ¬ ((i : Int) < (u.length : Int)) by omega, decide_false, cond_false, Sum.elim_inr, List.flatten_nil, List.append_nil]
  | y :: l, i, s, q, h, hs, hq => by
    obtain ⟨q, rfl⟩ : ∃ r, q = r + 1 := ⟨q - 1, by omega⟩
    simp only [List.map_cons, List.sum_cons, List.length_cons] at hs hq
    have hlt := vds h
    have hy := (va8 h).1 (Ty.zero (.slice tTxn))
    have hm : s.length + y.length ≤ VE.maxLen := by show _ ≤ 4294967296; omega
    have hw : IntKind.wrap .i64 ((i : Int) + 1) = ((i + 1 : Nat) : Int) := vbl (by omega)
    obtain ⟨j, hj⟩ := vww hu l (i + 1) (s ++ y) q (vca h) (by rw [List.length_append]; omega) (by omega)
    refine ⟨j, fun K => ?_⟩
    simp only [vai, ve4, Sum.elim_inl, show ((i : Int) < (u.length : Int)) by omega, show (0 : Int) ≤ (i : Int) by omega, decide_true, cond_true, and_self, if_true, hy, hm, hw]
    rw [hj, List.flatten_cons, List.append_assoc]
theorem wgn {u : List (List tTxn.D)} (hu : u.length ≤ 1000) (hs : (u.map List.length).sum ≤ 100000000) {q : Nat} (hq : u.length < q) :
    ∃ z : (_ ⊕ _), (∃ j : Int, z = .inl (u, (u.length : Int), j, u.flatten) ∨ z = .inr (u, (u.length : Int), j, u.flatten)) ∧ ∀ K, vai ve4 q (.inr (u, (u.length : Int), (0 : Int), ([] : List tTxn.D))) K = K z := by
  obtain ⟨q, rfl⟩ : ∃ r, q = r + 1 := ⟨q - 1, by omega⟩
  cases h : u with
  | nil =>
    refine ⟨_, ⟨0, .inr rfl⟩, fun K => ?_⟩
    simp only [vai, ve4, Sum.elim_inr, List.length_nil]
    rfl
  | cons y l =>
    rw [← h]
    have hd : u.drop 0 = y :: l := by rw [List.drop_zero, h]
    have hlt := vds hd
    have hy := (va8 hd).1 (Ty.zero (.slice tTxn))
    have hs' : y.length + (l.map List.length).sum ≤ 100000000 := by rw [h] at hs; simpa using hs
    have hm : ([] : List tTxn.D).length + y.length ≤ VE.maxLen := by show _ ≤ 4294967296; simp; omega
    have hl : u.length = l.length + 1 := by rw [h]; rfl
    obtain ⟨j, hj⟩ := vww hu l 1 ([] ++ y) q (by rw [h]; rfl) (by simpa using hs') (by omega)
    refine ⟨_, ⟨j, .inl rfl⟩, fun K => ?_⟩
    simp only [vai, ve4, Sum.elim_inl, Sum.elim_inr, show ((0 : Int) < (u.length : Int)) by omega, Int.le_refl, decide_true, cond_true, and_self, if_true]
    rw [show rd (Ty.zero (.slice tTxn)) u (0 : Int) = y from hy, if_pos hm, show IntKind.wrap .i64 ((0 : Int) + 1) = ((1 : Nat) : Int) by rfl]
    rw [hj]
    congr 2
    rw [h, List.flatten_cons, List.nil_append]
theorem vn5 (n : Int) (h0 : 0 ≤ n) (h1 : n ≤ 100000000) : ∃ y, (y = .inl ([] : List tTxn.D) ∨ y = .inr ([] : List tTxn.D)) ∧ ∀ k, vwe n k = k y := by
  simp only [wmg]
  unfold wcg
  have e0 : IntKind.wrap .i64 ((0 : Int) - 0) = 0 := vax (by omega) (by omega)
  have e1 : IntKind.wrap .i64 (n - 0) = n := by rw [vax (by omega) (by omega)]; omega
  simp only [e0, e1, show decide (n < 0) = false by simp; omega, cond_false]
  by_cases hn : n > 0
  · have e3 : 0 ≤ n ∧ n ≤ (VE.maxLen : Int) := ⟨h0, by show n ≤ 4294967296; omega⟩
    simp only [hn, decide_true, cond_true]
    refine ⟨_, .inl rfl, fun k => ?_⟩
    rw [if_pos (by omega), if_pos e3, if_pos ⟨by omega, by omega⟩]
    simp
  · simp only [hn, decide_false, cond_false]
    exact ⟨_, .inr rfl, fun k => rfl⟩
theorem wrp {u : List (List tTxn.D)} (hu : u.length ≤ 1000) (hs : (u.map List.length).sum ≤ 100000000) (f : List tTxn.D → Option Res) : vry u (Sum.elim f f) = f u.flatten := by
  rw [w18 (by omega)]
  unfold wlj
  obtain ⟨j, hj⟩ := v57 (u0 := u) (u2 := u) (α := Unit) u 0 0 (by omega) (by omega)
  rw [hj]
  obtain ⟨y, hy, hg⟩ := vn5 (0 + ((u.map List.length).sum : Int)) (by omega) (by omega)
  rw [hg]
  rcases hy with rfl | rfl
  · simp only [Sum.elim_inl]
    obtain ⟨j2, hj2⟩ := vww hu u 0 [] Fuel (List.drop_zero) (by simpa using hs) (Nat.lt_of_lt_of_le (by omega) vbq)
    rw [show (0 : Int) = ((0 : Nat) : Int) from rfl, hj2]
    simp
  · simp only [Sum.elim_inr]
    obtain ⟨z, ⟨j2, hz⟩, hj2⟩ := wgn hu hs (q := Fuel) (Nat.lt_of_lt_of_le (by omega) vbq)
    rw [hj2]
    rcases hz with rfl | rfl <;> simp
theorem wvr {a b : List tTxn.D} (ha : a.length ≤ 1048577) (hb : b.length ≤ 1048577) (f) : vry [a, b] (Sum.elim f f) = f (a ++ b) := by
  rw [wrp (by simp) (by simp; omega)]
  simp
theorem wuz (x t : tTxn.D) (k) : vwk x t.1 t.2.1 t.2.2.1 t.2.2.2.1 t.2.2.2.2.1 t.2.2.2.2.2.1 t.2.2.2.2.2.2.1 t.2.2.2.2.2.2.2 k = k ((x.1 == t.1), t.1, t.2.1, t.2.2.1, t.2.2.2.1, t.2.2.2.2.1, t.2.2.2.2.2.1, t.2.2.2.2.2.2.1, t.2.2.2.2.2.2.2) := by
  rw [wil]; rfl
theorem v2d {u0 u1} {t : tTxn.D} : ∀ (l : List tTxn.D) (i : Nat), ∃ a : Nat, ∃ b : Int, ∀ k,
    vnp u0 u1 l t.1 t.2.1 t.2.2.1 t.2.2.2.1 t.2.2.2.2.1 t.2.2.2.2.2.1 t.2.2.2.2.2.2.1 t.2.2.2.2.2.2.2 i k = k (bif l.any (fun x => x.1 == t.1) then .inl ((a : Int), b, t.1, t.2.1, t.2.2.1, t.2.2.2.1, t.2.2.2.2.1, t.2.2.2.2.2.1, t.2.2.2.2.2.2.1, t.2.2.2.2.2.2.2) else .inr (b, t.1, t.2.1, t.2.2.1, t.2.2.2.1, t.2.2.2.2.1, t.2.2.2.2.2.1, t.2.2.2.2.2.2.1, t.2.2.2.2.2.2.2))
  | [], i => ⟨0, _, fun k => rfl⟩
  | y :: l, i => by
    obtain ⟨a, b, hab⟩ := v2d (u0 := u0) (u1 := u1) (t := t) l (i + 1)
    simp only [vnp, wuz, hab, List.any_cons]
    cases y.1 == t.1
    · exact ⟨a, b, fun k => rfl⟩
    · exact ⟨i, (i : Int), fun k => rfl⟩
theorem wvb {t : tTxn.D} {l : List tTxn.D} (hlen : l.length ≤ 3000000) (k) : vxp l t.1 t.2.1 t.2.2.1 t.2.2.2.1 t.2.2.2.2.1 t.2.2.2.2.2.1 t.2.2.2.2.2.2.1 t.2.2.2.2.2.2.2 k = k (l.any (fun x => x.1 == t.1), t.1, t.2.1, t.2.2.1, t.2.2.2.1, t.2.2.2.2.1, t.2.2.2.2.2.1, t.2.2.2.2.2.2.1, t.2.2.2.2.2.2.2) := by
  obtain ⟨a, b, hab⟩ := v2d (u0 := l) (u1 := 0) (t := t) l 0
  rw [whp]
  unfold wgc
  rw [wnj]
  unfold wb8
  rw [w1r (by omega)]
  unfold wlv
  rw [hab]
  cases (l.any fun x => x.1 == t.1)
  · rfl
  · have : decide ((a : Int) ≥ 0) = true := by simp
    simp only [cond_true, Sum.elim_inl, this]
theorem v1f {u0 : List tTxn.D} (hl : u0.length ≤ 3000000) {u1 u2 u3} : ∀ (l : List tTxn.D) (i : Nat), u0.drop i = l → ∃ j : Int, ∀ k,
    vng u0 u1 u2 u3 l i k = k (bif vkp u1 ((u0.take i).map (·.1)) (l.map (·.1)) then .inr j else .inl (false, j))
  | [], i, _ => ⟨_, fun k => rfl⟩
  | y :: l, i, h => by
    obtain ⟨j, hj⟩ := v1f hl (u1 := u1) (u2 := u2) (u3 := u3) l (i + 1) (vca h)
    have hlt := vds h
    have hge : decide (y.1 ≥ u1) = !decide (y.1 < u1) := by rw [Bool.eq_iff_iff]; simp
    have hy : u0[i] = y := by have := vvw h; rw [List.getElem?_eq_getElem hlt] at this; exact Option.some.inj this
    have htk : (u0.take (i + 1)).map (·.1) = (u0.take i).map (·.1) ++ [y.1] := by rw [List.take_succ_eq_append_getElem hlt, List.map_append, hy]; rfl
    have han : ((u0.take i).map (·.1)).any (fun z => z == y.1) = (u0.take i).any (fun x => x.1 == y.1) := by rw [List.any_map]; rfl
    rw [htk] at hj
    have hsl : ((u0.take (i : Int).toNat).drop (0 : Int).toNat) = u0.take i := by simp
    simp only [vng, if_pos (show 0 ≤ (0 : Int) ∧ (0 : Int) ≤ (i : Int) ∧ (i : Int) ≤ (u0.length : Int) by omega), hsl, wvb (t := y) (show (u0.take i).length ≤ 3000000 by simp; omega), hj, hge, List.map_cons, vkp, han]
    cases decide (y.1 < u1) <;> cases (u0.take i).any (fun x => x.1 == y.1) <;> first | (refine ⟨(i : Int), fun k => ?_⟩; simp; done) | (refine ⟨j, fun k => ?_⟩; simp; done)
theorem wvn {l : List tTxn.D} (hl : l.length ≤ 3000000) (n : Int) (k) : vog l n k = k (vkp n [] (l.map (·.1))) := by
  rw [wwq (by omega)]
  unfold wkw
  obtain ⟨j, hj⟩ := v1f (u0 := l) hl (u1 := n) (u2 := false) (u3 := l) l 0 rfl
  rw [hj]
  simp only [List.take_zero, List.map_nil]
  cases vkp n [] (l.map (·.1)) <;> rfl
def vip (b : tBase.D) : Bool :=
  vdl b.1 && decide ((b.2.1.length : Int) ≤ 12) && decide ((b.2.2.1.length : Int) ≤ 3) && vaw b.2.2.2.1 0 9999 && vaw b.2.2.2.2 1 9999 &&
    (b.1.all fun y => decide (y.2.2.2 ≤ b.2.2.2.1)) && vfe b.2.2.2.1 none b.2.1 && vd1 b.2.2.2.1 none b.2.2.1 && vkp b.2.2.2.2 [] (b.2.1.map (·.1) ++ b.2.2.1.map (·.1))
theorem vxg {b : tBase.D} (hb : tBase.wt b ≤ 1048576) : (Ty.slice tVersion).wt b.1 ≤ 1048576 ∧ (Ty.slice tTxn).wt b.2.1 ≤ 1048576 ∧ (Ty.slice tTxn).wt b.2.2.1 ≤ 1048576 := by
  rw [v55] at hb; omega
theorem wvs {b : tBase.D} (hb : tBase.wt b ≤ 1048576) (k) : vw7 b k = k (vip b) := by
  obtain ⟨h1, h2, h3⟩ := vxg hb
  have l1 := vd3 h1
  have l2 := vd3 h2
  have l3 := vd3 h3
  rw [w01 (by omega) (by omega) (by omega)]
  unfold whg vip
  have hs1 : decide ((b.2.1.length : Int) > 12) = !decide ((b.2.1.length : Int) ≤ 12) := by rw [Bool.eq_iff_iff]; simp
  have hs2 : decide ((b.2.2.1.length : Int) > 3) = !decide ((b.2.2.1.length : Int) ≤ 3) := by rw [Bool.eq_iff_iff]; simp
  simp only [wu3 h1, vrn, hs1, hs2]
  cases vdl b.1
  · rfl
  cases decide ((b.2.1.length : Int) ≤ 12)
  · rfl
  cases decide ((b.2.2.1.length : Int) ≤ 3)
  · rfl
  cases vaw b.2.2.2.1 0 9999
  · rfl
  cases vaw b.2.2.2.2 1 9999
  · rfl
  simp only [Bool.not_true, cond_false, Bool.true_and, Bool.and_self, vhg]
  obtain ⟨j0, hj0⟩ := v09 (u0 := false) (u1 := b.1) (u4 := b.1) (u5 := b.2.1) (u6 := b.2.2.1) (u7 := b.2.2.2.1) (u8 := b.2.2.2.2) b.1 0
  rw [hj0]
  cases (b.1.all fun y => decide (y.2.2.2 ≤ b.2.2.2.1))
  · rfl
  obtain ⟨j2, hj2⟩ := v2g (u5 := b.2.1) (fun y hy => vch hy h2) l2 (u0 := false) (u1 := b.2.1) (u4 := b.1) (u6 := b.2.2.1) (u7 := b.2.2.2.1) (u8 := b.2.2.2.2) b.2.1 0 rfl
  simp only [cond_true, Sum.elim_inr, hj2, if_true]
  cases vfe b.2.2.2.1 none b.2.1
  · rfl
  obtain ⟨j4, hj4⟩ := v0v (u6 := b.2.2.1) (fun y hy => vch hy h3) l3 (u0 := false) (u1 := b.2.2.1) (u4 := b.1) (u5 := b.2.1) (u7 := b.2.2.2.1) (u8 := b.2.2.2.2) b.2.2.1 0 rfl
  simp only [cond_true, Sum.elim_inr, hj4, if_true]
  cases vd1 b.2.2.2.1 none b.2.2.1
  · rfl
  simp only [cond_true, Sum.elim_inr, wvr (show b.2.1.length ≤ 1048577 by omega) (show b.2.2.1.length ≤ 1048577 by omega), wvn (show (b.2.1 ++ b.2.2.1).length ≤ 3000000 by simp; omega), List.map_append, Bool.true_and]
theorem v1k {u0 u2 u3 u4 u5 u6} : ∀ (l : List tVersion.D) (i : Nat), ∃ j : Int, ∀ k,
    vmg u0 u2 u3 u4 u5 u6 l i k = k (bif l.all (fun y => decide (y.2.2.2 ≤ u5)) then .inr j else .inl (false, j))
  | [], i => ⟨_, fun k => rfl⟩
  | y :: l, i => by
    obtain ⟨j, hj⟩ := v1k (u0 := u0) (u2 := u2) (u3 := u3) (u4 := u4) (u5 := u5) (u6 := u6) l (i + 1)
    have hcs : decide (y.2.2.2 > u5) = !decide (y.2.2.2 ≤ u5) := by rw [Bool.eq_iff_iff]; simp
    simp only [vmg, hj, List.all_cons, hcs]
    cases decide (y.2.2.2 ≤ u5)
    · exact ⟨(i : Int), fun k => rfl⟩
    · exact ⟨j, fun k => rfl⟩
theorem v03 {u3 : List tTxn.D} (hu : ∀ y ∈ u3, tTxn.wt y ≤ 1048576) (hl : u3.length ≤ 1048576) {u0 u2 u4 u5 u6} : ∀ (l : List tTxn.D) (s : List Int) (i : Nat), u3.drop i = l → s.length + l.length ≤ 3000000 → ∃ j : Int, ∃ s' : List Int, ∀ k,
    vjj u0 u2 u3 u4 u5 u6 l s i k = k (bif vfe u5 (if i = 0 then none else some (u3.getD (i - 1) (Ty.zero tTxn))) l then .inr (j, s ++ l.map (·.1)) else .inl (false, j, s'))
  | [], s, i, _, _ => ⟨_, s, fun k => by simp [vjj, vfe]; rfl⟩
  | y :: l, s, i, h, hs => by
    obtain ⟨j, s', hj⟩ := v03 hu hl (u0 := u0) (u2 := u2) (u4 := u4) (u5 := u5) (u6 := u6) l (s ++ [y.1]) (i + 1) (vca h) (by simp at hs ⊢; omega)
    have hlt := vds h
    have hy := (va8 h).2 (Ty.zero tTxn)
    rw [if_neg (by omega), show i + 1 - 1 = i by omega, hy] at hj
    have hcs : decide (y.2.2.2.1 > u5) = !decide (y.2.2.2.1 ≤ u5) := by rw [Bool.eq_iff_iff]; simp
    have hm : s.length + [y.1].length ≤ VE.maxLen := by show _ ≤ 4294967296; simp at hs ⊢; omega
    have hb : (y.2.1 != 3) = !(y.2.1 == 3) := rfl
    simp only [vjj, v8a (hu y (vdd h)), if_pos hm, hj, vfe, hcs, hb]
    by_cases hi : i = 0
    · subst hi
      simp only [if_pos, show ¬ ((0 : Nat) : Int) > 0 by omega, decide_false, cond_false, Bool.and_true]
      cases vc4 y <;> cases (y.2.1 == 3) <;> cases decide (y.2.2.2.1 ≤ u5) <;> first | (refine ⟨((0 : Nat) : Int), s, fun k => ?_⟩; simp; done) | (refine ⟨j, s', fun k => ?_⟩; simp; done)
    · have hw : IntKind.wrap .i64 ((i : Int) - 1) = ((i - 1 : Nat) : Int) := by rw [vax (by omega) (by omega)]; omega
      have hrd : rd (Ty.zero tTxn) u3 ((i - 1 : Nat) : Int) = u3.getD (i - 1) (Ty.zero tTxn) := rfl
      simp only [if_neg hi, show (i : Int) > 0 by omega, decide_true, cond_true, hw, hrd, if_pos (show 0 ≤ ((i - 1 : Nat) : Int) ∧ ((i - 1 : Nat) : Int) < (u3.length : Int) by omega)]
      generalize u3.getD (i - 1) (Ty.zero tTxn) = x
      have hge : decide (x.2.2.2.1 ≥ y.2.2.2.1) = !decide (x.2.2.2.1 < y.2.2.2.1) := by rw [Bool.eq_iff_iff]; simp
      rw [hge]
      cases vc4 y <;> cases (y.2.1 == 3) <;> cases decide (y.2.2.2.1 ≤ u5) <;> cases decide (x.2.2.2.1 < y.2.2.2.1) <;> first | (refine ⟨(i : Int), s, fun k => ?_⟩; simp; done) | (refine ⟨j, s', fun k => ?_⟩; simp; done)
theorem v0z {u4 : List tTxn.D} (hu : ∀ y ∈ u4, tTxn.wt y ≤ 1048576) (hl : u4.length ≤ 1048576) {u0 u2 u3 u5 u6} : ∀ (l : List tTxn.D) (s : List Int) (i : Nat), u4.drop i = l → s.length + l.length ≤ 3000000 → ∃ j : Int, ∃ s' : List Int, ∀ k,
    vji u0 u2 u3 u4 u5 u6 l s i k = k (bif vd1 u5 (if i = 0 then none else some (u4.getD (i - 1) (Ty.zero tTxn))) l then .inr (j, s ++ l.map (·.1)) else .inl (false, j, s'))
  | [], s, i, _, _ => ⟨_, s, fun k => by simp [vji, vd1]; rfl⟩
  | y :: l, s, i, h, hs => by
    obtain ⟨j, s', hj⟩ := v0z hu hl (u0 := u0) (u2 := u2) (u3 := u3) (u5 := u5) (u6 := u6) l (s ++ [y.1]) (i + 1) (vca h) (by simp at hs ⊢; omega)
    have hlt := vds h
    have hy := (va8 h).2 (Ty.zero tTxn)
    rw [if_neg (by omega), show i + 1 - 1 = i by omega, hy] at hj
    have hcs : decide (y.2.2.1 > u5) = !decide (y.2.2.1 ≤ u5) := by rw [Bool.eq_iff_iff]; simp
    have hm : s.length + [y.1].length ≤ VE.maxLen := by show _ ≤ 4294967296; simp at hs ⊢; omega
    have hb : (y.2.1 != 2) = !(y.2.1 == 2) := rfl
    simp only [vji, v8a (hu y (vdd h)), if_pos hm, hj, vd1, hcs, hb]
    by_cases hi : i = 0
    · subst hi
      simp only [if_pos, show ¬ ((0 : Nat) : Int) > 0 by omega, decide_false, cond_false, Bool.and_true]
      cases vc4 y <;> cases (y.2.1 == 2) <;> cases decide (y.2.2.1 ≤ u5) <;> first | (refine ⟨((0 : Nat) : Int), s, fun k => ?_⟩; simp; done) | (refine ⟨j, s', fun k => ?_⟩; simp; done)
    · have hw : IntKind.wrap .i64 ((i : Int) - 1) = ((i - 1 : Nat) : Int) := by rw [vax (by omega) (by omega)]; omega
      have hrd : rd (Ty.zero tTxn) u4 ((i - 1 : Nat) : Int) = u4.getD (i - 1) (Ty.zero tTxn) := rfl
      simp only [if_neg hi, show (i : Int) > 0 by omega, decide_true, cond_true, hw, hrd, if_pos (show 0 ≤ ((i - 1 : Nat) : Int) ∧ ((i - 1 : Nat) : Int) < (u4.length : Int) by omega)]
      generalize u4.getD (i - 1) (Ty.zero tTxn) = x
      cases vc4 y <;> cases (y.2.1 == 2) <;> cases decide (y.2.2.1 ≤ u5) <;> cases va2 x.2.2.2.2.2.2.2 y.2.2.2.2.2.2.2 <;> first | (refine ⟨(i : Int), s, fun k => ?_⟩; simp; done) | (refine ⟨j, s', fun k => ?_⟩; simp; done)
theorem v04 {U : List Int} (hU : U.length ≤ 3000000) {x1 : Bool} {v p r cs nx} {n : Nat} (hn : n < U.length) : ∀ (d m q : Nat), n - m = d → m ≤ n → d < q → ∃ m' : Int, ∀ K,
    vai vmi q (x1, (n : Int), (m : Int), v, p, r, cs, nx, U) K = K (bif ((U.take n).drop m).any (fun z => z == U.getD n 0) then .inl (false, (n : Int), m', v, p, r, cs, nx, U) else .inr (x1, (n : Int), m', v, p, r, cs, nx, U))
  | d, m, 0, _, _, h => by omega
  | d, m, q + 1, hd, hm, hq => by
    by_cases hlt : m < n
    · obtain ⟨m', hm'⟩ := v04 hU hn (x1 := x1) (v := v) (p := p) (r := r) (cs := cs) (nx := nx) (d - 1) (m + 1) q (by omega) (by omega) (by omega)
      have hdr : (U.take n).drop m = U.getD m 0 :: (U.take n).drop (m + 1) := by
        rw [List.drop_eq_getElem_cons (by simp; omega), List.getElem_take]
        congr 1
        exact (vi9 0 (by omega)).symm
      have hw : IntKind.wrap .i64 ((m : Int) + 1) = ((m + 1 : Nat) : Int) := vbl (by omega)
      have z0 : Ty.zero (.int .i64) = (0 : Int) := rfl
      simp only [vai, vmi, show (m : Int) < (n : Int) by omega, decide_true, cond_true, if_pos (show 0 ≤ (m : Int) ∧ (m : Int) < (U.length : Int) by omega), if_pos (show 0 ≤ (n : Int) ∧ (n : Int) < (U.length : Int) by omega), Int.toNat_natCast, hdr, List.any_cons, z0]
      cases hc : U.getD m 0 == U.getD n 0
      · refine ⟨m', fun K => ?_⟩
        simp only [cond_false, Sum.elim_inl, hw, Bool.false_or]
        exact hm' K
      · exact ⟨(m : Int), fun K => by simp⟩
    · have hmn : m = n := by omega
      subst hmn
      refine ⟨(m : Int), fun K => ?_⟩
      simp only [vai, vmi, show ¬ (m : Int) < (m : Int) by omega, decide_false, cond_false, Sum.elim_inr]
      have : (U.take m).drop m = [] := List.drop_eq_nil_of_le (by simp; omega)
      rw [this]; rfl
theorem v1q {U : List Int} (hU : U.length ≤ 3000000) {x1 : Bool} {v p r cs nx} : ∀ (l : List Int) (n q : Nat), U.drop n = l → l.length < q → ∃ b : Bool, ∃ n' : Int, ∀ K,
    vai vlf q (x1, (n : Int), v, p, r, cs, nx, U) K = K (bif vkp nx (U.take n) l then .inl (b, n', v, p, r, cs, nx, U) else .inr (false, n', v, p, r, cs, nx, U))
  | l, n, 0, _, h => by omega
  | [], n, q + 1, h, _ => by
    have hge := vcd h
    refine ⟨x1, (n : Int), fun K => ?_⟩
    simp only [vai, vlf, hge, decide_false, cond_false, Sum.elim_inr]
    rfl
  | y :: l, n, q + 1, h, hq => by
    have hlt := vds h
    have hy : U.getD n 0 = y := (va8 h).2 0
    have hy2 : U[n] = y := by have := vvw h; rw [List.getElem?_eq_getElem hlt] at this; exact Option.some.inj this
    obtain ⟨m', hm'⟩ := v04 hU (x1 := x1) (v := v) (p := p) (r := r) (cs := cs) (nx := nx) hlt n 0 Fuel (by omega) (Nat.zero_le _) (Nat.lt_of_lt_of_le (by omega) vbq)
    obtain ⟨b, n', hn'⟩ := v1q hU (x1 := x1) (v := v) (p := p) (r := r) (cs := cs) (nx := nx) l (n + 1) q (vca h) (by simpa using hq)
    have htk : U.take (n + 1) = U.take n ++ [y] := by rw [List.take_succ_eq_append_getElem hlt, hy2]
    rw [htk] at hn'
    have hw : IntKind.wrap .i64 ((n : Int) + 1) = ((n + 1 : Nat) : Int) := vbl (by omega)
    have z0 : Ty.zero (.int .i64) = (0 : Int) := rfl
    have hge : decide (y ≥ nx) = !decide (y < nx) := by rw [Bool.eq_iff_iff]; simp
    have hz : ((0 : Nat) : Int) = 0 := rfl
    rw [hz] at hm'
    simp only [vai, vlf, show (n : Int) < (U.length : Int) by omega, decide_true, cond_true, hm', List.drop_zero, vkp, hy]
    cases (U.take n).any (fun z => z == y)
    · cases hc : decide (y < nx)
      · refine ⟨b, (n : Int), fun K => ?_⟩
        simp only [cond_false, Sum.elim_inr, if_pos (show 0 ≤ (n : Int) ∧ (n : Int) < (U.length : Int) by omega), Int.toNat_natCast, z0, hy, hge, hc, Bool.not_false, cond_true, Bool.false_and]
      · refine ⟨b, n', fun K => ?_⟩
        simp only [cond_false, Sum.elim_inr, Sum.elim_inl, if_pos (show 0 ≤ (n : Int) ∧ (n : Int) < (U.length : Int) by omega), Int.toNat_natCast, z0, hy, hge, hc, Bool.not_true, Bool.not_false, Bool.true_and, hw]
        exact hn' K
    · refine ⟨b, (n : Int), fun K => ?_⟩
      simp only [cond_true, Sum.elim_inl, Sum.elim_inr, Bool.not_true, Bool.and_false, Bool.false_and, cond_false]
theorem wu2 {b : tBase.D} (hb : tBase.wt b ≤ 1048576) (k) : vxd b k = k (vip b) := by
  obtain ⟨h1, h2, h3⟩ := vxg hb
  have l1 := vd3 h1
  have l2 := vd3 h2
  have l3 := vd3 h3
  rw [wxz (by omega) (by omega) (by omega)]
  unfold wmz vip
  have hs1 : decide ((b.2.1.length : Int) > 12) = !decide ((b.2.1.length : Int) ≤ 12) := by rw [Bool.eq_iff_iff]; simp
  have hs2 : decide ((b.2.2.1.length : Int) > 3) = !decide ((b.2.2.1.length : Int) ≤ 3) := by rw [Bool.eq_iff_iff]; simp
  simp only [wun h1, vtb, hs1, hs2]
  cases vdl b.1
  · rfl
  cases decide ((b.2.1.length : Int) ≤ 12)
  · rfl
  cases decide ((b.2.2.1.length : Int) ≤ 3)
  · rfl
  cases vaw b.2.2.2.1 0 9999
  · rfl
  cases vaw b.2.2.2.2 1 9999
  · rfl
  simp only [Bool.not_true, cond_false, Bool.true_and, Bool.and_self, vhb]
  obtain ⟨j0, hj0⟩ := v1k (u0 := false) (u2 := b.1) (u3 := b.2.1) (u4 := b.2.2.1) (u5 := b.2.2.2.1) (u6 := b.2.2.2.2) b.1 0
  rw [hj0]
  cases (b.1.all fun y => decide (y.2.2.2 ≤ b.2.2.2.1))
  · rfl
  obtain ⟨j2, s2, hj2⟩ := v03 (u3 := b.2.1) (fun y hy => vch hy h2) l2 (u0 := false) (u2 := b.1) (u4 := b.2.2.1) (u5 := b.2.2.2.1) (u6 := b.2.2.2.2) b.2.1 [] 0 rfl (by simp; omega)
  simp only [cond_true, Sum.elim_inr, hj2, if_true]
  cases vfe b.2.2.2.1 none b.2.1
  · rfl
  obtain ⟨j4, s4, hj4⟩ := v0z (u4 := b.2.2.1) (fun y hy => vch hy h3) l3 (u0 := false) (u2 := b.1) (u3 := b.2.1) (u5 := b.2.2.2.1) (u6 := b.2.2.2.2) b.2.2.1 (b.2.1.map (·.1)) 0 rfl (by simp; omega)
  simp only [cond_true, Sum.elim_inr, List.nil_append, hj4, if_true]
  cases vd1 b.2.2.2.1 none b.2.2.1
  · rfl
  obtain ⟨bb, n', hn'⟩ := v1q (U := b.2.1.map (·.1) ++ b.2.2.1.map (·.1)) (by simp; omega) (x1 := false) (v := b.1) (p := b.2.1) (r := b.2.2.1) (cs := b.2.2.2.1) (nx := b.2.2.2.2) _ 0 Fuel rfl (Nat.lt_of_lt_of_le (by simp; omega) vbq)
  have hz : ((0 : Nat) : Int) = 0 := rfl
  rw [hz] at hn'
  simp only [cond_true, Sum.elim_inr, hn', List.take_zero, List.drop_zero, Bool.true_and]
  cases vkp b.2.2.2.2 [] (b.2.1.map (·.1) ++ b.2.2.1.map (·.1)) <;> rfl
end
end Go.VE
