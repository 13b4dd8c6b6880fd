/- Plain laws: versions, bases. -/
import Derived.Test.YteolgjmeigifbaaBeginR8
import Derived.Test.YteolgjmeigifbaaP3
namespace Go.VE
noncomputable section
set_option linter.unusedVariables false
set_option linter.unusedSimpArgs false
set_option maxRecDepth 100000
def vse (v : tVersion.D) : Bool := vdw v.1 && decide ((v.2.1.size : Int) ≤ 12) && (!v.2.2.1 || vbd v.2.1 ⟨#[]⟩) && vbp v.2.2.2 1 9999
def vq6 (x y : tVersion.D) : Bool := va2 x.1 y.1 || (vbd x.1 y.1 && decide (x.2.2.2 < y.2.2.2))
def vib : Option tVersion.D → List tVersion.D → Bool
  | _, [] => true
  | p, y :: l => vse y && (match p with | none => true | some x => vq6 x y) && vib (some y) l
def veb (l : List tVersion.D) : Bool := vib none l && decide ((l.length : Int) ≤ 120)
def cmpS (x y : ByteArray) : Int := bif va2 x y then -1 else bif !(va2 x y || vbd x y) then 1 else 0
def cmpI (x y : Int) : Int := bif decide (x < y) then -1 else bif decide (x > y) then 1 else 0
def cmpV (x y : tVersion.D) : Int := bif cmpS x.1 y.1 != 0 then cmpS x.1 y.1 else cmpI x.2.2.2 y.2.2.2
theorem wvs (x y) (k) : vz9 x y k = k (cmpS x y) := by
  rw [wmj]
  unfold wal cmpS
  rw [wij]
  unfold wcs
  simp only [vct, Bool.not_true, cond_false]
  cases va2 x y <;> cases vbd x y <;> rfl
theorem wvq (x y) (k) : v0g x y k = k (cmpI x y) := by
  rw [wg2]
  unfold wdg cmpI
  rw [wlf]
  unfold wc0
  simp only [bne_self_eq_false, cond_false]
  cases decide (x < y) <;> cases decide (x > y) <;> rfl
theorem wvf (x y : tVersion.D) (k) : vqu x y k = k (cmpV x y) := by
  rw [wgz]
  unfold waq cmpV
  simp only [wvs, wvq]
  cases cmpS x.1 y.1 != 0 <;> rfl
theorem wru (x y : tVersion.D) : decide (cmpV x y ≥ 0) = !vq6 x y := by
  unfold cmpV vq6 cmpS cmpI
  cases h1 : va2 x.1 y.1
  · cases h2 : vbd x.1 y.1
    · simp
    · simp only [cond_false, Bool.or_true, Bool.not_true, bne_self_eq_false, Bool.false_or, Bool.true_and]
      by_cases h3 : x.2.2.2 < y.2.2.2
      · simp [h3]
      · by_cases h4 : x.2.2.2 > y.2.2.2
        · simp [h3, h4]
        · simp [h3, h4]
  · simp
theorem v0k {u0 : List tVersion.D} (hu : ∀ y ∈ u0, tVersion.wt y ≤ 1048576) (hl : u0.length ≤ 1048576) {u1 u2} : ∀ (l : List tVersion.D) (i : Nat), u0.drop i = l → ∃ j : Int, ∀ k,
    vhw u0 u1 u2 l i k = k (bif vib (if i = 0 then none else some (u0.getD (i - 1) (Ty.zero tVersion))) l then .inr j else .inl (false, j))
  | [], i, _ => ⟨_, fun k => rfl⟩
  | y :: l, i, h => by
    obtain ⟨j, hj⟩ := v0k hu hl (u1 := u1) (u2 := u2) l (i + 1) (vbj h)
    have hlt := vca h
    have hy := (vaw h).2 (Ty.zero tVersion)
    have hyw := hu y (vbx h)
    rw [vvz] at hyw
    rw [if_neg (by omega), show i + 1 - 1 = i by omega, hy] at hj
    simp only [vhw, vww (show y.1.size ≤ 1048576 by omega), v2n, wvf, wru, hj, vib, vse]
    have hsz : decide ((y.2.1.size : Int) > 12) = !decide ((y.2.1.size : Int) ≤ 12) := by
      by_cases h : (y.2.1.size : Int) ≤ 12
      · simp [h]
      · simp [h]; omega
    rw [hsz]
    by_cases hi : i = 0
    · subst hi
      simp only [if_pos, show ¬ ((0 : Nat) : Int) > 0 by omega, decide_false, cond_false, Bool.and_true]
      cases vdw y.1 <;> cases decide ((y.2.1.size : Int) ≤ 12) <;> cases y.2.2.1 <;> cases vbd y.2.1 ⟨#[]⟩ <;> cases vbp y.2.2.2 1 9999 <;> first | (refine ⟨((0 : Nat) : Int), fun k => ?_⟩; simp; done) | (refine ⟨j, fun k => ?_⟩; simp; done)
    · have hw : IntKind.wrap .i64 ((i : Int) - 1) = ((i - 1 : Nat) : Int) := by rw [vbb (by omega) (by omega)]; omega
      have hrd : rd (Ty.zero tVersion) u0 ((i - 1 : Nat) : Int) = u0.getD (i - 1) (Ty.zero tVersion) := rfl
      simp only [if_neg hi, show (i : Int) > 0 by omega, decide_true, cond_true, hw, hrd, if_pos (show 0 ≤ ((i - 1 : Nat) : Int) ∧ ((i - 1 : Nat) : Int) < (u0.length : Int) by omega)]
      cases vdw y.1 <;> cases decide ((y.2.1.size : Int) ≤ 12) <;> cases y.2.2.1 <;> cases vbd y.2.1 ⟨#[]⟩ <;> cases vbp y.2.2.2 1 9999 <;> cases vq6 (u0.getD (i - 1) (Ty.zero tVersion)) y <;> first | (refine ⟨(i : Int), fun k => ?_⟩; simp; done) | (refine ⟨j, fun k => ?_⟩; simp; done)
theorem wvp {x : List tVersion.D} (hx : (Ty.slice tVersion).wt x ≤ 1048576) (k) : vtf x k = k (veb x) := by
  have hl := vb1 hx
  rw [wz9 (by omega)]
  unfold wk1 veb
  obtain ⟨j, hj⟩ := v0k (u0 := x) (fun y hy => vbt hy hx) hl (u1 := false) (u2 := x) x 0 rfl
  rw [hj]
  simp only [if_true]
  cases vib none x <;> rfl
theorem vz2 {u0 : List tVersion.D} (hu : ∀ y ∈ u0, tVersion.wt y ≤ 1048576) (hl : u0.length ≤ 1048576) : ∀ (l : List tVersion.D) (i : Nat), u0.drop i = l → ∃ j : Int, ∀ k,
    vjg u0 false l i k = k (bif vib (if i = 0 then none else some (u0.getD (i - 1) (Ty.zero tVersion))) l then .inr j else .inl (false, j))
  | [], i, _ => ⟨_, fun k => rfl⟩
  | y :: l, i, h => by
    obtain ⟨j, hj⟩ := vz2 hu hl l (i + 1) (vbj h)
    have hlt := vca h
    have hy := (vaw h).2 (Ty.zero tVersion)
    have hyw := hu y (vbx h)
    rw [vvz] at hyw
    rw [if_neg (by omega), show i + 1 - 1 = i by omega, hy] at hj
    simp only [vjg, vd7, vu4 (show y.1.size ≤ 1048576 by omega), vuq, hj, vib, vse]
    have hsz : decide ((y.2.1.size : Int) > 12) = !decide ((y.2.1.size : Int) ≤ 12) := by
      by_cases h : (y.2.1.size : Int) ≤ 12
      · simp [h]
      · simp [h]; omega
    rw [hsz]
    by_cases hi : i = 0
    · subst hi
      simp only [if_pos, show ¬ ((0 : Nat) : Int) > 0 by omega, decide_false, cond_false, Bool.and_true]
      cases vdw y.1 <;> cases decide ((y.2.1.size : Int) ≤ 12) <;> cases y.2.2.1 <;> cases vbd y.2.1 ⟨#[]⟩ <;> cases vbp y.2.2.2 1 9999 <;> first | (refine ⟨((0 : Nat) : Int), fun k => ?_⟩; simp; done) | (refine ⟨j, fun k => ?_⟩; simp; done)
    · have hw : IntKind.wrap .i64 ((i : Int) - 1) = ((i - 1 : Nat) : Int) := by rw [vbb (by omega) (by omega)]; omega
      have hrd : rd (Ty.zero tVersion) u0 ((i - 1 : Nat) : Int) = u0.getD (i - 1) (Ty.zero tVersion) := rfl
      simp only [if_neg hi, show (i : Int) > 0 by omega, decide_true, cond_true, hw, hrd, if_pos (show 0 ≤ ((i - 1 : Nat) : Int) ∧ ((i - 1 : Nat) : Int) < (u0.length : Int) by omega)]
      generalize u0.getD (i - 1) (Ty.zero tVersion) = x
      have hge : decide (x.2.2.2 ≥ y.2.2.2) = !decide (x.2.2.2 < y.2.2.2) := by rw [Bool.eq_iff_iff]; simp
      unfold vq6
      rw [hge]
      cases h1 : va2 x.1 y.1
      · cases vdw y.1 <;> cases decide ((y.2.1.size : Int) ≤ 12) <;> cases y.2.2.1 <;> cases vbd y.2.1 ⟨#[]⟩ <;> cases vbp y.2.2.2 1 9999 <;> cases vbd x.1 y.1 <;> cases decide (x.2.2.2 < y.2.2.2) <;> first | (refine ⟨(i : Int), fun k => ?_⟩; simp; done) | (refine ⟨j, fun k => ?_⟩; simp; done)
      · rw [we8 h1]
        cases vdw y.1 <;> cases decide ((y.2.1.size : Int) ≤ 12) <;> cases y.2.2.1 <;> cases vbd y.2.1 ⟨#[]⟩ <;> cases vbp y.2.2.2 1 9999 <;> first | (refine ⟨(i : Int), fun k => ?_⟩; simp; done) | (refine ⟨j, fun k => ?_⟩; simp; done)
theorem wuu {x : List tVersion.D} (hx : (Ty.slice tVersion).wt x ≤ 1048576) (k) : vty x k = k (veb x) := by
  have hl := vb1 hx
  rw [w3t (by omega)]
  unfold wiw veb
  obtain ⟨j, hj⟩ := vz2 (u0 := x) (fun y hy => vbt hy hx) hl x 0 rfl
  rw [hj]
  simp only [if_true]
  cases vib none x <;> rfl
/-- What was let through: right, done, not behind the counter, numbers ascending. -/
def vhg (cs : Int) : Option tTxn.D → List tTxn.D → Bool
  | _, [] => true
  | p, y :: l => vd0 y && (y.2.1 == 3) && decide (y.2.2.2.1 ≤ cs) && (match p with | none => true | some x => decide (x.2.2.2.1 < y.2.2.2.1)) && vhg cs (some y) l
/-- What is ready: right, names ascending. -/
def vet (cs : Int) : Option tTxn.D → List tTxn.D → Bool
  | _, [] => true
  | p, y :: l => vd0 y && (y.2.1 == 2) && decide (y.2.2.1 ≤ cs) && (match p with | none => true | some x => va2 x.2.2.2.2.2.2.2 y.2.2.2.2.2.2.2) && vet cs (some y) l
/-- Numbers: below a bound, unlike. -/
def vdb (nx : Int) : List Int → List Int → Bool
  | _, [] => true
  | pre, y :: l => decide (y < nx) && !(pre.any fun z => z == y) && vdb nx (pre ++ [y]) l
theorem vzk {u5 : List tTxn.D} (hu : ∀ y ∈ u5, tTxn.wt y ≤ 1048576) (hl : u5.length ≤ 1048576) {u0 u1 u4 u6 u7 u8} : ∀ (l : List tTxn.D) (i : Nat), u5.drop i = l → ∃ j : Int, ∀ k,
    vjj u0 u1 u4 u5 u6 u7 u8 l i k = k (bif vhg u7 (if i = 0 then none else some (u5.getD (i - 1) (Ty.zero tTxn))) l then .inr j else .inl (false, j))
  | [], i, _ => ⟨_, fun k => rfl⟩
  | y :: l, i, h => by
    obtain ⟨j, hj⟩ := vzk hu hl (u0 := u0) (u1 := u1) (u4 := u4) (u6 := u6) (u7 := u7) (u8 := u8) l (i + 1) (vbj h)
    have hlt := vca h
    have hy := (vaw h).2 (Ty.zero tTxn)
    rw [if_neg (by omega), show i + 1 - 1 = i by omega, hy] at hj
    have hcs : decide (y.2.2.2.1 > u7) = !decide (y.2.2.2.1 ≤ u7) := by rw [Bool.eq_iff_iff]; simp
    simp only [vjj, v6c (hu y (vbx h)), wui, hj, vhg, hcs]
    by_cases hi : i = 0
    · subst hi
      simp only [if_pos, show ¬ ((0 : Nat) : Int) > 0 by omega, decide_false, cond_false, Bool.and_true]
      cases vd0 y <;> cases (y.2.1 == 3) <;> cases decide (y.2.2.2.1 ≤ u7) <;> first | (refine ⟨((0 : Nat) : Int), fun k => ?_⟩; simp; done) | (refine ⟨j, fun k => ?_⟩; simp; done)
    · have hw : IntKind.wrap .i64 ((i : Int) - 1) = ((i - 1 : Nat) : Int) := by rw [vbb (by omega) (by omega)]; omega
      have hrd : rd (Ty.zero tTxn) u5 ((i - 1 : Nat) : Int) = u5.getD (i - 1) (Ty.zero tTxn) := rfl
      simp only [if_neg hi, show (i : Int) > 0 by omega, decide_true, cond_true, hw, hrd, if_pos (show 0 ≤ ((i - 1 : Nat) : Int) ∧ ((i - 1 : Nat) : Int) < (u5.length : Int) by omega)]
      generalize u5.getD (i - 1) (Ty.zero tTxn) = x
      have hge : decide (x.2.2.2.1 ≥ y.2.2.2.1) = !decide (x.2.2.2.1 < y.2.2.2.1) := by rw [Bool.eq_iff_iff]; simp
      rw [hge]
      cases vd0 y <;> cases (y.2.1 == 3) <;> cases decide (y.2.2.2.1 ≤ u7) <;> cases decide (x.2.2.2.1 < y.2.2.2.1) <;> first | (refine ⟨(i : Int), fun k => ?_⟩; simp; done) | (refine ⟨j, fun k => ?_⟩; simp; done)
theorem vz7 {u6 : List tTxn.D} (hu : ∀ y ∈ u6, tTxn.wt y ≤ 1048576) (hl : u6.length ≤ 1048576) {u0 u1 u4 u5 u7 u8} : ∀ (l : List tTxn.D) (i : Nat), u6.drop i = l → ∃ j : Int, ∀ k,
    vky u0 u1 u4 u5 u6 u7 u8 l i k = k (bif vet u7 (if i = 0 then none else some (u6.getD (i - 1) (Ty.zero tTxn))) l then .inr j else .inl (false, j))
  | [], i, _ => ⟨_, fun k => rfl⟩
  | y :: l, i, h => by
    obtain ⟨j, hj⟩ := vz7 hu hl (u0 := u0) (u1 := u1) (u4 := u4) (u5 := u5) (u7 := u7) (u8 := u8) l (i + 1) (vbj h)
    have hlt := vca h
    have hy := (vaw h).2 (Ty.zero tTxn)
    rw [if_neg (by omega), show i + 1 - 1 = i by omega, hy] at hj
    have hcs : decide (y.2.2.1 > u7) = !decide (y.2.2.1 ≤ u7) := by rw [Bool.eq_iff_iff]; simp
    simp only [vky, v6c (hu y (vbx h)), wuh, hj, vet, hcs]
    by_cases hi : i = 0
    · subst hi
      simp only [if_pos, show ¬ ((0 : Nat) : Int) > 0 by omega, decide_false, cond_false, Bool.and_true]
      cases vd0 y <;> cases (y.2.1 == 2) <;> cases decide (y.2.2.1 ≤ u7) <;> first | (refine ⟨((0 : Nat) : Int), fun k => ?_⟩; simp; done) | (refine ⟨j, fun k => ?_⟩; simp; done)
    · have hw : IntKind.wrap .i64 ((i : Int) - 1) = ((i - 1 : Nat) : Int) := by rw [vbb (by omega) (by omega)]; omega
      have hrd : rd (Ty.zero tTxn) u6 ((i - 1 : Nat) : Int) = u6.getD (i - 1) (Ty.zero tTxn) := rfl
      simp only [if_neg hi, show (i : Int) > 0 by omega, decide_true, cond_true, hw, hrd, if_pos (show 0 ≤ ((i - 1 : Nat) : Int) ∧ ((i - 1 : Nat) : Int) < (u6.length : Int) by omega)]
      generalize u6.getD (i - 1) (Ty.zero tTxn) = x
      cases vd0 y <;> cases (y.2.1 == 2) <;> cases decide (y.2.2.1 ≤ u7) <;> cases va2 x.2.2.2.2.2.2.2 y.2.2.2.2.2.2.2 <;> first | (refine ⟨(i : Int), fun k => ?_⟩; simp; done) | (refine ⟨j, fun k => ?_⟩; simp; done)
theorem v0r {u0 u1 u4 u5 u6 u7 u8} : ∀ (l : List tVersion.D) (i : Nat), ∃ j : Int, ∀ k,
    vls u0 u1 u4 u5 u6 u7 u8 l i k = k (bif l.all (fun y => decide (y.2.2.2 ≤ u7)) then .inr j else .inl (false, j))
  | [], i => ⟨_, fun k => rfl⟩
  | y :: l, i => by
    obtain ⟨j, hj⟩ := v0r (u0 := u0) (u1 := u1) (u4 := u4) (u5 := u5) (u6 := u6) (u7 := u7) (u8 := u8) l (i + 1)
    have hcs : decide (y.2.2.2 > u7) = !decide (y.2.2.2 ≤ u7) := by rw [Bool.eq_iff_iff]; simp
    simp only [vls, hj, List.all_cons, hcs]
    cases decide (y.2.2.2 ≤ u7)
    · exact ⟨(i : Int), fun k => rfl⟩
    · exact ⟨j, fun k => rfl⟩
theorem v5r {u0 u2} {α : Type} : ∀ (l : List (List tTxn.D)) (s : Int) (i : Nat), 0 ≤ s → s + ((l.map List.length).sum : Int) ≤ 100000000 → ∃ j : Int, ∀ k, vke u0 u2 l s i k = k (s + ((l.map List.length).sum : Int), j)
  | [], s, i, _, _ => ⟨_, fun k => by simp [vke]; rfl⟩
  | y :: l, s, i, h0, h => by
    simp only [List.map_cons, List.sum_cons] at h
    have hw : IntKind.wrap .i64 (s + (y.length : Int)) = s + (y.length : Int) := vbb (by omega) (by omega)
    obtain ⟨j, hj⟩ := v5r (u0 := u0) (u2 := u2) (α := α) l (s + (y.length : Int)) (i + 1) (by omega) (by push_cast at h; omega)
    refine ⟨j, fun k => ?_⟩
    simp only [vke, hw, show decide (s + (y.length : Int) < 0) = false by simp; omega, cond_false, hj]
    congr 2
    simp only [List.map_cons, List.sum_cons]
    push_cast
    omega
theorem vv4 {u : List (List tTxn.D)} (hu : u.length ≤ 1000) : ∀ (l : List (List tTxn.D)) (i : Nat) (s : List tTxn.D) (q : Nat), u.drop i = l → s.length + (l.map List.length).sum ≤ 100000000 → l.length < q →
    ∃ j : Int, ∀ K, vah ved q (.inl (u, (u.length : Int), (i : Int), s)) K = K (.inl (u, (u.length : Int), j, s ++ l.flatten))
  | [], i, s, q, h, hs, hq => by
    obtain ⟨q, rfl⟩ : ∃ r, q = r + 1 := ⟨q - 1, by omega⟩
    have hi : u.length ≤ i := by have := congrArg List.length h; simp at this; omega
    refine ⟨(i : Int), fun K => ?_⟩
    simp only [vah, ved, Sum.elim_inl, show ¬ ((i : Int) < (u.length : Int)) by omega, decide_false, cond_false, Sum.elim_inr, List.flatten_nil, List.append_nil]
  | y :: l, i, s, q, h, hs, hq => by
    obtain ⟨q, rfl⟩ : ∃ r, q = r + 1 := ⟨q - 1, by omega⟩
    simp only [List.map_cons, List.sum_cons, List.length_cons] at hs hq
    have hlt := vca h
    have hy := (vaw h).1 (Ty.zero (.slice tTxn))
    have hm : s.length + y.length ≤ VE.maxLen := by show _ ≤ 4294967296; omega
    have hw : IntKind.wrap .i64 ((i : Int) + 1) = ((i + 1 : Nat) : Int) := vgw (by omega)
    obtain ⟨j, hj⟩ := vv4 hu l (i + 1) (s ++ y) q (vbj h) (by rw [List.length_append]; omega) (by omega)
    refine ⟨j, fun K => ?_⟩
    simp only [vah, ved, Sum.elim_inl, show ((i : Int) < (u.length : Int)) by omega, show (0 : Int) ≤ (i : Int) by omega, decide_true, cond_true, and_self, if_true, hy, hm, hw]
    rw [hj, List.flatten_cons, List.append_assoc]
theorem wfd {u : List (List tTxn.D)} (hu : u.length ≤ 1000) (hs : (u.map List.length).sum ≤ 100000000) {q : Nat} (hq : u.length < q) :
    ∃ z : (_ ⊕ _), (∃ j : Int, z = .inl (u, (u.length : Int), j, u.flatten) ∨ z = .inr (u, (u.length : Int), j, u.flatten)) ∧ ∀ K, vah ved q (.inr (u, (u.length : Int), (0 : Int), ([] : List tTxn.D))) K = K z := by
  obtain ⟨q, rfl⟩ : ∃ r, q = r + 1 := ⟨q - 1, by omega⟩
  cases h : u with
  | nil =>
    refine ⟨_, ⟨0, .inr rfl⟩, fun K => ?_⟩
    simp only [vah, ved, Sum.elim_inr, List.length_nil]
    rfl
  | cons y l =>
    rw [← h]
    have hd : u.drop 0 = y :: l := by rw [List.drop_zero, h]
    have hlt := vca hd
    have hy := (vaw hd).1 (Ty.zero (.slice tTxn))
    have hs' : y.length + (l.map List.length).sum ≤ 100000000 := by rw [h] at hs; simpa using hs
    have hm : ([] : List tTxn.D).length + y.length ≤ VE.maxLen := by show _ ≤ 4294967296; simp; omega
    have hl : u.length = l.length + 1 := by rw [h]; rfl
    obtain ⟨j, hj⟩ := vv4 hu l 1 ([] ++ y) q (by rw [h]; rfl) (by simpa using hs') (by omega)
    refine ⟨_, ⟨j, .inl rfl⟩, fun K => ?_⟩
    simp only [vah, ved, Sum.elim_inl, Sum.elim_inr, show ((0 : Int) < (u.length : Int)) by omega, Int.le_refl, decide_true, cond_true, and_self, if_true]
    rw [show rd (Ty.zero (.slice tTxn)) u (0 : Int) = y from hy, if_pos hm, show IntKind.wrap .i64 ((0 : Int) + 1) = ((1 : Nat) : Int) by rfl]
    rw [hj]
    congr 2
    rw [h, List.flatten_cons, List.nil_append]
theorem vm9 (n : Int) (h0 : 0 ≤ n) (h1 : n ≤ 100000000) : ∃ y, (y = .inl ([] : List tTxn.D) ∨ y = .inr ([] : List tTxn.D)) ∧ ∀ k, vu2 n k = k y := by
  simp only [wil]
  unfold wce
  have e0 : IntKind.wrap .i64 ((0 : Int) - 0) = 0 := vbb (by omega) (by omega)
  have e1 : IntKind.wrap .i64 (n - 0) = n := by rw [vbb (by omega) (by omega)]; omega
  simp only [e0, e1, show decide (n < 0) = false by simp; omega, cond_false]
  by_cases hn : n > 0
  · have e3 : 0 ≤ n ∧ n ≤ (VE.maxLen : Int) := ⟨h0, by show n ≤ 4294967296; omega⟩
    simp only [hn, decide_true, cond_true]
    refine ⟨_, .inl rfl, fun k => ?_⟩
    rw [if_pos (by omega), if_pos e3, if_pos ⟨by omega, by omega⟩]
    simp
  · simp only [hn, decide_false, cond_false]
    exact ⟨_, .inr rfl, fun k => rfl⟩
theorem wdo {u : List (List tTxn.D)} (hu : u.length ≤ 1000) (hs : (u.map List.length).sum ≤ 100000000) (f : List tTxn.D → Option Res) : vli u (Sum.elim f f) = f u.flatten := by
  rw [w2d (by omega)]
  unfold wje
  obtain ⟨j, hj⟩ := v5r (u0 := u) (u2 := u) (α := Unit) u 0 0 (by omega) (by omega)
  rw [hj]
  obtain ⟨y, hy, hg⟩ := vm9 (0 + ((u.map List.length).sum : Int)) (by omega) (by omega)
  rw [hg]
  rcases hy with rfl | rfl
  · simp only [Sum.elim_inl]
    obtain ⟨j2, hj2⟩ := vv4 hu u 0 [] Fuel (List.drop_zero) (by simpa using hs) (Nat.lt_of_lt_of_le (by omega) vei)
    rw [show (0 : Int) = ((0 : Nat) : Int) from rfl, hj2]
    simp
  · simp only [Sum.elim_inr]
    obtain ⟨z, ⟨j2, hz⟩, hj2⟩ := wfd hu hs (q := Fuel) (Nat.lt_of_lt_of_le (by omega) vei)
    rw [hj2]
    rcases hz with rfl | rfl <;> simp
theorem wun {a b : List tTxn.D} (ha : a.length ≤ 1048577) (hb : b.length ≤ 1048577) (f) : vli [a, b] (Sum.elim f f) = f (a ++ b) := by
  rw [wdo (by simp) (by simp; omega)]
  simp
theorem wuk (x t : tTxn.D) (k) : vux x t.1 t.2.1 t.2.2.1 t.2.2.2.1 t.2.2.2.2.1 t.2.2.2.2.2.1 t.2.2.2.2.2.2.1 t.2.2.2.2.2.2.2 k = k ((x.1 == t.1), t.1, t.2.1, t.2.2.1, t.2.2.2.1, t.2.2.2.2.1, t.2.2.2.2.2.1, t.2.2.2.2.2.2.1, t.2.2.2.2.2.2.2) := by
  rw [wl3]; rfl
theorem v0s {u0 u1} {t : tTxn.D} : ∀ (l : List tTxn.D) (i : Nat), ∃ a : Nat, ∃ b : Int, ∀ k,
    vma u0 u1 l t.1 t.2.1 t.2.2.1 t.2.2.2.1 t.2.2.2.2.1 t.2.2.2.2.2.1 t.2.2.2.2.2.2.1 t.2.2.2.2.2.2.2 i k = k (bif l.any (fun x => x.1 == t.1) then .inl ((a : Int), b, t.1, t.2.1, t.2.2.1, t.2.2.2.1, t.2.2.2.2.1, t.2.2.2.2.2.1, t.2.2.2.2.2.2.1, t.2.2.2.2.2.2.2) else .inr (b, t.1, t.2.1, t.2.2.1, t.2.2.2.1, t.2.2.2.2.1, t.2.2.2.2.2.1, t.2.2.2.2.2.2.1, t.2.2.2.2.2.2.2))
  | [], i => ⟨0, _, fun k => rfl⟩
  | y :: l, i => by
    obtain ⟨a, b, hab⟩ := v0s (u0 := u0) (u1 := u1) (t := t) l (i + 1)
    simp only [vma, wuk, hab, List.any_cons]
    cases y.1 == t.1
    · exact ⟨a, b, fun k => rfl⟩
    · exact ⟨i, (i : Int), fun k => rfl⟩
theorem wvl {t : tTxn.D} {l : List tTxn.D} (hlen : l.length ≤ 3000000) (k) : vu7 l t.1 t.2.1 t.2.2.1 t.2.2.2.1 t.2.2.2.2.1 t.2.2.2.2.2.1 t.2.2.2.2.2.2.1 t.2.2.2.2.2.2.2 k = k (l.any (fun x => x.1 == t.1), t.1, t.2.1, t.2.2.1, t.2.2.2.1, t.2.2.2.2.1, t.2.2.2.2.2.1, t.2.2.2.2.2.2.1, t.2.2.2.2.2.2.2) := by
  obtain ⟨a, b, hab⟩ := v0s (u0 := l) (u1 := 0) (t := t) l 0
  rw [whf]
  unfold wed
  rw [wh7]
  unfold war
  rw [w2r (by omega)]
  unfold whu
  rw [hab]
  cases (l.any fun x => x.1 == t.1)
  · rfl
  · have : decide ((a : Int) ≥ 0) = true := by simp
    simp only [cond_true, Sum.elim_inl, this]
theorem v0m {u0 : List tTxn.D} (hl : u0.length ≤ 3000000) {u1 u2 u3} : ∀ (l : List tTxn.D) (i : Nat), u0.drop i = l → ∃ j : Int, ∀ k,
    vl5 u0 u1 u2 u3 l i k = k (bif vdb u1 ((u0.take i).map (·.1)) (l.map (·.1)) then .inr j else .inl (false, j))
  | [], i, _ => ⟨_, fun k => rfl⟩
  | y :: l, i, h => by
    obtain ⟨j, hj⟩ := v0m hl (u1 := u1) (u2 := u2) (u3 := u3) l (i + 1) (vbj h)
    have hlt := vca h
    have hge : decide (y.1 ≥ u1) = !decide (y.1 < u1) := by rw [Bool.eq_iff_iff]; simp
    have hy : u0[i] = y := by have := vh9 h; rw [List.getElem?_eq_getElem hlt] at this; exact Option.some.inj this
    have htk : (u0.take (i + 1)).map (·.1) = (u0.take i).map (·.1) ++ [y.1] := by rw [List.take_succ_eq_append_getElem hlt, List.map_append, hy]; rfl
    have han : ((u0.take i).map (·.1)).any (fun z => z == y.1) = (u0.take i).any (fun x => x.1 == y.1) := by rw [List.any_map]; rfl
    rw [htk] at hj
    have hsl : ((u0.take (i : Int).toNat).drop (0 : Int).toNat) = u0.take i := by simp
    simp only [vl5, if_pos (show 0 ≤ (0 : Int) ∧ (0 : Int) ≤ (i : Int) ∧ (i : Int) ≤ (u0.length : Int) by omega), hsl, wvl (t := y) (show (u0.take i).length ≤ 3000000 by simp; omega), hj, hge, List.map_cons, vdb, han]
    cases decide (y.1 < u1) <;> cases (u0.take i).any (fun x => x.1 == y.1) <;> first | (refine ⟨(i : Int), fun k => ?_⟩; simp; done) | (refine ⟨j, fun k => ?_⟩; simp; done)
theorem wl8 {l : List tTxn.D} (hl : l.length ≤ 3000000) (n : Int) (k) : vh6 l n k = k (vdb n [] (l.map (·.1))) := by
  rw [wyu (by omega)]
  unfold whx
  obtain ⟨j, hj⟩ := v0m (u0 := l) hl (u1 := n) (u2 := false) (u3 := l) l 0 rfl
  rw [hj]
  simp only [List.take_zero, List.map_nil]
  cases vdb n [] (l.map (·.1)) <;> rfl
def vje (b : tBase.D) : Bool :=
  veb b.1 && decide ((b.2.1.length : Int) ≤ 12) && decide ((b.2.2.1.length : Int) ≤ 3) && vbp b.2.2.2.1 0 9999 && vbp b.2.2.2.2 1 9999 &&
    (b.1.all fun y => decide (y.2.2.2 ≤ b.2.2.2.1)) && vhg b.2.2.2.1 none b.2.1 && vet b.2.2.2.1 none b.2.2.1 && vdb b.2.2.2.2 [] (b.2.1.map (·.1) ++ b.2.2.1.map (·.1))
theorem vql {b : tBase.D} (hb : tBase.wt b ≤ 1048576) : (Ty.slice tVersion).wt b.1 ≤ 1048576 ∧ (Ty.slice tTxn).wt b.2.1 ≤ 1048576 ∧ (Ty.slice tTxn).wt b.2.2.1 ≤ 1048576 := by
  rw [vxa] at hb; omega
theorem wvk {b : tBase.D} (hb : tBase.wt b ≤ 1048576) (k) : vte b k = k (vje b) := by
  obtain ⟨h1, h2, h3⟩ := vql hb
  have l1 := vb1 h1
  have l2 := vb1 h2
  have l3 := vb1 h3
  rw [wwe (by omega) (by omega) (by omega)]
  unfold wl4 vje
  have hs1 : decide ((b.2.1.length : Int) > 12) = !decide ((b.2.1.length : Int) ≤ 12) := by rw [Bool.eq_iff_iff]; simp
  have hs2 : decide ((b.2.2.1.length : Int) > 3) = !decide ((b.2.2.1.length : Int) ≤ 3) := by rw [Bool.eq_iff_iff]; simp
  simp only [wvp h1, v2n, hs1, hs2]
  cases veb b.1
  · rfl
  cases decide ((b.2.1.length : Int) ≤ 12)
  · rfl
  cases decide ((b.2.2.1.length : Int) ≤ 3)
  · rfl
  cases vbp b.2.2.2.1 0 9999
  · rfl
  cases vbp b.2.2.2.2 1 9999
  · rfl
  simp only [Bool.not_true, cond_false, Bool.true_and, Bool.and_self, vgp]
  obtain ⟨j0, hj0⟩ := v0r (u0 := false) (u1 := b.1) (u4 := b.1) (u5 := b.2.1) (u6 := b.2.2.1) (u7 := b.2.2.2.1) (u8 := b.2.2.2.2) b.1 0
  rw [hj0]
  cases (b.1.all fun y => decide (y.2.2.2 ≤ b.2.2.2.1))
  · rfl
  obtain ⟨j2, hj2⟩ := vzk (u5 := b.2.1) (fun y hy => vbt hy h2) l2 (u0 := false) (u1 := b.2.1) (u4 := b.1) (u6 := b.2.2.1) (u7 := b.2.2.2.1) (u8 := b.2.2.2.2) b.2.1 0 rfl
  simp only [cond_true, Sum.elim_inr, hj2, if_true]
  cases vhg b.2.2.2.1 none b.2.1
  · rfl
  obtain ⟨j4, hj4⟩ := vz7 (u6 := b.2.2.1) (fun y hy => vbt hy h3) l3 (u0 := false) (u1 := b.2.2.1) (u4 := b.1) (u5 := b.2.1) (u7 := b.2.2.2.1) (u8 := b.2.2.2.2) b.2.2.1 0 rfl
  simp only [cond_true, Sum.elim_inr, hj4, if_true]
  cases vet b.2.2.2.1 none b.2.2.1
  · rfl
  simp only [cond_true, Sum.elim_inr, wun (show b.2.1.length ≤ 1048577 by omega) (show b.2.2.1.length ≤ 1048577 by omega), wl8 (show (b.2.1 ++ b.2.2.1).length ≤ 3000000 by simp; omega), List.map_append, Bool.true_and]
theorem vy9 {u0 u2 u3 u4 u5 u6} : ∀ (l : List tVersion.D) (i : Nat), ∃ j : Int, ∀ k,
    vl9 u0 u2 u3 u4 u5 u6 l i k = k (bif l.all (fun y => decide (y.2.2.2 ≤ u5)) then .inr j else .inl (false, j))
  | [], i => ⟨_, fun k => rfl⟩
  | y :: l, i => by
    obtain ⟨j, hj⟩ := vy9 (u0 := u0) (u2 := u2) (u3 := u3) (u4 := u4) (u5 := u5) (u6 := u6) l (i + 1)
    have hcs : decide (y.2.2.2 > u5) = !decide (y.2.2.2 ≤ u5) := by rw [Bool.eq_iff_iff]; simp
    simp only [vl9, hj, List.all_cons, hcs]
    cases decide (y.2.2.2 ≤ u5)
    · exact ⟨(i : Int), fun k => rfl⟩
    · exact ⟨j, fun k => rfl⟩
theorem v01 {u3 : List tTxn.D} (hu : ∀ y ∈ u3, tTxn.wt y ≤ 1048576) (hl : u3.length ≤ 1048576) {u0 u2 u4 u5 u6} : ∀ (l : List tTxn.D) (s : List Int) (i : Nat), u3.drop i = l → s.length + l.length ≤ 3000000 → ∃ j : Int, ∃ s' : List Int, ∀ k,
    vik u0 u2 u3 u4 u5 u6 l s i k = k (bif vhg u5 (if i = 0 then none else some (u3.getD (i - 1) (Ty.zero tTxn))) l then .inr (j, s ++ l.map (·.1)) else .inl (false, j, s'))
  | [], s, i, _, _ => ⟨_, s, fun k => by simp [vik, vhg]; rfl⟩
  | y :: l, s, i, h, hs => by
    obtain ⟨j, s', hj⟩ := v01 hu hl (u0 := u0) (u2 := u2) (u4 := u4) (u5 := u5) (u6 := u6) l (s ++ [y.1]) (i + 1) (vbj h) (by simp at hs ⊢; omega)
    have hlt := vca h
    have hy := (vaw h).2 (Ty.zero tTxn)
    rw [if_neg (by omega), show i + 1 - 1 = i by omega, hy] at hj
    have hcs : decide (y.2.2.2.1 > u5) = !decide (y.2.2.2.1 ≤ u5) := by rw [Bool.eq_iff_iff]; simp
    have hm : s.length + [y.1].length ≤ VE.maxLen := by show _ ≤ 4294967296; simp at hs ⊢; omega
    have hb : (y.2.1 != 3) = !(y.2.1 == 3) := rfl
    simp only [vik, v6t (hu y (vbx h)), if_pos hm, hj, vhg, hcs, hb]
    by_cases hi : i = 0
    · subst hi
      simp only [if_pos, show ¬ ((0 : Nat) : Int) > 0 by omega, decide_false, cond_false, Bool.and_true]
      cases vd0 y <;> cases (y.2.1 == 3) <;> cases decide (y.2.2.2.1 ≤ u5) <;> first | (refine ⟨((0 : Nat) : Int), s, fun k => ?_⟩; simp; done) | (refine ⟨j, s', fun k => ?_⟩; simp; done)
    · have hw : IntKind.wrap .i64 ((i : Int) - 1) = ((i - 1 : Nat) : Int) := by rw [vbb (by omega) (by omega)]; omega
      have hrd : rd (Ty.zero tTxn) u3 ((i - 1 : Nat) : Int) = u3.getD (i - 1) (Ty.zero tTxn) := rfl
      simp only [if_neg hi, show (i : Int) > 0 by omega, decide_true, cond_true, hw, hrd, if_pos (show 0 ≤ ((i - 1 : Nat) : Int) ∧ ((i - 1 : Nat) : Int) < (u3.length : Int) by omega)]
      generalize u3.getD (i - 1) (Ty.zero tTxn) = x
      have hge : decide (x.2.2.2.1 ≥ y.2.2.2.1) = !decide (x.2.2.2.1 < y.2.2.2.1) := by rw [Bool.eq_iff_iff]; simp
      rw [hge]
      cases vd0 y <;> cases (y.2.1 == 3) <;> cases decide (y.2.2.2.1 ≤ u5) <;> cases decide (x.2.2.2.1 < y.2.2.2.1) <;> first | (refine ⟨(i : Int), s, fun k => ?_⟩; simp; done) | (refine ⟨j, s', fun k => ?_⟩; simp; done)
theorem v00 {u4 : List tTxn.D} (hu : ∀ y ∈ u4, tTxn.wt y ≤ 1048576) (hl : u4.length ≤ 1048576) {u0 u2 u3 u5 u6} : ∀ (l : List tTxn.D) (s : List Int) (i : Nat), u4.drop i = l → s.length + l.length ≤ 3000000 → ∃ j : Int, ∃ s' : List Int, ∀ k,
    viv u0 u2 u3 u4 u5 u6 l s i k = k (bif vet u5 (if i = 0 then none else some (u4.getD (i - 1) (Ty.zero tTxn))) l then .inr (j, s ++ l.map (·.1)) else .inl (false, j, s'))
  | [], s, i, _, _ => ⟨_, s, fun k => by simp [viv, vet]; rfl⟩
  | y :: l, s, i, h, hs => by
    obtain ⟨j, s', hj⟩ := v00 hu hl (u0 := u0) (u2 := u2) (u3 := u3) (u5 := u5) (u6 := u6) l (s ++ [y.1]) (i + 1) (vbj h) (by simp at hs ⊢; omega)
    have hlt := vca h
    have hy := (vaw h).2 (Ty.zero tTxn)
    rw [if_neg (by omega), show i + 1 - 1 = i by omega, hy] at hj
    have hcs : decide (y.2.2.1 > u5) = !decide (y.2.2.1 ≤ u5) := by rw [Bool.eq_iff_iff]; simp
    have hm : s.length + [y.1].length ≤ VE.maxLen := by show _ ≤ 4294967296; simp at hs ⊢; omega
    have hb : (y.2.1 != 2) = !(y.2.1 == 2) := rfl
    simp only [viv, v6t (hu y (vbx h)), if_pos hm, hj, vet, hcs, hb]
    by_cases hi : i = 0
    · subst hi
      simp only [if_pos, show ¬ ((0 : Nat) : Int) > 0 by omega, decide_false, cond_false, Bool.and_true]
      cases vd0 y <;> cases (y.2.1 == 2) <;> cases decide (y.2.2.1 ≤ u5) <;> first | (refine ⟨((0 : Nat) : Int), s, fun k => ?_⟩; simp; done) | (refine ⟨j, s', fun k => ?_⟩; simp; done)
    · have hw : IntKind.wrap .i64 ((i : Int) - 1) = ((i - 1 : Nat) : Int) := by rw [vbb (by omega) (by omega)]; omega
      have hrd : rd (Ty.zero tTxn) u4 ((i - 1 : Nat) : Int) = u4.getD (i - 1) (Ty.zero tTxn) := rfl
      simp only [if_neg hi, show (i : Int) > 0 by omega, decide_true, cond_true, hw, hrd, if_pos (show 0 ≤ ((i - 1 : Nat) : Int) ∧ ((i - 1 : Nat) : Int) < (u4.length : Int) by omega)]
      generalize u4.getD (i - 1) (Ty.zero tTxn) = x
      cases vd0 y <;> cases (y.2.1 == 2) <;> cases decide (y.2.2.1 ≤ u5) <;> cases va2 x.2.2.2.2.2.2.2 y.2.2.2.2.2.2.2 <;> first | (refine ⟨(i : Int), s, fun k => ?_⟩; simp; done) | (refine ⟨j, s', fun k => ?_⟩; simp; done)
theorem vzt {U : List Int} (hU : U.length ≤ 3000000) {x1 : Bool} {v p r cs nx} {n : Nat} (hn : n < U.length) : ∀ (d m q : Nat), n - m = d → m ≤ n → d < q → ∃ m' : Int, ∀ K,
    vah vmj q (x1, (n : Int), (m : Int), v, p, r, cs, nx, U) K = K (bif ((U.take n).drop m).any (fun z => z == U.getD n 0) then .inl (false, (n : Int), m', v, p, r, cs, nx, U) else .inr (x1, (n : Int), m', v, p, r, cs, nx, U))
  | d, m, 0, _, _, h => by omega
  | d, m, q + 1, hd, hm, hq => by
    by_cases hlt : m < n
    · obtain ⟨m', hm'⟩ := vzt hU hn (x1 := x1) (v := v) (p := p) (r := r) (cs := cs) (nx := nx) (d - 1) (m + 1) q (by omega) (by omega) (by omega)
      have hdr : (U.take n).drop m = U.getD m 0 :: (U.take n).drop (m + 1) := by
        rw [List.drop_eq_getElem_cons (by simp; omega), List.getElem_take]
        congr 1
        exact (vic 0 (by omega)).symm
      have hw : IntKind.wrap .i64 ((m : Int) + 1) = ((m + 1 : Nat) : Int) := vgw (by omega)
      have z0 : Ty.zero (.int .i64) = (0 : Int) := rfl
      simp only [vah, vmj, show (m : Int) < (n : Int) by omega, decide_true, cond_true, if_pos (show 0 ≤ (m : Int) ∧ (m : Int) < (U.length : Int) by omega), if_pos (show 0 ≤ (n : Int) ∧ (n : Int) < (U.length : Int) by omega), Int.toNat_natCast, hdr, List.any_cons, z0]
      cases hc : U.getD m 0 == U.getD n 0
      · refine ⟨m', fun K => ?_⟩
        simp only [cond_false, Sum.elim_inl, hw, Bool.false_or]
        exact hm' K
      · exact ⟨(m : Int), fun K => by simp⟩
    · have hmn : m = n := by omega
      subst hmn
      refine ⟨(m : Int), fun K => ?_⟩
      simp only [vah, vmj, show ¬ (m : Int) < (m : Int) by omega, decide_false, cond_false, Sum.elim_inr]
      have : (U.take m).drop m = [] := List.drop_eq_nil_of_le (by simp; omega)
      rw [this]; rfl
theorem vzh {U : List Int} (hU : U.length ≤ 3000000) {x1 : Bool} {v p r cs nx} : ∀ (l : List Int) (n q : Nat), U.drop n = l → l.length < q → ∃ b : Bool, ∃ n' : Int, ∀ K,
    vah vj9 q (x1, (n : Int), v, p, r, cs, nx, U) K = K (bif vdb nx (U.take n) l then .inl (b, n', v, p, r, cs, nx, U) else .inr (false, n', v, p, r, cs, nx, U))
  | l, n, 0, _, h => by omega
  | [], n, q + 1, h, _ => by
    have hge := va6 h
    refine ⟨x1, (n : Int), fun K => ?_⟩
    simp only [vah, vj9, hge, decide_false, cond_false, Sum.elim_inr]
    rfl
  | y :: l, n, q + 1, h, hq => by
    have hlt := vca h
    have hy : U.getD n 0 = y := (vaw h).2 0
    have hy2 : U[n] = y := by have := vh9 h; rw [List.getElem?_eq_getElem hlt] at this; exact Option.some.inj this
    obtain ⟨m', hm'⟩ := vzt hU (x1 := x1) (v := v) (p := p) (r := r) (cs := cs) (nx := nx) hlt n 0 Fuel (by omega) (Nat.zero_le _) (Nat.lt_of_lt_of_le (by omega) vei)
    obtain ⟨b, n', hn'⟩ := vzh hU (x1 := x1) (v := v) (p := p) (r := r) (cs := cs) (nx := nx) l (n + 1) q (vbj h) (by simpa using hq)
    have htk : U.take (n + 1) = U.take n ++ [y] := by rw [List.take_succ_eq_append_getElem hlt, hy2]
    rw [htk] at hn'
    have hw : IntKind.wrap .i64 ((n : Int) + 1) = ((n + 1 : Nat) : Int) := vgw (by omega)
    have z0 : Ty.zero (.int .i64) = (0 : Int) := rfl
    have hge : decide (y ≥ nx) = !decide (y < nx) := by rw [Bool.eq_iff_iff]; simp
    have hz : ((0 : Nat) : Int) = 0 := rfl
    rw [hz] at hm'
    simp only [vah, vj9, show (n : Int) < (U.length : Int) by omega, decide_true, cond_true, hm', List.drop_zero, vdb, hy]
    cases (U.take n).any (fun z => z == y)
    · cases hc : decide (y < nx)
      · refine ⟨b, (n : Int), fun K => ?_⟩
        simp only [cond_false, Sum.elim_inr, if_pos (show 0 ≤ (n : Int) ∧ (n : Int) < (U.length : Int) by omega), Int.toNat_natCast, z0, hy, hge, hc, Bool.not_false, cond_true, Bool.false_and]
      · refine ⟨b, n', fun K => ?_⟩
        simp only [cond_false, Sum.elim_inr, Sum.elim_inl, if_pos (show 0 ≤ (n : Int) ∧ (n : Int) < (U.length : Int) by omega), Int.toNat_natCast, z0, hy, hge, hc, Bool.not_true, Bool.not_false, Bool.true_and, hw]
        exact hn' K
    · refine ⟨b, (n : Int), fun K => ?_⟩
      simp only [cond_true, Sum.elim_inl, Sum.elim_inr, Bool.not_true, Bool.and_false, Bool.false_and, cond_false]
theorem wvn {b : tBase.D} (hb : tBase.wt b ≤ 1048576) (k) : vtn b k = k (vje b) := by
  obtain ⟨h1, h2, h3⟩ := vql hb
  have l1 := vb1 h1
  have l2 := vb1 h2
  have l3 := vb1 h3
  rw [wxo (by omega) (by omega) (by omega)]
  unfold wkp vje
  have hs1 : decide ((b.2.1.length : Int) > 12) = !decide ((b.2.1.length : Int) ≤ 12) := by rw [Bool.eq_iff_iff]; simp
  have hs2 : decide ((b.2.2.1.length : Int) > 3) = !decide ((b.2.2.1.length : Int) ≤ 3) := by rw [Bool.eq_iff_iff]; simp
  simp only [wuu h1, vuq, hs1, hs2]
  cases veb b.1
  · rfl
  cases decide ((b.2.1.length : Int) ≤ 12)
  · rfl
  cases decide ((b.2.2.1.length : Int) ≤ 3)
  · rfl
  cases vbp b.2.2.2.1 0 9999
  · rfl
  cases vbp b.2.2.2.2 1 9999
  · rfl
  simp only [Bool.not_true, cond_false, Bool.true_and, Bool.and_self, vgi]
  obtain ⟨j0, hj0⟩ := vy9 (u0 := false) (u2 := b.1) (u3 := b.2.1) (u4 := b.2.2.1) (u5 := b.2.2.2.1) (u6 := b.2.2.2.2) b.1 0
  rw [hj0]
  cases (b.1.all fun y => decide (y.2.2.2 ≤ b.2.2.2.1))
  · rfl
  obtain ⟨j2, s2, hj2⟩ := v01 (u3 := b.2.1) (fun y hy => vbt hy h2) l2 (u0 := false) (u2 := b.1) (u4 := b.2.2.1) (u5 := b.2.2.2.1) (u6 := b.2.2.2.2) b.2.1 [] 0 rfl (by simp; omega)
  simp only [cond_true, Sum.elim_inr, hj2, if_true]
  cases vhg b.2.2.2.1 none b.2.1
  · rfl
  obtain ⟨j4, s4, hj4⟩ := v00 (u4 := b.2.2.1) (fun y hy => vbt hy h3) l3 (u0 := false) (u2 := b.1) (u3 := b.2.1) (u5 := b.2.2.2.1) (u6 := b.2.2.2.2) b.2.2.1 (b.2.1.map (·.1)) 0 rfl (by simp; omega)
  simp only [cond_true, Sum.elim_inr, List.nil_append, hj4, if_true]
  cases vet b.2.2.2.1 none b.2.2.1
  · rfl
  obtain ⟨bb, n', hn'⟩ := vzh (U := b.2.1.map (·.1) ++ b.2.2.1.map (·.1)) (by simp; omega) (x1 := false) (v := b.1) (p := b.2.1) (r := b.2.2.1) (cs := b.2.2.2.1) (nx := b.2.2.2.2) _ 0 Fuel rfl (Nat.lt_of_lt_of_le (by simp; omega) vei)
  have hz : ((0 : Nat) : Int) = 0 := rfl
  rw [hz] at hn'
  simp only [cond_true, Sum.elim_inr, hn', List.take_zero, List.drop_zero, Bool.true_and]
  cases vdb b.2.2.2.2 [] (b.2.1.map (·.1) ++ b.2.2.1.map (·.1)) <;> rfl
end
end Go.VE
