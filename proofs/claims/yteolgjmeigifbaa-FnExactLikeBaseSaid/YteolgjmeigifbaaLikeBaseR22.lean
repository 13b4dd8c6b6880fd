/- Plain laws: two bases that are alike. -/
import Derived.Test.YteolgjmeigifbaaLikeBaseR21
namespace Go.VE
noncomputable section
set_option linter.unusedVariables false
set_option linter.unusedSimpArgs false
set_option maxRecDepth 100000

def tText (t : tTxn.D) : ByteArray × Bool := bif txnOkB t then (txnTextB t, true) else (⟨#[]⟩, false)
def sameT (x y : tTxn.D) : Bool := ((tText x).2 == (tText y).2) && strEq (tText x).1 (tText y).1
def txtF (u1 : List tTxn.D) : List tTxn.D → Nat → Bool
  | [], _ => true
  | y :: l, i => sameT y (u1.getD i (Ty.zero tTxn)) && txtF u1 l (i + 1)
def textsB (a b : List tTxn.D) : Bool := bif (a.length : Int) != (b.length : Int) then false else txtF b a 0

theorem impl_sameText_is {x y : tTxn.D} (hx : tTxn.wt x ≤ 1048576) (hy : tTxn.wt y ≤ 1048576) (k) : impl_sameText_k x y k = k (sameT x y) := by
  rw [impl_sameText_e]
  unfold impl_sameText_d sameT
  have h1 : ∀ k, impl_TxnText_k x k = k (tText x) := fun k => impl_TxnText_is hx k
  have h2 : ∀ k, impl_TxnText_k y k = k (tText y) := fun k => impl_TxnText_is hy k
  simp only [h1, h2]
  cases ((tText x).2 == (tText y).2) <;> rfl

theorem getD_wt {u : List tTxn.D} (hu : ∀ y ∈ u, tTxn.wt y ≤ 1048576) {i : Nat} (hi : i < u.length) : tTxn.wt (u.getD i (Ty.zero tTxn)) ≤ 1048576 := by
  apply hu
  simp only [List.getD, List.getElem?_eq_getElem hi, Option.getD_some]
  exact List.getElem_mem hi

theorem spec_l12Texts_w0_is {u0 u1 : List tTxn.D} (h0 : ∀ y ∈ u0, tTxn.wt y ≤ 1048576) (h1 : ∀ y ∈ u1, tTxn.wt y ≤ 1048576) (he : u0.length = u1.length) {u2} : ∀ (l : List tTxn.D) (i : Nat), u0.drop i = l → ∃ j : Int, ∀ k, spec_l12Texts_w0 u0 u1 u2 l i k = k (bif txtF u1 l i then .inr j else .inl (false, j))
  | [], i, _ => ⟨_, fun k => rfl⟩
  | y :: l, i, hd => by
    have hlt := drop_lt hd
    obtain ⟨j, hj⟩ := spec_l12Texts_w0_is h0 h1 he (u2 := u2) l (i + 1) (drop_succ hd)
    have hrd : rd (Ty.zero tTxn) u1 (i : Int) = u1.getD i (Ty.zero tTxn) := rfl
    have t1 : ∀ k, spec_TxnText_k y k = k (tText y) := fun k => spec_TxnText_is (h0 y (mem_of_drop hd)) k
    have t2 : ∀ k, spec_TxnText_k (u1.getD i (Ty.zero tTxn)) k = k (tText (u1.getD i (Ty.zero tTxn))) := fun k => spec_TxnText_is (getD_wt h1 (by omega)) k
    simp only [spec_l12Texts_w0, if_pos (show 0 ≤ (i : Int) ∧ (i : Int) < (u1.length : Int) by omega), hrd, t1, t2, hj, txtF, sameT]
    cases ((tText y).2 == (tText (u1.getD i (Ty.zero tTxn))).2)
    · exact ⟨(i : Int), fun k => rfl⟩
    · cases strEq (tText y).1 (tText (u1.getD i (Ty.zero tTxn))).1
      · exact ⟨(i : Int), fun k => rfl⟩
      · exact ⟨j, fun k => rfl⟩

theorem impl_EqualFunc_w0_is {u0 u2 : List tTxn.D} (h0 : ∀ y ∈ u0, tTxn.wt y ≤ 1048576) (h2 : ∀ y ∈ u2, tTxn.wt y ≤ 1048576) (he : u2.length = u0.length) {u1} : ∀ (l : List tTxn.D) (i : Nat), u2.drop i = l → ∃ j : Int, ∀ k, slices_EqualFunc_Txn_sameText_w0 u0 u1 u2 l i k = k (bif txtF u0 l i then .inr j else .inl (false, j))
  | [], i, _ => ⟨_, fun k => rfl⟩
  | y :: l, i, hd => by
    have hlt := drop_lt hd
    obtain ⟨j, hj⟩ := impl_EqualFunc_w0_is h0 h2 he (u1 := u1) l (i + 1) (drop_succ hd)
    have hrd : rd (Ty.zero tTxn) u0 (i : Int) = u0.getD i (Ty.zero tTxn) := rfl
    simp only [slices_EqualFunc_Txn_sameText_w0, if_pos (show 0 ≤ (i : Int) ∧ (i : Int) < (u0.length : Int) by omega), hrd, impl_sameText_is (h2 y (mem_of_drop hd)) (getD_wt h0 (show i < u0.length by omega)), hj, txtF]
    cases sameT y (u0.getD i (Ty.zero tTxn))
    · exact ⟨(i : Int), fun k => rfl⟩
    · exact ⟨j, fun k => rfl⟩

theorem spec_l12Texts_is {a b : List tTxn.D} (ha : (Ty.slice tTxn).wt a ≤ 1048576) (hb : (Ty.slice tTxn).wt b ≤ 1048576) (k) : spec_l12Texts_k a b k = k (textsB a b) := by
  have la := len_le ha
  rw [spec_l12Texts_r (by omega)]
  unfold spec_l12Texts_t textsB
  by_cases he : a.length = b.length
  · have hbb : ((a.length : Int) != (b.length : Int)) = false := by rw [he]; simp
    obtain ⟨j, hj⟩ := spec_l12Texts_w0_is (fun y hy => wt_mem_le hy ha) (fun y hy => wt_mem_le hy hb) he (u2 := false) a 0 rfl
    simp only [hbb, cond_false, hj]
    cases txtF b a 0 <;> rfl
  · have hbb : ((a.length : Int) != (b.length : Int)) = true := by simp; omega
    simp only [hbb, cond_true]
theorem impl_EqualFunc_is {a b : List tTxn.D} (ha : (Ty.slice tTxn).wt a ≤ 1048576) (hb : (Ty.slice tTxn).wt b ≤ 1048576) (k) : slices_EqualFunc_Txn_sameText_k a b k = k (textsB a b) := by
  have la := len_le ha
  rw [slices_EqualFunc_Txn_sameText_r (by omega)]
  unfold slices_EqualFunc_Txn_sameText_t textsB
  by_cases he : a.length = b.length
  · have hbb : ((a.length : Int) != (b.length : Int)) = false := by rw [he]; simp
    obtain ⟨j, hj⟩ := impl_EqualFunc_w0_is (fun y hy => wt_mem_le hy hb) (fun y hy => wt_mem_le hy ha) he (u1 := false) a 0 rfl
    simp only [hbb, cond_false, hj]
    cases txtF b a 0 <;> rfl
  · have hbb : ((a.length : Int) != (b.length : Int)) = true := by simp; omega
    simp only [hbb, cond_true]

def likeBaseB (a b : tBase.D) : Bool := (a.2.2.2.1 == b.2.2.2.1) && textsB a.2.1 b.2.1 && textsB a.2.2.1 b.2.2.1 && sameFromB a.1 b.1 a.2.2.2.1

theorem spec_LikeBase_is {a b : tBase.D} (ha : tBase.wt a ≤ 1048576) (hb : tBase.wt b ≤ 1048576) (k) : spec_LikeBase_k a b k = k (likeBaseB a b) := by
  obtain ⟨a1, a2, a3⟩ := partsBase ha
  obtain ⟨b1, b2, b3⟩ := partsBase hb
  rw [spec_LikeBase_e]
  unfold spec_LikeBase_d likeBaseB
  simp only [spec_l12Texts_is a2 b2, spec_l12Texts_is a3 b3, spec_SameFrom_is (len_le a1) (len_le b1)]
  cases (a.2.2.2.1 == b.2.2.2.1) <;> cases textsB a.2.1 b.2.1 <;> cases textsB a.2.2.1 b.2.2.1 <;> cases sameFromB a.1 b.1 a.2.2.2.1 <;> rfl
theorem impl_LikeBase_is {a b : tBase.D} (ha : tBase.wt a ≤ 1048576) (hb : tBase.wt b ≤ 1048576) (k) : impl_LikeBase_k a b k = k (likeBaseB a b) := by
  obtain ⟨a1, a2, a3⟩ := partsBase ha
  obtain ⟨b1, b2, b3⟩ := partsBase hb
  rw [impl_LikeBase_e]
  unfold impl_LikeBase_d likeBaseB
  simp only [impl_EqualFunc_is a2 b2, impl_EqualFunc_is a3 b3, impl_SameFrom_is (len_le a1) (len_le b1)]
  cases (a.2.2.2.1 == b.2.2.2.1) <;> cases textsB a.2.1 b.2.1 <;> cases textsB a.2.2.1 b.2.2.1 <;> cases sameFromB a.1 b.1 a.2.2.2.1 <;> rfl

end
end Go.VE
