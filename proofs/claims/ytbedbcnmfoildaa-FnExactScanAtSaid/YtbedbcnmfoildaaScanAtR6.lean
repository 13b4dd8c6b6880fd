/- Plain laws of the marks: what is marked in place is held. -/
import Derived.Test.YtbedbcnmfoildaaScanAtR5
namespace Go.VE
noncomputable section
set_option linter.unusedVariables false
set_option linter.unusedSimpArgs false
set_option maxRecDepth 100000

theorem bytesOf_one (n : Int) : (bytesOf [n]).size = 1 := rfl

theorem markText_loop : ∀ (m : Nat) (n : Int) (s : ByteArray) (q : Nat), n ≤ m → m < q → s.size + m ≤ 100000000 → Gives (loopK laws_markText_b0 q (n, s)) (fun z => z.2.size ≤ s.size + m) := by
  intro m
  induction m with
  | zero =>
    intro n s q hn hq hs
    obtain ⟨q, rfl⟩ : ∃ r, q = r + 1 := ⟨q - 1, by omega⟩
    apply gives_loop
    unfold laws_markText_b0
    exact gives_bif (fun c => by have c := of_decide_eq_true c; dsimp only at c; omega) (fun _ => gives_ret (go_inr (by dsimp only; omega)))
  | succ m ih =>
    intro n s q hn hq hs
    obtain ⟨q, rfl⟩ : ∃ r, q = r + 1 := ⟨q - 1, by omega⟩
    apply gives_loop
    unfold laws_markText_b0
    refine gives_bif (fun c => gives_ite ?_ (gives_ret (go_inl ?_))) (fun _ => gives_ret (go_inr (by dsimp only; omega)))
    · rw [bytesOf_one]; dsimp only; omega
    · have c := of_decide_eq_true c
      dsimp only at c
      have e : n.tdiv 10 = n / 10 := Int.tdiv_eq_ediv_of_nonneg (by omega)
      dsimp only
      rw [e, wrap64 (by omega) (by omega)]
      refine (ih (n / 10) _ q (by omega) (by omega) (by rw [ByteArray.size_append, bytesOf_one]; omega)).mono (fun z hz => ?_)
      rw [ByteArray.size_append, bytesOf_one] at hz
      omega

theorem markText_G {n : Int} (h : n ≤ 10000000) : Gives (laws_markText_k n) (fun _ => True) := by
  rw [laws_markText_e]
  unfold laws_markText_d
  refine gives_bif (fun _ => gives_ret trivial) (fun _ => (markText_loop 10000000 n _ Fuel (by omega) (by have := fuel_big; omega) (by decide)).bind (fun z hz => gives_ite ?_ (gives_ret trivial)))
  have : (⟨#[109]⟩ : ByteArray).size = 1 := rfl
  have : (⟨#[]⟩ : ByteArray).size = 0 := rfl
  omega

open Classical in
def markB (n : Int) : ByteArray := if h : ∃ v, ∀ k, laws_markText_k n k = k v then Classical.choose h else ⟨#[]⟩
theorem markText_is {n : Int} (h : n ≤ 10000000) (k) : laws_markText_k n k = k (markB n) := by
  obtain ⟨v, _, hv⟩ := markText_G h
  have h1 : ∃ v, ∀ k, laws_markText_k n k = k v := ⟨v, hv⟩
  unfold markB
  rw [dif_pos h1]
  exact Classical.choose_spec h1 k

theorem set_mid {α : Type} (pre : List α) (y v : α) (l : List α) : (pre ++ y :: l).set pre.length v = pre ++ v :: l := by simp
theorem getD_mid {α : Type} (pre : List α) (y d : α) (l : List α) : (pre ++ y :: l).getD pre.length d = y := by simp [List.getD]

def markR : Int → List tRange.D → List tRange.D
  | _, [] => []
  | c, y :: l => (markB c, markB (c + 1)) :: markR (c + 2) l

end
end Go.VE
