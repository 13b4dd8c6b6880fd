/- Plain laws: one of a list that passes a test; what is seen; the oldest. -/
import Derived.Test.YtpmahbmokfaflaaRecordOkR1
namespace Go.VE
noncomputable section
set_option linter.unusedVariables false
set_option linter.unusedSimpArgs false
set_option maxRecDepth 100000

theorem impl_isReady_is (x : tTxn.D) (k) : impl_isReady_k x k = k (x.2.1 == 2) := by rw [impl_isReady_e]; rfl
theorem impl_isDone_is (x : tTxn.D) (k) : impl_isDone_k x k = k (x.2.1 == 3) := by rw [impl_isDone_e]; rfl

def blockedB (t x : tTxn.D) : Bool := (x.1 != t.1) && ((x.2.1 == 2) || ((x.2.1 == 3) && decide (x.2.2.2.1 > t.2.2.1))) && meetsB x.2.2.2.2.2.1 t.2.2.2.2.2.1
def outOfB (t x : tTxn.D) : Bool := (x.2.1 == 3) && aheadB t x
def inOfB (t x : tTxn.D) : Bool := ((x.2.1 == 2) || (x.2.1 == 3)) && aheadB x t


def zV : tVersion.D := Ty.zero tVersion
def lastAtF (u0 : List tVersion.D) (key : ByteArray) (snap : Int) : List tVersion.D → Int → Nat → Int
  | [], s, _ => s
  | y :: l, s, i => bif strEq y.1 key && (decide (y.2.2.2 ≤ snap) && (decide (s < 0) || decide (y.2.2.2 > (rd zV u0 s).2.2.2))) then lastAtF u0 key snap l (i : Int) (i + 1) else lastAtF u0 key snap l s (i + 1)
def lastAtB (xs : List tVersion.D) (key : ByteArray) (snap : Int) : Int := lastAtF xs key snap xs (-1) 0


theorem lastAtF_bound {u0 : List tVersion.D} {key : ByteArray} {snap : Int} : ∀ (l : List tVersion.D) (s : Int) (i : Nat), i + l.length ≤ u0.length → (s < 0 ∨ 0 ≤ s ∧ s < (u0.length : Int)) → (lastAtF u0 key snap l s i < 0 ∨ 0 ≤ lastAtF u0 key snap l s i ∧ lastAtF u0 key snap l s i < (u0.length : Int))
  | [], s, i, _, hs => hs
  | y :: l, s, i, h, hs => by
    simp only [List.length_cons] at h
    simp only [lastAtF]
    cases (strEq y.1 key && (decide (y.2.2.2 ≤ snap) && (decide (s < 0) || decide (y.2.2.2 > (rd zV u0 s).2.2.2))))
    · exact lastAtF_bound l s (i + 1) (by omega) hs
    · exact lastAtF_bound l (i : Int) (i + 1) (by omega) (.inr (by omega))

theorem lastAtB_bound (xs : List tVersion.D) (key : ByteArray) (snap : Int) : lastAtB xs key snap < 0 ∨ 0 ≤ lastAtB xs key snap ∧ lastAtB xs key snap < (xs.length : Int) :=
  lastAtF_bound xs (-1) 0 (by omega) (.inl (by omega))

def seenAtB (xs : List tVersion.D) (key : ByteArray) (snap : Int) : ByteArray × Bool :=
  bif decide (lastAtB xs key snap < 0) then (⟨#[]⟩, false) else bif (rd zV xs (lastAtB xs key snap)).2.2.1 then (⟨#[]⟩, false) else ((rd zV xs (lastAtB xs key snap)).2.1, true)


def ownGetB (t : tTxn.D) (xs : List tVersion.D) (key : ByteArray) : ByteArray × Bool :=
  match t.2.2.2.2.2.1.find? fun w => strEq w.1 key with
  | some w => bif w.2.2 then (⟨#[]⟩, false) else (w.2.1, true)
  | none => seenAtB xs key t.2.2.1

def oldestB (n : Int) (l : List tTxn.D) : Int := l.foldl (fun s y => if y.2.2.1 < s then y.2.2.1 else s) n
theorem fuel_succ : ∃ n, Fuel = n + 1 := ⟨Fuel - 1, by have := fuel_big; omega⟩
end
end Go.VE
