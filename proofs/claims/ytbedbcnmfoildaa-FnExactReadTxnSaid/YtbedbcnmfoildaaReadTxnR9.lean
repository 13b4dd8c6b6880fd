/- Plain laws: versions, bases. -/
import Derived.Test.YtbedbcnmfoildaaReadTxnR8
import Derived.Test.YtbedbcnmfoildaaP3
namespace Go.VE
noncomputable section
set_option linter.unusedVariables false
set_option linter.unusedSimpArgs false
set_option maxRecDepth 100000

def versionOkB (v : tVersion.D) : Bool := keyOkB v.1 && decide ((v.2.1.size : Int) ≤ 12) && (!v.2.2.1 || strEq v.2.1 ⟨#[]⟩) && withinB v.2.2.2 1 9999
def versLess (x y : tVersion.D) : Bool := strLess x.1 y.1 || (strEq x.1 y.1 && decide (x.2.2.2 < y.2.2.2))
def versFrom : Option tVersion.D → List tVersion.D → Bool
  | _, [] => true
  | p, y :: l => versionOkB y && (match p with | none => true | some x => versLess x y) && versFrom (some y) l
def versionsOkB (l : List tVersion.D) : Bool := versFrom none l && decide ((l.length : Int) ≤ 120)

def cmpS (x y : ByteArray) : Int := bif strLess x y then -1 else bif !(strLess x y || strEq x y) then 1 else 0
def cmpI (x y : Int) : Int := bif decide (x < y) then -1 else bif decide (x > y) then 1 else 0
def cmpV (x y : tVersion.D) : Int := bif cmpS x.1 y.1 != 0 then cmpS x.1 y.1 else cmpI x.2.2.2 y.2.2.2

theorem cmpV_neg (x y : tVersion.D) : decide (cmpV x y ≥ 0) = !versLess x y := by
  unfold cmpV versLess cmpS cmpI
  cases h1 : strLess x.1 y.1
  · cases h2 : strEq x.1 y.1
    · simp
    · simp only [cond_false, Bool.or_true, Bool.not_true, bne_self_eq_false, Bool.false_or, Bool.true_and]
      by_cases h3 : x.2.2.2 < y.2.2.2
      · simp [h3]
      · by_cases h4 : x.2.2.2 > y.2.2.2
        · simp [h3, h4]
        · simp [h3, h4]
  · simp

/-- What was let through: right, done, not behind the counter, numbers ascending. -/
def pastFrom (cs : Int) : Option tTxn.D → List tTxn.D → Bool
  | _, [] => true
  | p, y :: l => txnOkB y && (y.2.1 == 3) && decide (y.2.2.2.1 ≤ cs) && (match p with | none => true | some x => decide (x.2.2.2.1 < y.2.2.2.1)) && pastFrom cs (some y) l
/-- What is ready: right, names ascending. -/
def readyFrom (cs : Int) : Option tTxn.D → List tTxn.D → Bool
  | _, [] => true
  | p, y :: l => txnOkB y && (y.2.1 == 2) && decide (y.2.2.1 ≤ cs) && (match p with | none => true | some x => strLess x.2.2.2.2.2.2.2 y.2.2.2.2.2.2.2) && readyFrom cs (some y) l
/-- Numbers: below a bound, unlike. -/
def idsFrom (nx : Int) : List Int → List Int → Bool
  | _, [] => true
  | pre, y :: l => decide (y < nx) && !(pre.any fun z => z == y) && idsFrom nx (pre ++ [y]) l

def baseOkB (b : tBase.D) : Bool :=
  versionsOkB b.1 && decide ((b.2.1.length : Int) ≤ 12) && decide ((b.2.2.1.length : Int) ≤ 3) && withinB b.2.2.2.1 0 9999 && withinB b.2.2.2.2 1 9999 &&
    (b.1.all fun y => decide (y.2.2.2 ≤ b.2.2.2.1)) && pastFrom b.2.2.2.1 none b.2.1 && readyFrom b.2.2.2.1 none b.2.2.1 && idsFrom b.2.2.2.2 [] (b.2.1.map (·.1) ++ b.2.2.1.map (·.1))

theorem partsBase {b : tBase.D} (hb : tBase.wt b ≤ 1048576) : (Ty.slice tVersion).wt b.1 ≤ 1048576 ∧ (Ty.slice tTxn).wt b.2.1 ≤ 1048576 ∧ (Ty.slice tTxn).wt b.2.2.1 ≤ 1048576 := by
  rw [wtBase] at hb; omega

end

end Go.VE
