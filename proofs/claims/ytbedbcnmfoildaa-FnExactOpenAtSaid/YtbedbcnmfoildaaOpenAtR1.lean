/- Plain laws: keys, ranges, writes, transactions, who is ahead of whom. -/
import Derived.Test.YtbedbcnmfoildaaOpenAtL
namespace Go.VE
noncomputable section
set_option linter.unusedVariables false
set_option linter.unusedSimpArgs false
set_option maxRecDepth 100000

def withinB (n lo hi : Int) : Bool := decide (n ≥ lo) && decide (n ≤ hi)
def inRangeB (r : tRange.D) (key : ByteArray) : Bool := !(strLess key r.1) && (strLess key r.2 || strEq key r.2)
def touchesB (r : List tRange.D) (w : List tWrite.D) : Bool := r.any fun x => w.any fun y => inRangeB x y.1
def meetsB (a b : List tWrite.D) : Bool := a.any fun x => b.any fun y => strEq x.1 y.1

def keyOkB (s : ByteArray) : Bool := !((intsOf s).any fun y => decide (y < 97) || decide (y > 122)) && withinB s.size 1 3


def rangeOkB (r : tRange.D) : Bool := keyOkB r.1 && keyOkB r.2 && (strLess r.1 r.2 || strEq r.1 r.2)
def writeOkB (w : tWrite.D) : Bool := keyOkB w.1 && decide ((w.2.1.size : Int) ≤ 12) && (!w.2.2 || strEq w.2.1 ⟨#[]⟩)
/-- Behind one that stood before: all right, keys ascending. -/
def writesFrom : Option tWrite.D → List tWrite.D → Bool
  | _, [] => true
  | p, y :: l => writeOkB y && (match p with | none => true | some x => strLess x.1 y.1) && writesFrom (some y) l
def writesOkB (l : List tWrite.D) : Bool := writesFrom none l && decide ((l.length : Int) ≤ 8)

def txnOkB (t : tTxn.D) : Bool :=
  withinB t.1 1 9999 && withinB t.2.1 1 3 && withinB t.2.2.1 0 9999 && !decide ((t.2.2.2.2.1.length : Int) > 8) && writesOkB t.2.2.2.2.2.1 && !(t.2.2.2.2.1.any fun r => !rangeOkB r) &&
  !((t.2.1 == 3) && !withinB t.2.2.2.1 (IntKind.wrap .i64 (t.2.2.1 + 1)) 9999) && !((t.2.1 != 3) && (t.2.2.2.1 != 0)) &&
  !((t.2.1 == 2) && !keyOkB t.2.2.2.2.2.2.2) && !((t.2.1 != 2) && !strEq t.2.2.2.2.2.2.2 ⟨#[]⟩) && ((t.2.1 != 1) || !t.2.2.2.2.2.2.1)


def pastB (a b : tTxn.D) : Bool := (a.2.1 == 3) && decide (a.2.2.2.1 ≤ b.2.2.1)
def besideB (a b : tTxn.D) : Bool := (a.1 != b.1) && !(pastB a b) && !(pastB b a)
def aheadB (a b : tTxn.D) : Bool := besideB a b && touchesB a.2.2.2.2.1 b.2.2.2.2.2.1

theorem lensTxn {a : tTxn.D} (ha : tTxn.wt a ≤ 1048576) : a.2.2.2.2.1.length ≤ 1048576 ∧ a.2.2.2.2.2.1.length ≤ 1048576 := by
  rw [wtTxn] at ha
  exact ⟨len_le (T := tRange) (by omega), len_le (T := tWrite) (by omega)⟩

end
end Go.VE
