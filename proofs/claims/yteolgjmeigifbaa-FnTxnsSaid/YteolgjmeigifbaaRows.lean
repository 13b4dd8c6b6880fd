/-
  No cell of these rows narrows 'for every input' (looked for: loops, veiled, ifaces, maps, wideKeys, modest, calm, conditions, laid).
  DERIVED. THE GIVEN ROWS OF THIS SEAT. 6 by the template 'for every input the law returns true; each argument reads behind the call as it read before'; 0 by the template 'total and deterministic' (their statements: YteolgjmeigifbaaTotals.lean).
  GIVEN WITH THE SEED: the statements are not yours to turn. If you find one false, say at which input.
  Laid BY PROGRAM, IN A SANDBOX (cutbox-rows.mjs): the forced cells as the released guide's own fill.sh prints them over the translation 9c86ac3532c27be8… (all of the seat's roots in one cut). By AI agents, Wed Nov 11 2026. No macro, syntax, notation, axiom, sorry.
-/
import Derived.Test.YteolgjmeigifbaaChecked
import GoSem.Claim
import GoSem.ClaimJoined
import GoSem.ClaimMapViews
import Derived.JoinedTies
import Derived.KernelRfl
namespace Go.Proofs.Yteolgjmeigifbaa
/- THE CELL 'sum', in the pinned program and in every row, IS THE sha256 OF THE DUMP (.gsa) THAT YteolgjmeigifbaaProg.lean LOADS. Nothing in Lean hashes anything: it is a label: what it is worth is what the hold of that sum in a sandbox is worth. -/
noncomputable def Try.pinned : Pinned := { name := "yteolgjmeigifbaa", sum := "9c86ac3532c27be8b14b7542ff98d2cb6e90072db63817f91e8bb571d236f96f", checked := Try.checked }
namespace Rows
def none {H : Type} : Left H := { results := [], args := [] }

/-- 'laws.FnExactOwnScan': WHATEVER THE INPUT: true; the input reads as it did. -/
def fnExactOwnScanSpec : ChangeSpec := { name := "fnExactOwnScan", fn := fun _ => fun
  | [d1, d2, d3] => { results := [.lit (.bool true)], args := [d1, d2, d3] }
  | _ => none }
def fnExactOwnScanRow : OpenClaim := { program := "yteolgjmeigifbaa", sum := "9c86ac3532c27be8b14b7542ff98d2cb6e90072db63817f91e8bb571d236f96f", func := "loop.example/g00327/laws.FnExactOwnScan", spec := "fnExactOwnScan", unfollowed := true, recurses := true, apart := false }
def FnExactOwnScanSaid : Prop := fnExactOwnScanRow.holds Try.pinned (OpenSpec.ofChange fnExactOwnScanSpec)

/-- ITS FALSE NEIGHBOUR: 'it returns false'. Refute it at one input. -/
def fnExactOwnScanWrong : ChangeSpec := { name := "fnExactOwnScan", fn := fun _ => fun
  | [d1, d2, d3] => { results := [.lit (.bool false)], args := [d1, d2, d3] }
  | _ => none }
def FnExactOwnScanWrongFalsely : Prop := fnExactOwnScanRow.holds Try.pinned (OpenSpec.ofChange fnExactOwnScanWrong)

/-- 'laws.FnExactRecordText': WHATEVER THE INPUT: true; the input reads as it did. -/
def fnExactRecordTextSpec : ChangeSpec := { name := "fnExactRecordText", fn := fun _ => fun
  | [d] => { results := [.lit (.bool true)], args := [d] }
  | _ => none }
def fnExactRecordTextRow : OpenClaim := { program := "yteolgjmeigifbaa", sum := "9c86ac3532c27be8b14b7542ff98d2cb6e90072db63817f91e8bb571d236f96f", func := "loop.example/g00327/laws.FnExactRecordText", spec := "fnExactRecordText", unfollowed := true, recurses := true, apart := false }
def FnExactRecordTextSaid : Prop := fnExactRecordTextRow.holds Try.pinned (OpenSpec.ofChange fnExactRecordTextSpec)

/-- ITS FALSE NEIGHBOUR: 'it returns false'. Refute it at one input. -/
def fnExactRecordTextWrong : ChangeSpec := { name := "fnExactRecordText", fn := fun _ => fun
  | [d] => { results := [.lit (.bool false)], args := [d] }
  | _ => none }
def FnExactRecordTextWrongFalsely : Prop := fnExactRecordTextRow.holds Try.pinned (OpenSpec.ofChange fnExactRecordTextWrong)

/-- 'laws.FnTxns': WHATEVER THE INPUT: true; the input reads as it did. -/
def fnTxnsSpec : ChangeSpec := { name := "fnTxns", fn := fun _ => fun
  | [d] => { results := [.lit (.bool true)], args := [d] }
  | _ => none }
def fnTxnsRow : OpenClaim := { program := "yteolgjmeigifbaa", sum := "9c86ac3532c27be8b14b7542ff98d2cb6e90072db63817f91e8bb571d236f96f", func := "loop.example/g00327/laws.FnTxns", spec := "fnTxns", inPlace := ["slices.overlaps[loop.example/g00327/impl.Write]"], unfollowed := true, recurses := true, apart := false }
def FnTxnsSaid : Prop := fnTxnsRow.holds Try.pinned (OpenSpec.ofChange fnTxnsSpec)

/-- ITS FALSE NEIGHBOUR: 'it returns false'. Refute it at one input. -/
def fnTxnsWrong : ChangeSpec := { name := "fnTxns", fn := fun _ => fun
  | [d] => { results := [.lit (.bool false)], args := [d] }
  | _ => none }
def FnTxnsWrongFalsely : Prop := fnTxnsRow.holds Try.pinned (OpenSpec.ofChange fnTxnsWrong)

/-- 'laws.FnExactPutKey': WHATEVER THE INPUT: true; the input reads as it did. -/
def fnExactPutKeySpec : ChangeSpec := { name := "fnExactPutKey", fn := fun _ => fun
  | [d1, d2, d3] => { results := [.lit (.bool true)], args := [d1, d2, d3] }
  | _ => none }
def fnExactPutKeyRow : OpenClaim := { program := "yteolgjmeigifbaa", sum := "9c86ac3532c27be8b14b7542ff98d2cb6e90072db63817f91e8bb571d236f96f", func := "loop.example/g00327/laws.FnExactPutKey", spec := "fnExactPutKey", inPlace := ["slices.overlaps[loop.example/g00327/impl.Write]"], unfollowed := true, recurses := true, apart := false }
def FnExactPutKeySaid : Prop := fnExactPutKeyRow.holds Try.pinned (OpenSpec.ofChange fnExactPutKeySpec)

/-- ITS FALSE NEIGHBOUR: 'it returns false'. Refute it at one input. -/
def fnExactPutKeyWrong : ChangeSpec := { name := "fnExactPutKey", fn := fun _ => fun
  | [d1, d2, d3] => { results := [.lit (.bool false)], args := [d1, d2, d3] }
  | _ => none }
def FnExactPutKeyWrongFalsely : Prop := fnExactPutKeyRow.holds Try.pinned (OpenSpec.ofChange fnExactPutKeyWrong)

/-- 'laws.FnExactBegin': WHATEVER THE INPUT: true; the input reads as it did. -/
def fnExactBeginSpec : ChangeSpec := { name := "fnExactBegin", fn := fun _ => fun
  | [d] => { results := [.lit (.bool true)], args := [d] }
  | _ => none }
def fnExactBeginRow : OpenClaim := { program := "yteolgjmeigifbaa", sum := "9c86ac3532c27be8b14b7542ff98d2cb6e90072db63817f91e8bb571d236f96f", func := "loop.example/g00327/laws.FnExactBegin", spec := "fnExactBegin", unfollowed := true, recurses := true, apart := false }
def FnExactBeginSaid : Prop := fnExactBeginRow.holds Try.pinned (OpenSpec.ofChange fnExactBeginSpec)

/-- ITS FALSE NEIGHBOUR: 'it returns false'. Refute it at one input. -/
def fnExactBeginWrong : ChangeSpec := { name := "fnExactBegin", fn := fun _ => fun
  | [d] => { results := [.lit (.bool false)], args := [d] }
  | _ => none }
def FnExactBeginWrongFalsely : Prop := fnExactBeginRow.holds Try.pinned (OpenSpec.ofChange fnExactBeginWrong)

/-- 'laws.FnExactLikeBase': WHATEVER THE INPUT: true; the input reads as it did. -/
def fnExactLikeBaseSpec : ChangeSpec := { name := "fnExactLikeBase", fn := fun _ => fun
  | [d1, d2] => { results := [.lit (.bool true)], args := [d1, d2] }
  | _ => none }
def fnExactLikeBaseRow : OpenClaim := { program := "yteolgjmeigifbaa", sum := "9c86ac3532c27be8b14b7542ff98d2cb6e90072db63817f91e8bb571d236f96f", func := "loop.example/g00327/laws.FnExactLikeBase", spec := "fnExactLikeBase", unfollowed := true, recurses := true, apart := false }
def FnExactLikeBaseSaid : Prop := fnExactLikeBaseRow.holds Try.pinned (OpenSpec.ofChange fnExactLikeBaseSpec)

/-- ITS FALSE NEIGHBOUR: 'it returns false'. Refute it at one input. -/
def fnExactLikeBaseWrong : ChangeSpec := { name := "fnExactLikeBase", fn := fun _ => fun
  | [d1, d2] => { results := [.lit (.bool false)], args := [d1, d2] }
  | _ => none }
def FnExactLikeBaseWrongFalsely : Prop := fnExactLikeBaseRow.holds Try.pinned (OpenSpec.ofChange fnExactLikeBaseWrong)

/- THE SECOND FORM. 'bulk': how many values and letters a reading holds, each counted each time it is reached (what is shared counts as often as it is met; a slice's spare places count too). A statement '..UptoSaid' is the law's where the arguments, and the package variables that the reading takes, are together of bulk at most 1048576: NARROWER than '..Said'. Prove '..Said' where nothing that the law and all that it calls make is longer than what came in: it says more and counts as full. Else prove '..UptoSaid'. A law counts once. -/
mutual
def uptoBulk {H : Type} : DataW H → Nat
  | .lit (.string bytes) => bytes.length + 1
  | .lit _ => 1
  | .nil => 1
  | .ptr d => uptoBulk d + 1
  | .slice elems spare => uptoBulkAll elems + uptoBulkAll spare + 1
  | .agg parts => uptoBulkAll parts + 1
  | .iface _ d => uptoBulk d + 1
  | .map entries => uptoBulkEntries entries + 1
  | .held _ => 1
def uptoBulkAll {H : Type} : List (DataW H) → Nat
  | [] => 0
  | d :: r => uptoBulk d + uptoBulkAll r
def uptoBulkEntries {H : Type} : List (Lit × DataW H) → Nat
  | [] => 0
  | x :: r => uptoBulkEntry x + uptoBulkEntries r
def uptoBulkEntry {H : Type} : Lit × DataW H → Nat
  | (.string bytes, d) => bytes.length + uptoBulk d + 1
  | (_, d) => uptoBulk d + 1
 end
def uptoSmall : (H : Type) → List (DataW H) → Bool := fun _ ds => decide (uptoBulkAll ds ≤ 1048576)
def OpenSpec.upto (s : _root_.Go.ChangeSpec) : _root_.Go.OpenSpec := { _root_.Go.OpenSpec.ofChange s with cond := some uptoSmall }

/-- 'laws.FnExactOwnScan', WHERE WHAT IT READS IS OF BULK AT MOST 1048576: true; the input reads as it did. -/
def fnExactOwnScanUptoRow : OpenClaim := { program := "yteolgjmeigifbaa", sum := "9c86ac3532c27be8b14b7542ff98d2cb6e90072db63817f91e8bb571d236f96f", func := "loop.example/g00327/laws.FnExactOwnScan", spec := "fnExactOwnScan", unfollowed := true, recurses := true, apart := false, narrowed := true }
def FnExactOwnScanUptoSaid : Prop := fnExactOwnScanUptoRow.holds Try.pinned (OpenSpec.upto fnExactOwnScanSpec)

/-- 'laws.FnExactRecordText', WHERE WHAT IT READS IS OF BULK AT MOST 1048576: true; the input reads as it did. -/
def fnExactRecordTextUptoRow : OpenClaim := { program := "yteolgjmeigifbaa", sum := "9c86ac3532c27be8b14b7542ff98d2cb6e90072db63817f91e8bb571d236f96f", func := "loop.example/g00327/laws.FnExactRecordText", spec := "fnExactRecordText", unfollowed := true, recurses := true, apart := false, narrowed := true }
def FnExactRecordTextUptoSaid : Prop := fnExactRecordTextUptoRow.holds Try.pinned (OpenSpec.upto fnExactRecordTextSpec)

/-- 'laws.FnTxns', WHERE WHAT IT READS IS OF BULK AT MOST 1048576: true; the input reads as it did. -/
def fnTxnsUptoRow : OpenClaim := { program := "yteolgjmeigifbaa", sum := "9c86ac3532c27be8b14b7542ff98d2cb6e90072db63817f91e8bb571d236f96f", func := "loop.example/g00327/laws.FnTxns", spec := "fnTxns", inPlace := ["slices.overlaps[loop.example/g00327/impl.Write]"], unfollowed := true, recurses := true, apart := false, narrowed := true }
def FnTxnsUptoSaid : Prop := fnTxnsUptoRow.holds Try.pinned (OpenSpec.upto fnTxnsSpec)

/-- 'laws.FnExactPutKey', WHERE WHAT IT READS IS OF BULK AT MOST 1048576: true; the input reads as it did. -/
def fnExactPutKeyUptoRow : OpenClaim := { program := "yteolgjmeigifbaa", sum := "9c86ac3532c27be8b14b7542ff98d2cb6e90072db63817f91e8bb571d236f96f", func := "loop.example/g00327/laws.FnExactPutKey", spec := "fnExactPutKey", inPlace := ["slices.overlaps[loop.example/g00327/impl.Write]"], unfollowed := true, recurses := true, apart := false, narrowed := true }
def FnExactPutKeyUptoSaid : Prop := fnExactPutKeyUptoRow.holds Try.pinned (OpenSpec.upto fnExactPutKeySpec)

/-- 'laws.FnExactBegin', WHERE WHAT IT READS IS OF BULK AT MOST 1048576: true; the input reads as it did. -/
def fnExactBeginUptoRow : OpenClaim := { program := "yteolgjmeigifbaa", sum := "9c86ac3532c27be8b14b7542ff98d2cb6e90072db63817f91e8bb571d236f96f", func := "loop.example/g00327/laws.FnExactBegin", spec := "fnExactBegin", unfollowed := true, recurses := true, apart := false, narrowed := true }
def FnExactBeginUptoSaid : Prop := fnExactBeginUptoRow.holds Try.pinned (OpenSpec.upto fnExactBeginSpec)

/-- 'laws.FnExactLikeBase', WHERE WHAT IT READS IS OF BULK AT MOST 1048576: true; the input reads as it did. -/
def fnExactLikeBaseUptoRow : OpenClaim := { program := "yteolgjmeigifbaa", sum := "9c86ac3532c27be8b14b7542ff98d2cb6e90072db63817f91e8bb571d236f96f", func := "loop.example/g00327/laws.FnExactLikeBase", spec := "fnExactLikeBase", unfollowed := true, recurses := true, apart := false, narrowed := true }
def FnExactLikeBaseUptoSaid : Prop := fnExactLikeBaseUptoRow.holds Try.pinned (OpenSpec.upto fnExactLikeBaseSpec)

end Rows
end Go.Proofs.Yteolgjmeigifbaa
