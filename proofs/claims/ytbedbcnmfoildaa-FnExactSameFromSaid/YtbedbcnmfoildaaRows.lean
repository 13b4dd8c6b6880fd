/-
  No cell of these rows narrows 'for every input' (looked for: loops, veiled, ifaces, maps, wideKeys, modest, calm, conditions, laid).
  DERIVED. THE GIVEN ROWS OF THIS SEAT. 12 by the template 'for every input the law returns true; each argument reads behind the call as it read before'; 0 by the template 'total and deterministic' (their statements: YtbedbcnmfoildaaTotals.lean).
  GIVEN WITH THE SEED: the statements are not yours to turn. If you find one false, say at which input.
  Laid BY PROGRAM, IN A SANDBOX (cutbox-rows.mjs): the forced cells as the released guide's own fill.sh prints them over the translation 54f4c53bee575146… (all of the seat's roots in one cut). By AI agents, Wed Nov 11 2026. No macro, syntax, notation, axiom, sorry.
-/
import Derived.Test.YtbedbcnmfoildaaChecked
import GoSem.Claim
import GoSem.ClaimJoined
import GoSem.ClaimMapViews
import Derived.JoinedTies
import Derived.KernelRfl
namespace Go.Proofs.Ytbedbcnmfoildaa
/- THE CELL 'sum', in the pinned program and in every row, IS THE sha256 OF THE DUMP (.gsa) THAT YtbedbcnmfoildaaProg.lean LOADS. Nothing in Lean hashes anything: it is a label: what it is worth is what the hold of that sum in a sandbox is worth. -/
noncomputable def Try.pinned : Pinned := { name := "ytbedbcnmfoildaa", sum := "54f4c53bee575146951631d92ab0ab25159d5e73eac7bd0cf8fdb9a23cf01d16", checked := Try.checked }
namespace Rows
def none {H : Type} : Left H := { results := [], args := [] }

/-- 'laws.FnExactReadyAt': WHATEVER THE INPUT: true; the input reads as it did. -/
def fnExactReadyAtSpec : ChangeSpec := { name := "fnExactReadyAt", fn := fun _ => fun
  | [d1, d2] => { results := [.lit (.bool true)], args := [d1, d2] }
  | _ => none }
def fnExactReadyAtRow : OpenClaim := { program := "ytbedbcnmfoildaa", sum := "54f4c53bee575146951631d92ab0ab25159d5e73eac7bd0cf8fdb9a23cf01d16", func := "loop.example/g00327/laws.FnExactReadyAt", spec := "fnExactReadyAt", unfollowed := true, recurses := true, apart := false }
def FnExactReadyAtSaid : Prop := fnExactReadyAtRow.holds Try.pinned (OpenSpec.ofChange fnExactReadyAtSpec)

/-- ITS FALSE NEIGHBOUR: 'it returns false'. Refute it at one input. -/
def fnExactReadyAtWrong : ChangeSpec := { name := "fnExactReadyAt", fn := fun _ => fun
  | [d1, d2] => { results := [.lit (.bool false)], args := [d1, d2] }
  | _ => none }
def FnExactReadyAtWrongFalsely : Prop := fnExactReadyAtRow.holds Try.pinned (OpenSpec.ofChange fnExactReadyAtWrong)

/-- 'laws.FnExactTxnText': WHATEVER THE INPUT: true; the input reads as it did. -/
def fnExactTxnTextSpec : ChangeSpec := { name := "fnExactTxnText", fn := fun _ => fun
  | [d] => { results := [.lit (.bool true)], args := [d] }
  | _ => none }
def fnExactTxnTextRow : OpenClaim := { program := "ytbedbcnmfoildaa", sum := "54f4c53bee575146951631d92ab0ab25159d5e73eac7bd0cf8fdb9a23cf01d16", func := "loop.example/g00327/laws.FnExactTxnText", spec := "fnExactTxnText", apart := false }
def FnExactTxnTextSaid : Prop := fnExactTxnTextRow.holds Try.pinned (OpenSpec.ofChange fnExactTxnTextSpec)

/-- ITS FALSE NEIGHBOUR: 'it returns false'. Refute it at one input. -/
def fnExactTxnTextWrong : ChangeSpec := { name := "fnExactTxnText", fn := fun _ => fun
  | [d] => { results := [.lit (.bool false)], args := [d] }
  | _ => none }
def FnExactTxnTextWrongFalsely : Prop := fnExactTxnTextRow.holds Try.pinned (OpenSpec.ofChange fnExactTxnTextWrong)

/-- 'laws.FnDangers': WHATEVER THE INPUT: true; the input reads as it did. -/
def fnDangersSpec : ChangeSpec := { name := "fnDangers", fn := fun _ => fun
  | [d] => { results := [.lit (.bool true)], args := [d] }
  | _ => none }
def fnDangersRow : OpenClaim := { program := "ytbedbcnmfoildaa", sum := "54f4c53bee575146951631d92ab0ab25159d5e73eac7bd0cf8fdb9a23cf01d16", func := "loop.example/g00327/laws.FnDangers", spec := "fnDangers", unfollowed := true, recurses := true, apart := false }
def FnDangersSaid : Prop := fnDangersRow.holds Try.pinned (OpenSpec.ofChange fnDangersSpec)

/-- ITS FALSE NEIGHBOUR: 'it returns false'. Refute it at one input. -/
def fnDangersWrong : ChangeSpec := { name := "fnDangers", fn := fun _ => fun
  | [d] => { results := [.lit (.bool false)], args := [d] }
  | _ => none }
def FnDangersWrongFalsely : Prop := fnDangersRow.holds Try.pinned (OpenSpec.ofChange fnDangersWrong)

/-- 'laws.FnExactPutVersions': WHATEVER THE INPUT: true; the input reads as it did. -/
def fnExactPutVersionsSpec : ChangeSpec := { name := "fnExactPutVersions", fn := fun _ => fun
  | [d1, d2, d3] => { results := [.lit (.bool true)], args := [d1, d2, d3] }
  | _ => none }
def fnExactPutVersionsRow : OpenClaim := { program := "ytbedbcnmfoildaa", sum := "54f4c53bee575146951631d92ab0ab25159d5e73eac7bd0cf8fdb9a23cf01d16", func := "loop.example/g00327/laws.FnExactPutVersions", spec := "fnExactPutVersions", inPlace := ["slices.overlaps[loop.example/g00327/impl.Version]"], unfollowed := true, recurses := true, apart := false }
def FnExactPutVersionsSaid : Prop := fnExactPutVersionsRow.holds Try.pinned (OpenSpec.ofChange fnExactPutVersionsSpec)

/-- ITS FALSE NEIGHBOUR: 'it returns false'. Refute it at one input. -/
def fnExactPutVersionsWrong : ChangeSpec := { name := "fnExactPutVersions", fn := fun _ => fun
  | [d1, d2, d3] => { results := [.lit (.bool false)], args := [d1, d2, d3] }
  | _ => none }
def FnExactPutVersionsWrongFalsely : Prop := fnExactPutVersionsRow.holds Try.pinned (OpenSpec.ofChange fnExactPutVersionsWrong)

/-- 'laws.FnExactOpenAt': WHATEVER THE INPUT: true; the input reads as it did. -/
def fnExactOpenAtSpec : ChangeSpec := { name := "fnExactOpenAt", fn := fun _ => fun
  | [d1, d2] => { results := [.lit (.bool true)], args := [d1, d2] }
  | _ => none }
def fnExactOpenAtRow : OpenClaim := { program := "ytbedbcnmfoildaa", sum := "54f4c53bee575146951631d92ab0ab25159d5e73eac7bd0cf8fdb9a23cf01d16", func := "loop.example/g00327/laws.FnExactOpenAt", spec := "fnExactOpenAt", unfollowed := true, recurses := true, apart := false }
def FnExactOpenAtSaid : Prop := fnExactOpenAtRow.holds Try.pinned (OpenSpec.ofChange fnExactOpenAtSpec)

/-- ITS FALSE NEIGHBOUR: 'it returns false'. Refute it at one input. -/
def fnExactOpenAtWrong : ChangeSpec := { name := "fnExactOpenAt", fn := fun _ => fun
  | [d1, d2] => { results := [.lit (.bool false)], args := [d1, d2] }
  | _ => none }
def FnExactOpenAtWrongFalsely : Prop := fnExactOpenAtRow.holds Try.pinned (OpenSpec.ofChange fnExactOpenAtWrong)

/-- 'laws.FnExactReadRange': WHATEVER THE INPUT: true; the input reads as it did. -/
def fnExactReadRangeSpec : ChangeSpec := { name := "fnExactReadRange", fn := fun _ => fun
  | [d1, d2] => { results := [.lit (.bool true)], args := [d1, d2] }
  | _ => none }
def fnExactReadRangeRow : OpenClaim := { program := "ytbedbcnmfoildaa", sum := "54f4c53bee575146951631d92ab0ab25159d5e73eac7bd0cf8fdb9a23cf01d16", func := "loop.example/g00327/laws.FnExactReadRange", spec := "fnExactReadRange", apart := false }
def FnExactReadRangeSaid : Prop := fnExactReadRangeRow.holds Try.pinned (OpenSpec.ofChange fnExactReadRangeSpec)

/-- ITS FALSE NEIGHBOUR: 'it returns false'. Refute it at one input. -/
def fnExactReadRangeWrong : ChangeSpec := { name := "fnExactReadRange", fn := fun _ => fun
  | [d1, d2] => { results := [.lit (.bool false)], args := [d1, d2] }
  | _ => none }
def FnExactReadRangeWrongFalsely : Prop := fnExactReadRangeRow.holds Try.pinned (OpenSpec.ofChange fnExactReadRangeWrong)

/-- 'laws.FnExactReadTxn': WHATEVER THE INPUT: true; the input reads as it did. -/
def fnExactReadTxnSpec : ChangeSpec := { name := "fnExactReadTxn", fn := fun _ => fun
  | [d1, d2] => { results := [.lit (.bool true)], args := [d1, d2] }
  | _ => none }
def fnExactReadTxnRow : OpenClaim := { program := "ytbedbcnmfoildaa", sum := "54f4c53bee575146951631d92ab0ab25159d5e73eac7bd0cf8fdb9a23cf01d16", func := "loop.example/g00327/laws.FnExactReadTxn", spec := "fnExactReadTxn", unfollowed := true, recurses := true, apart := false }
def FnExactReadTxnSaid : Prop := fnExactReadTxnRow.holds Try.pinned (OpenSpec.ofChange fnExactReadTxnSpec)

/-- ITS FALSE NEIGHBOUR: 'it returns false'. Refute it at one input. -/
def fnExactReadTxnWrong : ChangeSpec := { name := "fnExactReadTxn", fn := fun _ => fun
  | [d1, d2] => { results := [.lit (.bool false)], args := [d1, d2] }
  | _ => none }
def FnExactReadTxnWrongFalsely : Prop := fnExactReadTxnRow.holds Try.pinned (OpenSpec.ofChange fnExactReadTxnWrong)

/-- 'laws.FnExactWriteKey': WHATEVER THE INPUT: true; the input reads as it did. -/
def fnExactWriteKeySpec : ChangeSpec := { name := "fnExactWriteKey", fn := fun _ => fun
  | [d1, d2] => { results := [.lit (.bool true)], args := [d1, d2] }
  | _ => none }
def fnExactWriteKeyRow : OpenClaim := { program := "ytbedbcnmfoildaa", sum := "54f4c53bee575146951631d92ab0ab25159d5e73eac7bd0cf8fdb9a23cf01d16", func := "loop.example/g00327/laws.FnExactWriteKey", spec := "fnExactWriteKey", inPlace := ["slices.overlaps[loop.example/g00327/impl.Write]"], apart := false }
def FnExactWriteKeySaid : Prop := fnExactWriteKeyRow.holds Try.pinned (OpenSpec.ofChange fnExactWriteKeySpec)

/-- ITS FALSE NEIGHBOUR: 'it returns false'. Refute it at one input. -/
def fnExactWriteKeyWrong : ChangeSpec := { name := "fnExactWriteKey", fn := fun _ => fun
  | [d1, d2] => { results := [.lit (.bool false)], args := [d1, d2] }
  | _ => none }
def FnExactWriteKeyWrongFalsely : Prop := fnExactWriteKeyRow.holds Try.pinned (OpenSpec.ofChange fnExactWriteKeyWrong)

/-- 'laws.FnExactBaseOk': WHATEVER THE INPUT: true; the input reads as it did. -/
def fnExactBaseOkSpec : ChangeSpec := { name := "fnExactBaseOk", fn := fun _ => fun
  | [d] => { results := [.lit (.bool true)], args := [d] }
  | _ => none }
def fnExactBaseOkRow : OpenClaim := { program := "ytbedbcnmfoildaa", sum := "54f4c53bee575146951631d92ab0ab25159d5e73eac7bd0cf8fdb9a23cf01d16", func := "loop.example/g00327/laws.FnExactBaseOk", spec := "fnExactBaseOk", unfollowed := true, recurses := true, apart := false }
def FnExactBaseOkSaid : Prop := fnExactBaseOkRow.holds Try.pinned (OpenSpec.ofChange fnExactBaseOkSpec)

/-- ITS FALSE NEIGHBOUR: 'it returns false'. Refute it at one input. -/
def fnExactBaseOkWrong : ChangeSpec := { name := "fnExactBaseOk", fn := fun _ => fun
  | [d] => { results := [.lit (.bool false)], args := [d] }
  | _ => none }
def FnExactBaseOkWrongFalsely : Prop := fnExactBaseOkRow.holds Try.pinned (OpenSpec.ofChange fnExactBaseOkWrong)

/-- 'laws.FnExactGivenUp': WHATEVER THE INPUT: true; the input reads as it did. -/
def fnExactGivenUpSpec : ChangeSpec := { name := "fnExactGivenUp", fn := fun _ => fun
  | [d1, d2] => { results := [.lit (.bool true)], args := [d1, d2] }
  | _ => none }
def fnExactGivenUpRow : OpenClaim := { program := "ytbedbcnmfoildaa", sum := "54f4c53bee575146951631d92ab0ab25159d5e73eac7bd0cf8fdb9a23cf01d16", func := "loop.example/g00327/laws.FnExactGivenUp", spec := "fnExactGivenUp", unfollowed := true, recurses := true, apart := false }
def FnExactGivenUpSaid : Prop := fnExactGivenUpRow.holds Try.pinned (OpenSpec.ofChange fnExactGivenUpSpec)

/-- ITS FALSE NEIGHBOUR: 'it returns false'. Refute it at one input. -/
def fnExactGivenUpWrong : ChangeSpec := { name := "fnExactGivenUp", fn := fun _ => fun
  | [d1, d2] => { results := [.lit (.bool false)], args := [d1, d2] }
  | _ => none }
def FnExactGivenUpWrongFalsely : Prop := fnExactGivenUpRow.holds Try.pinned (OpenSpec.ofChange fnExactGivenUpWrong)

/-- 'laws.FnExactSameFrom': WHATEVER THE INPUT: true; the input reads as it did. -/
def fnExactSameFromSpec : ChangeSpec := { name := "fnExactSameFrom", fn := fun _ => fun
  | [d1, d2, d3] => { results := [.lit (.bool true)], args := [d1, d2, d3] }
  | _ => none }
def fnExactSameFromRow : OpenClaim := { program := "ytbedbcnmfoildaa", sum := "54f4c53bee575146951631d92ab0ab25159d5e73eac7bd0cf8fdb9a23cf01d16", func := "loop.example/g00327/laws.FnExactSameFrom", spec := "fnExactSameFrom", unfollowed := true, recurses := true, apart := false }
def FnExactSameFromSaid : Prop := fnExactSameFromRow.holds Try.pinned (OpenSpec.ofChange fnExactSameFromSpec)

/-- ITS FALSE NEIGHBOUR: 'it returns false'. Refute it at one input. -/
def fnExactSameFromWrong : ChangeSpec := { name := "fnExactSameFrom", fn := fun _ => fun
  | [d1, d2, d3] => { results := [.lit (.bool false)], args := [d1, d2, d3] }
  | _ => none }
def FnExactSameFromWrongFalsely : Prop := fnExactSameFromRow.holds Try.pinned (OpenSpec.ofChange fnExactSameFromWrong)

/-- 'laws.FnExactScanAt': WHATEVER THE INPUT: true; the input reads as it did. -/
def fnExactScanAtSpec : ChangeSpec := { name := "fnExactScanAt", fn := fun _ => fun
  | [d1, d2, d3] => { results := [.lit (.bool true)], args := [d1, d2, d3] }
  | _ => none }
def fnExactScanAtRow : OpenClaim := { program := "ytbedbcnmfoildaa", sum := "54f4c53bee575146951631d92ab0ab25159d5e73eac7bd0cf8fdb9a23cf01d16", func := "loop.example/g00327/laws.FnExactScanAt", spec := "fnExactScanAt", recurses := true, apart := false }
def FnExactScanAtSaid : Prop := fnExactScanAtRow.holds Try.pinned (OpenSpec.ofChange fnExactScanAtSpec)

/-- ITS FALSE NEIGHBOUR: 'it returns false'. Refute it at one input. -/
def fnExactScanAtWrong : ChangeSpec := { name := "fnExactScanAt", fn := fun _ => fun
  | [d1, d2, d3] => { results := [.lit (.bool false)], args := [d1, d2, d3] }
  | _ => none }
def FnExactScanAtWrongFalsely : Prop := fnExactScanAtRow.holds Try.pinned (OpenSpec.ofChange fnExactScanAtWrong)

/- THE SECOND FORM. 'bulk': how many values and letters a reading holds, each counted each time it is reached (what is shared counts as often as it is met; a slice's spare places count too). A statement '..UptoSaid' is the law's where the arguments, and the package variables that the reading takes, are together of bulk at most 1048576: NARROWER than '..Said'. Prove '..Said' where nothing that the law and all that it calls make is longer than what came in: it says more and counts as full. Else prove '..UptoSaid'. A law counts once. -/
mutual
def uptoBulk {H : Type} : DataW H → Nat
  | .lit (.string bytes) => bytes.length + 1
  | .lit _ => 1
  | .nil => 1
  | .ptr d => uptoBulk d + 1
  | .slice elems spare => uptoBulkAll elems + uptoBulkAll spare + 1
  | .agg parts => uptoBulkAll parts + 1
  | .iface _ d => uptoBulk d + 1
  | .map entries => uptoBulkEntries entries + 1
  | .held _ => 1
def uptoBulkAll {H : Type} : List (DataW H) → Nat
  | [] => 0
  | d :: r => uptoBulk d + uptoBulkAll r
def uptoBulkEntries {H : Type} : List (Lit × DataW H) → Nat
  | [] => 0
  | x :: r => uptoBulkEntry x + uptoBulkEntries r
def uptoBulkEntry {H : Type} : Lit × DataW H → Nat
  | (.string bytes, d) => bytes.length + uptoBulk d + 1
  | (_, d) => uptoBulk d + 1
 end
def uptoSmall : (H : Type) → List (DataW H) → Bool := fun _ ds => decide (uptoBulkAll ds ≤ 1048576)
def OpenSpec.upto (s : _root_.Go.ChangeSpec) : _root_.Go.OpenSpec := { _root_.Go.OpenSpec.ofChange s with cond := some uptoSmall }

/-- 'laws.FnExactReadyAt', WHERE WHAT IT READS IS OF BULK AT MOST 1048576: true; the input reads as it did. -/
def fnExactReadyAtUptoRow : OpenClaim := { program := "ytbedbcnmfoildaa", sum := "54f4c53bee575146951631d92ab0ab25159d5e73eac7bd0cf8fdb9a23cf01d16", func := "loop.example/g00327/laws.FnExactReadyAt", spec := "fnExactReadyAt", unfollowed := true, recurses := true, apart := false, narrowed := true }
def FnExactReadyAtUptoSaid : Prop := fnExactReadyAtUptoRow.holds Try.pinned (OpenSpec.upto fnExactReadyAtSpec)

/-- 'laws.FnExactTxnText', WHERE WHAT IT READS IS OF BULK AT MOST 1048576: true; the input reads as it did. -/
def fnExactTxnTextUptoRow : OpenClaim := { program := "ytbedbcnmfoildaa", sum := "54f4c53bee575146951631d92ab0ab25159d5e73eac7bd0cf8fdb9a23cf01d16", func := "loop.example/g00327/laws.FnExactTxnText", spec := "fnExactTxnText", apart := false, narrowed := true }
def FnExactTxnTextUptoSaid : Prop := fnExactTxnTextUptoRow.holds Try.pinned (OpenSpec.upto fnExactTxnTextSpec)

/-- 'laws.FnDangers', WHERE WHAT IT READS IS OF BULK AT MOST 1048576: true; the input reads as it did. -/
def fnDangersUptoRow : OpenClaim := { program := "ytbedbcnmfoildaa", sum := "54f4c53bee575146951631d92ab0ab25159d5e73eac7bd0cf8fdb9a23cf01d16", func := "loop.example/g00327/laws.FnDangers", spec := "fnDangers", unfollowed := true, recurses := true, apart := false, narrowed := true }
def FnDangersUptoSaid : Prop := fnDangersUptoRow.holds Try.pinned (OpenSpec.upto fnDangersSpec)

/-- 'laws.FnExactPutVersions', WHERE WHAT IT READS IS OF BULK AT MOST 1048576: true; the input reads as it did. -/
def fnExactPutVersionsUptoRow : OpenClaim := { program := "ytbedbcnmfoildaa", sum := "54f4c53bee575146951631d92ab0ab25159d5e73eac7bd0cf8fdb9a23cf01d16", func := "loop.example/g00327/laws.FnExactPutVersions", spec := "fnExactPutVersions", inPlace := ["slices.overlaps[loop.example/g00327/impl.Version]"], unfollowed := true, recurses := true, apart := false, narrowed := true }
def FnExactPutVersionsUptoSaid : Prop := fnExactPutVersionsUptoRow.holds Try.pinned (OpenSpec.upto fnExactPutVersionsSpec)

/-- 'laws.FnExactOpenAt', WHERE WHAT IT READS IS OF BULK AT MOST 1048576: true; the input reads as it did. -/
def fnExactOpenAtUptoRow : OpenClaim := { program := "ytbedbcnmfoildaa", sum := "54f4c53bee575146951631d92ab0ab25159d5e73eac7bd0cf8fdb9a23cf01d16", func := "loop.example/g00327/laws.FnExactOpenAt", spec := "fnExactOpenAt", unfollowed := true, recurses := true, apart := false, narrowed := true }
def FnExactOpenAtUptoSaid : Prop := fnExactOpenAtUptoRow.holds Try.pinned (OpenSpec.upto fnExactOpenAtSpec)

/-- 'laws.FnExactReadRange', WHERE WHAT IT READS IS OF BULK AT MOST 1048576: true; the input reads as it did. -/
def fnExactReadRangeUptoRow : OpenClaim := { program := "ytbedbcnmfoildaa", sum := "54f4c53bee575146951631d92ab0ab25159d5e73eac7bd0cf8fdb9a23cf01d16", func := "loop.example/g00327/laws.FnExactReadRange", spec := "fnExactReadRange", apart := false, narrowed := true }
def FnExactReadRangeUptoSaid : Prop := fnExactReadRangeUptoRow.holds Try.pinned (OpenSpec.upto fnExactReadRangeSpec)

/-- 'laws.FnExactReadTxn', WHERE WHAT IT READS IS OF BULK AT MOST 1048576: true; the input reads as it did. -/
def fnExactReadTxnUptoRow : OpenClaim := { program := "ytbedbcnmfoildaa", sum := "54f4c53bee575146951631d92ab0ab25159d5e73eac7bd0cf8fdb9a23cf01d16", func := "loop.example/g00327/laws.FnExactReadTxn", spec := "fnExactReadTxn", unfollowed := true, recurses := true, apart := false, narrowed := true }
def FnExactReadTxnUptoSaid : Prop := fnExactReadTxnUptoRow.holds Try.pinned (OpenSpec.upto fnExactReadTxnSpec)

/-- 'laws.FnExactWriteKey', WHERE WHAT IT READS IS OF BULK AT MOST 1048576: true; the input reads as it did. -/
def fnExactWriteKeyUptoRow : OpenClaim := { program := "ytbedbcnmfoildaa", sum := "54f4c53bee575146951631d92ab0ab25159d5e73eac7bd0cf8fdb9a23cf01d16", func := "loop.example/g00327/laws.FnExactWriteKey", spec := "fnExactWriteKey", inPlace := ["slices.overlaps[loop.example/g00327/impl.Write]"], apart := false, narrowed := true }
def FnExactWriteKeyUptoSaid : Prop := fnExactWriteKeyUptoRow.holds Try.pinned (OpenSpec.upto fnExactWriteKeySpec)

/-- 'laws.FnExactBaseOk', WHERE WHAT IT READS IS OF BULK AT MOST 1048576: true; the input reads as it did. -/
def fnExactBaseOkUptoRow : OpenClaim := { program := "ytbedbcnmfoildaa", sum := "54f4c53bee575146951631d92ab0ab25159d5e73eac7bd0cf8fdb9a23cf01d16", func := "loop.example/g00327/laws.FnExactBaseOk", spec := "fnExactBaseOk", unfollowed := true, recurses := true, apart := false, narrowed := true }
def FnExactBaseOkUptoSaid : Prop := fnExactBaseOkUptoRow.holds Try.pinned (OpenSpec.upto fnExactBaseOkSpec)

/-- 'laws.FnExactGivenUp', WHERE WHAT IT READS IS OF BULK AT MOST 1048576: true; the input reads as it did. -/
def fnExactGivenUpUptoRow : OpenClaim := { program := "ytbedbcnmfoildaa", sum := "54f4c53bee575146951631d92ab0ab25159d5e73eac7bd0cf8fdb9a23cf01d16", func := "loop.example/g00327/laws.FnExactGivenUp", spec := "fnExactGivenUp", unfollowed := true, recurses := true, apart := false, narrowed := true }
def FnExactGivenUpUptoSaid : Prop := fnExactGivenUpUptoRow.holds Try.pinned (OpenSpec.upto fnExactGivenUpSpec)

/-- 'laws.FnExactSameFrom', WHERE WHAT IT READS IS OF BULK AT MOST 1048576: true; the input reads as it did. -/
def fnExactSameFromUptoRow : OpenClaim := { program := "ytbedbcnmfoildaa", sum := "54f4c53bee575146951631d92ab0ab25159d5e73eac7bd0cf8fdb9a23cf01d16", func := "loop.example/g00327/laws.FnExactSameFrom", spec := "fnExactSameFrom", unfollowed := true, recurses := true, apart := false, narrowed := true }
def FnExactSameFromUptoSaid : Prop := fnExactSameFromUptoRow.holds Try.pinned (OpenSpec.upto fnExactSameFromSpec)

/-- 'laws.FnExactScanAt', WHERE WHAT IT READS IS OF BULK AT MOST 1048576: true; the input reads as it did. -/
def fnExactScanAtUptoRow : OpenClaim := { program := "ytbedbcnmfoildaa", sum := "54f4c53bee575146951631d92ab0ab25159d5e73eac7bd0cf8fdb9a23cf01d16", func := "loop.example/g00327/laws.FnExactScanAt", spec := "fnExactScanAt", recurses := true, apart := false, narrowed := true }
def FnExactScanAtUptoSaid : Prop := fnExactScanAtUptoRow.holds Try.pinned (OpenSpec.upto fnExactScanAtSpec)

end Rows
end Go.Proofs.Ytbedbcnmfoildaa
