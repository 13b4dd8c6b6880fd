/-
  No cell of these rows narrows 'for every input' (looked for: loops, veiled, ifaces, maps, wideKeys, modest, calm, conditions, laid).
  DERIVED. THE GIVEN ROWS OF THIS SEAT. 12 by the template 'for every input the law returns true; each argument reads behind the call as it read before'; 0 by the template 'total and deterministic' (their statements: YtdcgbmpmiehemaaTotals.lean).
  GIVEN WITH THE SEED: the statements are not yours to turn. If you find one false, say at which input.
  Laid BY PROGRAM, IN A SANDBOX (cutbox-rows.mjs): the forced cells as the released guide's own fill.sh prints them over the translation 1609a12a09c2f60e… (all of the seat's roots in one cut). By AI agents, Wed Nov 11 2026. No macro, syntax, notation, axiom, sorry.
-/
import Derived.Test.YtdcgbmpmiehemaaChecked
import GoSem.Claim
import GoSem.ClaimJoined
import GoSem.ClaimMapViews
import Derived.JoinedTies
import Derived.KernelRfl
namespace Go.Proofs.Ytdcgbmpmiehemaa
/- THE CELL 'sum', in the pinned program and in every row, IS THE sha256 OF THE DUMP (.gsa) THAT YtdcgbmpmiehemaaProg.lean LOADS. Nothing in Lean hashes anything: it is a label: what it is worth is what the hold of that sum in a sandbox is worth. -/
noncomputable def Try.pinned : Pinned := { name := "ytdcgbmpmiehemaa", sum := "1609a12a09c2f60e0917ce336e7642da64add0e1eeb6a600968599c991e00dac", checked := Try.checked }
namespace Rows
def none {H : Type} : Left H := { results := [], args := [] }

/-- 'laws.FnExactBeside': WHATEVER THE INPUT: true; the input reads as it did. -/
def fnExactBesideSpec : ChangeSpec := { name := "fnExactBeside", fn := fun _ => fun
  | [d1, d2] => { results := [.lit (.bool true)], args := [d1, d2] }
  | _ => none }
def fnExactBesideRow : OpenClaim := { program := "ytdcgbmpmiehemaa", sum := "1609a12a09c2f60e0917ce336e7642da64add0e1eeb6a600968599c991e00dac", func := "loop.example/g00327/laws.FnExactBeside", spec := "fnExactBeside", unfollowed := true, recurses := true, apart := false }
def FnExactBesideSaid : Prop := fnExactBesideRow.holds Try.pinned (OpenSpec.ofChange fnExactBesideSpec)

/-- ITS FALSE NEIGHBOUR: 'it returns false'. Refute it at one input. -/
def fnExactBesideWrong : ChangeSpec := { name := "fnExactBeside", fn := fun _ => fun
  | [d1, d2] => { results := [.lit (.bool false)], args := [d1, d2] }
  | _ => none }
def FnExactBesideWrongFalsely : Prop := fnExactBesideRow.holds Try.pinned (OpenSpec.ofChange fnExactBesideWrong)

/-- 'laws.FnEdges': WHATEVER THE INPUT: true; the input reads as it did. -/
def fnEdgesSpec : ChangeSpec := { name := "fnEdges", fn := fun _ => fun
  | [d] => { results := [.lit (.bool true)], args := [d] }
  | _ => none }
def fnEdgesRow : OpenClaim := { program := "ytdcgbmpmiehemaa", sum := "1609a12a09c2f60e0917ce336e7642da64add0e1eeb6a600968599c991e00dac", func := "loop.example/g00327/laws.FnEdges", spec := "fnEdges", unfollowed := true, recurses := true, apart := false }
def FnEdgesSaid : Prop := fnEdgesRow.holds Try.pinned (OpenSpec.ofChange fnEdgesSpec)

/-- ITS FALSE NEIGHBOUR: 'it returns false'. Refute it at one input. -/
def fnEdgesWrong : ChangeSpec := { name := "fnEdges", fn := fun _ => fun
  | [d] => { results := [.lit (.bool false)], args := [d] }
  | _ => none }
def FnEdgesWrongFalsely : Prop := fnEdgesRow.holds Try.pinned (OpenSpec.ofChange fnEdgesWrong)

/-- 'laws.FnExactAhead': WHATEVER THE INPUT: true; the input reads as it did. -/
def fnExactAheadSpec : ChangeSpec := { name := "fnExactAhead", fn := fun _ => fun
  | [d1, d2] => { results := [.lit (.bool true)], args := [d1, d2] }
  | _ => none }
def fnExactAheadRow : OpenClaim := { program := "ytdcgbmpmiehemaa", sum := "1609a12a09c2f60e0917ce336e7642da64add0e1eeb6a600968599c991e00dac", func := "loop.example/g00327/laws.FnExactAhead", spec := "fnExactAhead", unfollowed := true, recurses := true, apart := false }
def FnExactAheadSaid : Prop := fnExactAheadRow.holds Try.pinned (OpenSpec.ofChange fnExactAheadSpec)

/-- ITS FALSE NEIGHBOUR: 'it returns false'. Refute it at one input. -/
def fnExactAheadWrong : ChangeSpec := { name := "fnExactAhead", fn := fun _ => fun
  | [d1, d2] => { results := [.lit (.bool false)], args := [d1, d2] }
  | _ => none }
def FnExactAheadWrongFalsely : Prop := fnExactAheadRow.holds Try.pinned (OpenSpec.ofChange fnExactAheadWrong)

/-- 'laws.FnExactTxnOk': WHATEVER THE INPUT: true; the input reads as it did. -/
def fnExactTxnOkSpec : ChangeSpec := { name := "fnExactTxnOk", fn := fun _ => fun
  | [d] => { results := [.lit (.bool true)], args := [d] }
  | _ => none }
def fnExactTxnOkRow : OpenClaim := { program := "ytdcgbmpmiehemaa", sum := "1609a12a09c2f60e0917ce336e7642da64add0e1eeb6a600968599c991e00dac", func := "loop.example/g00327/laws.FnExactTxnOk", spec := "fnExactTxnOk", apart := false }
def FnExactTxnOkSaid : Prop := fnExactTxnOkRow.holds Try.pinned (OpenSpec.ofChange fnExactTxnOkSpec)

/-- ITS FALSE NEIGHBOUR: 'it returns false'. Refute it at one input. -/
def fnExactTxnOkWrong : ChangeSpec := { name := "fnExactTxnOk", fn := fun _ => fun
  | [d] => { results := [.lit (.bool false)], args := [d] }
  | _ => none }
def FnExactTxnOkWrongFalsely : Prop := fnExactTxnOkRow.holds Try.pinned (OpenSpec.ofChange fnExactTxnOkWrong)

/-- 'laws.FnExactBlocked': WHATEVER THE INPUT: true; the input reads as it did. -/
def fnExactBlockedSpec : ChangeSpec := { name := "fnExactBlocked", fn := fun _ => fun
  | [d1, d2] => { results := [.lit (.bool true)], args := [d1, d2] }
  | _ => none }
def fnExactBlockedRow : OpenClaim := { program := "ytdcgbmpmiehemaa", sum := "1609a12a09c2f60e0917ce336e7642da64add0e1eeb6a600968599c991e00dac", func := "loop.example/g00327/laws.FnExactBlocked", spec := "fnExactBlocked", unfollowed := true, recurses := true, apart := false }
def FnExactBlockedSaid : Prop := fnExactBlockedRow.holds Try.pinned (OpenSpec.ofChange fnExactBlockedSpec)

/-- ITS FALSE NEIGHBOUR: 'it returns false'. Refute it at one input. -/
def fnExactBlockedWrong : ChangeSpec := { name := "fnExactBlocked", fn := fun _ => fun
  | [d1, d2] => { results := [.lit (.bool false)], args := [d1, d2] }
  | _ => none }
def FnExactBlockedWrongFalsely : Prop := fnExactBlockedRow.holds Try.pinned (OpenSpec.ofChange fnExactBlockedWrong)

/-- 'laws.FnExactOutOf': WHATEVER THE INPUT: true; the input reads as it did. -/
def fnExactOutOfSpec : ChangeSpec := { name := "fnExactOutOf", fn := fun _ => fun
  | [d1, d2] => { results := [.lit (.bool true)], args := [d1, d2] }
  | _ => none }
def fnExactOutOfRow : OpenClaim := { program := "ytdcgbmpmiehemaa", sum := "1609a12a09c2f60e0917ce336e7642da64add0e1eeb6a600968599c991e00dac", func := "loop.example/g00327/laws.FnExactOutOf", spec := "fnExactOutOf", unfollowed := true, recurses := true, apart := false }
def FnExactOutOfSaid : Prop := fnExactOutOfRow.holds Try.pinned (OpenSpec.ofChange fnExactOutOfSpec)

/-- ITS FALSE NEIGHBOUR: 'it returns false'. Refute it at one input. -/
def fnExactOutOfWrong : ChangeSpec := { name := "fnExactOutOf", fn := fun _ => fun
  | [d1, d2] => { results := [.lit (.bool false)], args := [d1, d2] }
  | _ => none }
def FnExactOutOfWrongFalsely : Prop := fnExactOutOfRow.holds Try.pinned (OpenSpec.ofChange fnExactOutOfWrong)

/-- 'laws.FnTrims': WHATEVER THE INPUT: true; the input reads as it did. -/
def fnTrimsSpec : ChangeSpec := { name := "fnTrims", fn := fun _ => fun
  | [d] => { results := [.lit (.bool true)], args := [d] }
  | _ => none }
def fnTrimsRow : OpenClaim := { program := "ytdcgbmpmiehemaa", sum := "1609a12a09c2f60e0917ce336e7642da64add0e1eeb6a600968599c991e00dac", func := "loop.example/g00327/laws.FnTrims", spec := "fnTrims", unfollowed := true, recurses := true, apart := false }
def FnTrimsSaid : Prop := fnTrimsRow.holds Try.pinned (OpenSpec.ofChange fnTrimsSpec)

/-- ITS FALSE NEIGHBOUR: 'it returns false'. Refute it at one input. -/
def fnTrimsWrong : ChangeSpec := { name := "fnTrims", fn := fun _ => fun
  | [d] => { results := [.lit (.bool false)], args := [d] }
  | _ => none }
def FnTrimsWrongFalsely : Prop := fnTrimsRow.holds Try.pinned (OpenSpec.ofChange fnTrimsWrong)

/-- 'laws.FnExactInOf': WHATEVER THE INPUT: true; the input reads as it did. -/
def fnExactInOfSpec : ChangeSpec := { name := "fnExactInOf", fn := fun _ => fun
  | [d1, d2] => { results := [.lit (.bool true)], args := [d1, d2] }
  | _ => none }
def fnExactInOfRow : OpenClaim := { program := "ytdcgbmpmiehemaa", sum := "1609a12a09c2f60e0917ce336e7642da64add0e1eeb6a600968599c991e00dac", func := "loop.example/g00327/laws.FnExactInOf", spec := "fnExactInOf", unfollowed := true, recurses := true, apart := false }
def FnExactInOfSaid : Prop := fnExactInOfRow.holds Try.pinned (OpenSpec.ofChange fnExactInOfSpec)

/-- ITS FALSE NEIGHBOUR: 'it returns false'. Refute it at one input. -/
def fnExactInOfWrong : ChangeSpec := { name := "fnExactInOf", fn := fun _ => fun
  | [d1, d2] => { results := [.lit (.bool false)], args := [d1, d2] }
  | _ => none }
def FnExactInOfWrongFalsely : Prop := fnExactInOfRow.holds Try.pinned (OpenSpec.ofChange fnExactInOfWrong)

/-- 'laws.FnExactBaseNew': WHATEVER THE INPUT: true; the input reads as it did. -/
def fnExactBaseNewSpec : ChangeSpec := { name := "fnExactBaseNew", fn := fun _ => fun
  | [] => { results := [.lit (.bool true)], args := [] }
  | _ => none }
def fnExactBaseNewRow : OpenClaim := { program := "ytdcgbmpmiehemaa", sum := "1609a12a09c2f60e0917ce336e7642da64add0e1eeb6a600968599c991e00dac", func := "loop.example/g00327/laws.FnExactBaseNew", spec := "fnExactBaseNew", apart := false }
def FnExactBaseNewSaid : Prop := fnExactBaseNewRow.holds Try.pinned (OpenSpec.ofChange fnExactBaseNewSpec)

/-- ITS FALSE NEIGHBOUR: 'it returns false'. Refute it at one input. -/
def fnExactBaseNewWrong : ChangeSpec := { name := "fnExactBaseNew", fn := fun _ => fun
  | [] => { results := [.lit (.bool false)], args := [] }
  | _ => none }
def FnExactBaseNewWrongFalsely : Prop := fnExactBaseNewRow.holds Try.pinned (OpenSpec.ofChange fnExactBaseNewWrong)

/-- 'laws.FnExactOwnGet': WHATEVER THE INPUT: true; the input reads as it did. -/
def fnExactOwnGetSpec : ChangeSpec := { name := "fnExactOwnGet", fn := fun _ => fun
  | [d1, d2, d3] => { results := [.lit (.bool true)], args := [d1, d2, d3] }
  | _ => none }
def fnExactOwnGetRow : OpenClaim := { program := "ytdcgbmpmiehemaa", sum := "1609a12a09c2f60e0917ce336e7642da64add0e1eeb6a600968599c991e00dac", func := "loop.example/g00327/laws.FnExactOwnGet", spec := "fnExactOwnGet", unfollowed := true, recurses := true, apart := false }
def FnExactOwnGetSaid : Prop := fnExactOwnGetRow.holds Try.pinned (OpenSpec.ofChange fnExactOwnGetSpec)

/-- ITS FALSE NEIGHBOUR: 'it returns false'. Refute it at one input. -/
def fnExactOwnGetWrong : ChangeSpec := { name := "fnExactOwnGet", fn := fun _ => fun
  | [d1, d2, d3] => { results := [.lit (.bool false)], args := [d1, d2, d3] }
  | _ => none }
def FnExactOwnGetWrongFalsely : Prop := fnExactOwnGetRow.holds Try.pinned (OpenSpec.ofChange fnExactOwnGetWrong)

/-- 'laws.FnExactEngineNew': WHATEVER THE INPUT: true; the input reads as it did. -/
def fnExactEngineNewSpec : ChangeSpec := { name := "fnExactEngineNew", fn := fun _ => fun
  | [] => { results := [.lit (.bool true)], args := [] }
  | _ => none }
def fnExactEngineNewRow : OpenClaim := { program := "ytdcgbmpmiehemaa", sum := "1609a12a09c2f60e0917ce336e7642da64add0e1eeb6a600968599c991e00dac", func := "loop.example/g00327/laws.FnExactEngineNew", spec := "fnExactEngineNew", apart := false }
def FnExactEngineNewSaid : Prop := fnExactEngineNewRow.holds Try.pinned (OpenSpec.ofChange fnExactEngineNewSpec)

/-- ITS FALSE NEIGHBOUR: 'it returns false'. Refute it at one input. -/
def fnExactEngineNewWrong : ChangeSpec := { name := "fnExactEngineNew", fn := fun _ => fun
  | [] => { results := [.lit (.bool false)], args := [] }
  | _ => none }
def FnExactEngineNewWrongFalsely : Prop := fnExactEngineNewRow.holds Try.pinned (OpenSpec.ofChange fnExactEngineNewWrong)

/-- 'laws.FnExactOldestOf': WHATEVER THE INPUT: true; the input reads as it did. -/
def fnExactOldestOfSpec : ChangeSpec := { name := "fnExactOldestOf", fn := fun _ => fun
  | [d1, d2] => { results := [.lit (.bool true)], args := [d1, d2] }
  | _ => none }
def fnExactOldestOfRow : OpenClaim := { program := "ytdcgbmpmiehemaa", sum := "1609a12a09c2f60e0917ce336e7642da64add0e1eeb6a600968599c991e00dac", func := "loop.example/g00327/laws.FnExactOldestOf", spec := "fnExactOldestOf", apart := false }
def FnExactOldestOfSaid : Prop := fnExactOldestOfRow.holds Try.pinned (OpenSpec.ofChange fnExactOldestOfSpec)

/-- ITS FALSE NEIGHBOUR: 'it returns false'. Refute it at one input. -/
def fnExactOldestOfWrong : ChangeSpec := { name := "fnExactOldestOf", fn := fun _ => fun
  | [d1, d2] => { results := [.lit (.bool false)], args := [d1, d2] }
  | _ => none }
def FnExactOldestOfWrongFalsely : Prop := fnExactOldestOfRow.holds Try.pinned (OpenSpec.ofChange fnExactOldestOfWrong)

/- THE SECOND FORM. 'bulk': how many values and letters a reading holds, each counted each time it is reached (what is shared counts as often as it is met; a slice's spare places count too). A statement '..UptoSaid' is the law's where the arguments, and the package variables that the reading takes, are together of bulk at most 1048576: NARROWER than '..Said'. Prove '..Said' where nothing that the law and all that it calls make is longer than what came in: it says more and counts as full. Else prove '..UptoSaid'. A law counts once. -/
mutual
def uptoBulk {H : Type} : DataW H → Nat
  | .lit (.string bytes) => bytes.length + 1
  | .lit _ => 1
  | .nil => 1
  | .ptr d => uptoBulk d + 1
  | .slice elems spare => uptoBulkAll elems + uptoBulkAll spare + 1
  | .agg parts => uptoBulkAll parts + 1
  | .iface _ d => uptoBulk d + 1
  | .map entries => uptoBulkEntries entries + 1
  | .held _ => 1
def uptoBulkAll {H : Type} : List (DataW H) → Nat
  | [] => 0
  | d :: r => uptoBulk d + uptoBulkAll r
def uptoBulkEntries {H : Type} : List (Lit × DataW H) → Nat
  | [] => 0
  | x :: r => uptoBulkEntry x + uptoBulkEntries r
def uptoBulkEntry {H : Type} : Lit × DataW H → Nat
  | (.string bytes, d) => bytes.length + uptoBulk d + 1
  | (_, d) => uptoBulk d + 1
 end
def uptoSmall : (H : Type) → List (DataW H) → Bool := fun _ ds => decide (uptoBulkAll ds ≤ 1048576)
def OpenSpec.upto (s : _root_.Go.ChangeSpec) : _root_.Go.OpenSpec := { _root_.Go.OpenSpec.ofChange s with cond := some uptoSmall }

/-- 'laws.FnExactBeside', WHERE WHAT IT READS IS OF BULK AT MOST 1048576: true; the input reads as it did. -/
def fnExactBesideUptoRow : OpenClaim := { program := "ytdcgbmpmiehemaa", sum := "1609a12a09c2f60e0917ce336e7642da64add0e1eeb6a600968599c991e00dac", func := "loop.example/g00327/laws.FnExactBeside", spec := "fnExactBeside", unfollowed := true, recurses := true, apart := false, narrowed := true }
def FnExactBesideUptoSaid : Prop := fnExactBesideUptoRow.holds Try.pinned (OpenSpec.upto fnExactBesideSpec)

/-- 'laws.FnEdges', WHERE WHAT IT READS IS OF BULK AT MOST 1048576: true; the input reads as it did. -/
def fnEdgesUptoRow : OpenClaim := { program := "ytdcgbmpmiehemaa", sum := "1609a12a09c2f60e0917ce336e7642da64add0e1eeb6a600968599c991e00dac", func := "loop.example/g00327/laws.FnEdges", spec := "fnEdges", unfollowed := true, recurses := true, apart := false, narrowed := true }
def FnEdgesUptoSaid : Prop := fnEdgesUptoRow.holds Try.pinned (OpenSpec.upto fnEdgesSpec)

/-- 'laws.FnExactAhead', WHERE WHAT IT READS IS OF BULK AT MOST 1048576: true; the input reads as it did. -/
def fnExactAheadUptoRow : OpenClaim := { program := "ytdcgbmpmiehemaa", sum := "1609a12a09c2f60e0917ce336e7642da64add0e1eeb6a600968599c991e00dac", func := "loop.example/g00327/laws.FnExactAhead", spec := "fnExactAhead", unfollowed := true, recurses := true, apart := false, narrowed := true }
def FnExactAheadUptoSaid : Prop := fnExactAheadUptoRow.holds Try.pinned (OpenSpec.upto fnExactAheadSpec)

/-- 'laws.FnExactTxnOk', WHERE WHAT IT READS IS OF BULK AT MOST 1048576: true; the input reads as it did. -/
def fnExactTxnOkUptoRow : OpenClaim := { program := "ytdcgbmpmiehemaa", sum := "1609a12a09c2f60e0917ce336e7642da64add0e1eeb6a600968599c991e00dac", func := "loop.example/g00327/laws.FnExactTxnOk", spec := "fnExactTxnOk", apart := false, narrowed := true }
def FnExactTxnOkUptoSaid : Prop := fnExactTxnOkUptoRow.holds Try.pinned (OpenSpec.upto fnExactTxnOkSpec)

/-- 'laws.FnExactBlocked', WHERE WHAT IT READS IS OF BULK AT MOST 1048576: true; the input reads as it did. -/
def fnExactBlockedUptoRow : OpenClaim := { program := "ytdcgbmpmiehemaa", sum := "1609a12a09c2f60e0917ce336e7642da64add0e1eeb6a600968599c991e00dac", func := "loop.example/g00327/laws.FnExactBlocked", spec := "fnExactBlocked", unfollowed := true, recurses := true, apart := false, narrowed := true }
def FnExactBlockedUptoSaid : Prop := fnExactBlockedUptoRow.holds Try.pinned (OpenSpec.upto fnExactBlockedSpec)

/-- 'laws.FnExactOutOf', WHERE WHAT IT READS IS OF BULK AT MOST 1048576: true; the input reads as it did. -/
def fnExactOutOfUptoRow : OpenClaim := { program := "ytdcgbmpmiehemaa", sum := "1609a12a09c2f60e0917ce336e7642da64add0e1eeb6a600968599c991e00dac", func := "loop.example/g00327/laws.FnExactOutOf", spec := "fnExactOutOf", unfollowed := true, recurses := true, apart := false, narrowed := true }
def FnExactOutOfUptoSaid : Prop := fnExactOutOfUptoRow.holds Try.pinned (OpenSpec.upto fnExactOutOfSpec)

/-- 'laws.FnTrims', WHERE WHAT IT READS IS OF BULK AT MOST 1048576: true; the input reads as it did. -/
def fnTrimsUptoRow : OpenClaim := { program := "ytdcgbmpmiehemaa", sum := "1609a12a09c2f60e0917ce336e7642da64add0e1eeb6a600968599c991e00dac", func := "loop.example/g00327/laws.FnTrims", spec := "fnTrims", unfollowed := true, recurses := true, apart := false, narrowed := true }
def FnTrimsUptoSaid : Prop := fnTrimsUptoRow.holds Try.pinned (OpenSpec.upto fnTrimsSpec)

/-- 'laws.FnExactInOf', WHERE WHAT IT READS IS OF BULK AT MOST 1048576: true; the input reads as it did. -/
def fnExactInOfUptoRow : OpenClaim := { program := "ytdcgbmpmiehemaa", sum := "1609a12a09c2f60e0917ce336e7642da64add0e1eeb6a600968599c991e00dac", func := "loop.example/g00327/laws.FnExactInOf", spec := "fnExactInOf", unfollowed := true, recurses := true, apart := false, narrowed := true }
def FnExactInOfUptoSaid : Prop := fnExactInOfUptoRow.holds Try.pinned (OpenSpec.upto fnExactInOfSpec)

/-- 'laws.FnExactBaseNew', WHERE WHAT IT READS IS OF BULK AT MOST 1048576: true; the input reads as it did. -/
def fnExactBaseNewUptoRow : OpenClaim := { program := "ytdcgbmpmiehemaa", sum := "1609a12a09c2f60e0917ce336e7642da64add0e1eeb6a600968599c991e00dac", func := "loop.example/g00327/laws.FnExactBaseNew", spec := "fnExactBaseNew", apart := false, narrowed := true }
def FnExactBaseNewUptoSaid : Prop := fnExactBaseNewUptoRow.holds Try.pinned (OpenSpec.upto fnExactBaseNewSpec)

/-- 'laws.FnExactOwnGet', WHERE WHAT IT READS IS OF BULK AT MOST 1048576: true; the input reads as it did. -/
def fnExactOwnGetUptoRow : OpenClaim := { program := "ytdcgbmpmiehemaa", sum := "1609a12a09c2f60e0917ce336e7642da64add0e1eeb6a600968599c991e00dac", func := "loop.example/g00327/laws.FnExactOwnGet", spec := "fnExactOwnGet", unfollowed := true, recurses := true, apart := false, narrowed := true }
def FnExactOwnGetUptoSaid : Prop := fnExactOwnGetUptoRow.holds Try.pinned (OpenSpec.upto fnExactOwnGetSpec)

/-- 'laws.FnExactEngineNew', WHERE WHAT IT READS IS OF BULK AT MOST 1048576: true; the input reads as it did. -/
def fnExactEngineNewUptoRow : OpenClaim := { program := "ytdcgbmpmiehemaa", sum := "1609a12a09c2f60e0917ce336e7642da64add0e1eeb6a600968599c991e00dac", func := "loop.example/g00327/laws.FnExactEngineNew", spec := "fnExactEngineNew", apart := false, narrowed := true }
def FnExactEngineNewUptoSaid : Prop := fnExactEngineNewUptoRow.holds Try.pinned (OpenSpec.upto fnExactEngineNewSpec)

/-- 'laws.FnExactOldestOf', WHERE WHAT IT READS IS OF BULK AT MOST 1048576: true; the input reads as it did. -/
def fnExactOldestOfUptoRow : OpenClaim := { program := "ytdcgbmpmiehemaa", sum := "1609a12a09c2f60e0917ce336e7642da64add0e1eeb6a600968599c991e00dac", func := "loop.example/g00327/laws.FnExactOldestOf", spec := "fnExactOldestOf", apart := false, narrowed := true }
def FnExactOldestOfUptoSaid : Prop := fnExactOldestOfUptoRow.holds Try.pinned (OpenSpec.upto fnExactOldestOfSpec)

end Rows
end Go.Proofs.Ytdcgbmpmiehemaa
