/-
  No cell of these rows narrows 'for every input' (looked for: loops, veiled, ifaces, maps, wideKeys, modest, calm, conditions, laid).
  DERIVED. THE GIVEN ROWS OF THIS SEAT. 3 by the template 'for every input the law returns true; each argument reads behind the call as it read before'; 0 by the template 'total and deterministic' (their statements: YtcccpkohlkfhoaaTotals.lean).
  GIVEN WITH THE SEED: the statements are not yours to turn. If you find one false, say at which input.
  Laid BY PROGRAM, IN A SANDBOX (cutbox-rows.mjs): the forced cells as the released guide's own fill.sh prints them over the translation fdc56e09b4a21e7f… (all of the seat's roots in one cut). By AI agents, Wed Nov 11 2026. No macro, syntax, notation, axiom, sorry.
-/
import Derived.Test.YtcccpkohlkfhoaaChecked
import GoSem.Claim
import GoSem.ClaimJoined
import GoSem.ClaimMapViews
import Derived.JoinedTies
import Derived.KernelRfl
namespace Go.Proofs.Ytcccpkohlkfhoaa
/- THE CELL 'sum', in the pinned program and in every row, IS THE sha256 OF THE DUMP (.gsa) THAT YtcccpkohlkfhoaaProg.lean LOADS. Nothing in Lean hashes anything: it is a label: what it is worth is what the hold of that sum in a sandbox is worth. -/
noncomputable def Try.pinned : Pinned := { name := "ytcccpkohlkfhoaa", sum := "fdc56e09b4a21e7fdac5e465724e7977c7f841131983bde7e0d086fe882da934", checked := Try.checked }
namespace Rows
def none {H : Type} : Left H := { results := [], args := [] }

/-- 'laws.FnExactScanAt': WHATEVER THE INPUT: true; the input reads as it did. -/
def fnExactScanAtSpec : ChangeSpec := { name := "fnExactScanAt", fn := fun _ => fun
  | [d1, d2, d3] => { results := [.lit (.bool true)], args := [d1, d2, d3] }
  | _ => none }
def fnExactScanAtRow : OpenClaim := { program := "ytcccpkohlkfhoaa", sum := "fdc56e09b4a21e7fdac5e465724e7977c7f841131983bde7e0d086fe882da934", func := "loop.example/g00327/laws.FnExactScanAt", spec := "fnExactScanAt", recurses := true, apart := false }
def FnExactScanAtSaid : Prop := fnExactScanAtRow.holds Try.pinned (OpenSpec.ofChange fnExactScanAtSpec)

/-- ITS FALSE NEIGHBOUR: 'it returns false'. Refute it at one input. -/
def fnExactScanAtWrong : ChangeSpec := { name := "fnExactScanAt", fn := fun _ => fun
  | [d1, d2, d3] => { results := [.lit (.bool false)], args := [d1, d2, d3] }
  | _ => none }
def FnExactScanAtWrongFalsely : Prop := fnExactScanAtRow.holds Try.pinned (OpenSpec.ofChange fnExactScanAtWrong)

/-- 'laws.FnExactSameFrom': WHATEVER THE INPUT: true; the input reads as it did. -/
def fnExactSameFromSpec : ChangeSpec := { name := "fnExactSameFrom", fn := fun _ => fun
  | [d1, d2, d3] => { results := [.lit (.bool true)], args := [d1, d2, d3] }
  | _ => none }
def fnExactSameFromRow : OpenClaim := { program := "ytcccpkohlkfhoaa", sum := "fdc56e09b4a21e7fdac5e465724e7977c7f841131983bde7e0d086fe882da934", func := "loop.example/g00327/laws.FnExactSameFrom", spec := "fnExactSameFrom", unfollowed := true, recurses := true, apart := false }
def FnExactSameFromSaid : Prop := fnExactSameFromRow.holds Try.pinned (OpenSpec.ofChange fnExactSameFromSpec)

/-- ITS FALSE NEIGHBOUR: 'it returns false'. Refute it at one input. -/
def fnExactSameFromWrong : ChangeSpec := { name := "fnExactSameFrom", fn := fun _ => fun
  | [d1, d2, d3] => { results := [.lit (.bool false)], args := [d1, d2, d3] }
  | _ => none }
def FnExactSameFromWrongFalsely : Prop := fnExactSameFromRow.holds Try.pinned (OpenSpec.ofChange fnExactSameFromWrong)

/-- 'laws.FnExactStoreNew': WHATEVER THE INPUT: true; the input reads as it did. -/
def fnExactStoreNewSpec : ChangeSpec := { name := "fnExactStoreNew", fn := fun _ => fun
  | [] => { results := [.lit (.bool true)], args := [] }
  | _ => none }
def fnExactStoreNewRow : OpenClaim := { program := "ytcccpkohlkfhoaa", sum := "fdc56e09b4a21e7fdac5e465724e7977c7f841131983bde7e0d086fe882da934", func := "loop.example/g00327/laws.FnExactStoreNew", spec := "fnExactStoreNew", inPlace := ["internal/abi.NoEscape", "internal/bytealg.MakeNoZero"], apart := false }
def FnExactStoreNewSaid : Prop := fnExactStoreNewRow.holds Try.pinned (OpenSpec.ofChange fnExactStoreNewSpec)

/-- ITS FALSE NEIGHBOUR: 'it returns false'. Refute it at one input. -/
def fnExactStoreNewWrong : ChangeSpec := { name := "fnExactStoreNew", fn := fun _ => fun
  | [] => { results := [.lit (.bool false)], args := [] }
  | _ => none }
def FnExactStoreNewWrongFalsely : Prop := fnExactStoreNewRow.holds Try.pinned (OpenSpec.ofChange fnExactStoreNewWrong)

/- THE SECOND FORM. 'bulk': how many values and letters a reading holds, each counted each time it is reached (what is shared counts as often as it is met; a slice's spare places count too). A statement '..UptoSaid' is the law's where the arguments, and the package variables that the reading takes, are together of bulk at most 1048576: NARROWER than '..Said'. Prove '..Said' where nothing that the law and all that it calls make is longer than what came in: it says more and counts as full. Else prove '..UptoSaid'. A law counts once. -/
mutual
def uptoBulk {H : Type} : DataW H → Nat
  | .lit (.string bytes) => bytes.length + 1
  | .lit _ => 1
  | .nil => 1
  | .ptr d => uptoBulk d + 1
  | .slice elems spare => uptoBulkAll elems + uptoBulkAll spare + 1
  | .agg parts => uptoBulkAll parts + 1
  | .iface _ d => uptoBulk d + 1
  | .map entries => uptoBulkEntries entries + 1
  | .held _ => 1
def uptoBulkAll {H : Type} : List (DataW H) → Nat
  | [] => 0
  | d :: r => uptoBulk d + uptoBulkAll r
def uptoBulkEntries {H : Type} : List (Lit × DataW H) → Nat
  | [] => 0
  | x :: r => uptoBulkEntry x + uptoBulkEntries r
def uptoBulkEntry {H : Type} : Lit × DataW H → Nat
  | (.string bytes, d) => bytes.length + uptoBulk d + 1
  | (_, d) => uptoBulk d + 1
 end
def uptoSmall : (H : Type) → List (DataW H) → Bool := fun _ ds => decide (uptoBulkAll ds ≤ 1048576)
def OpenSpec.upto (s : _root_.Go.ChangeSpec) : _root_.Go.OpenSpec := { _root_.Go.OpenSpec.ofChange s with cond := some uptoSmall }

/-- 'laws.FnExactScanAt', WHERE WHAT IT READS IS OF BULK AT MOST 1048576: true; the input reads as it did. -/
def fnExactScanAtUptoRow : OpenClaim := { program := "ytcccpkohlkfhoaa", sum := "fdc56e09b4a21e7fdac5e465724e7977c7f841131983bde7e0d086fe882da934", func := "loop.example/g00327/laws.FnExactScanAt", spec := "fnExactScanAt", recurses := true, apart := false, narrowed := true }
def FnExactScanAtUptoSaid : Prop := fnExactScanAtUptoRow.holds Try.pinned (OpenSpec.upto fnExactScanAtSpec)

/-- 'laws.FnExactSameFrom', WHERE WHAT IT READS IS OF BULK AT MOST 1048576: true; the input reads as it did. -/
def fnExactSameFromUptoRow : OpenClaim := { program := "ytcccpkohlkfhoaa", sum := "fdc56e09b4a21e7fdac5e465724e7977c7f841131983bde7e0d086fe882da934", func := "loop.example/g00327/laws.FnExactSameFrom", spec := "fnExactSameFrom", unfollowed := true, recurses := true, apart := false, narrowed := true }
def FnExactSameFromUptoSaid : Prop := fnExactSameFromUptoRow.holds Try.pinned (OpenSpec.upto fnExactSameFromSpec)

/-- 'laws.FnExactStoreNew', WHERE WHAT IT READS IS OF BULK AT MOST 1048576: true; the input reads as it did. -/
def fnExactStoreNewUptoRow : OpenClaim := { program := "ytcccpkohlkfhoaa", sum := "fdc56e09b4a21e7fdac5e465724e7977c7f841131983bde7e0d086fe882da934", func := "loop.example/g00327/laws.FnExactStoreNew", spec := "fnExactStoreNew", inPlace := ["internal/abi.NoEscape", "internal/bytealg.MakeNoZero"], apart := false, narrowed := true }
def FnExactStoreNewUptoSaid : Prop := fnExactStoreNewUptoRow.holds Try.pinned (OpenSpec.upto fnExactStoreNewSpec)

end Rows
end Go.Proofs.Ytcccpkohlkfhoaa
