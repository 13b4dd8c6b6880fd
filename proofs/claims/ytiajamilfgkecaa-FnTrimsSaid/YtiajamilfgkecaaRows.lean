/-
  No cell of these rows narrows 'for every input' (looked for: loops, veiled, ifaces, maps, wideKeys, modest, calm, conditions, laid).
  DERIVED. THE GIVEN ROWS OF THIS SEAT. 8 by the template 'for every input the law returns true; each argument reads behind the call as it read before'; 0 by the template 'total and deterministic' (their statements: YtiajamilfgkecaaTotals.lean).
  GIVEN WITH THE SEED: the statements are not yours to turn. If you find one false, say at which input.
  Laid BY PROGRAM, IN A SANDBOX (cutbox-rows.mjs): the forced cells as the released guide's own fill.sh prints them over the translation 87710f3416d0251e… (all of the seat's roots in one cut). By AI agents, Wed Nov 11 2026. No macro, syntax, notation, axiom, sorry.
-/
import Derived.Test.YtiajamilfgkecaaChecked
import GoSem.Claim
import GoSem.ClaimJoined
import GoSem.ClaimMapViews
import Derived.JoinedTies
import Derived.KernelRfl
namespace Go.Proofs.Ytiajamilfgkecaa
/- THE CELL 'sum', in the pinned program and in every row, IS THE sha256 OF THE DUMP (.gsa) THAT YtiajamilfgkecaaProg.lean LOADS. Nothing in Lean hashes anything: it is a label: what it is worth is what the hold of that sum in a sandbox is worth. -/
noncomputable def Try.pinned : Pinned := { name := "ytiajamilfgkecaa", sum := "87710f3416d0251e15fd627d7b061b8a82f5e3a4f03682c55a9977223f71d773", checked := Try.checked }
namespace Rows
def none {H : Type} : Left H := { results := [], args := [] }

/-- 'laws.FnExactPutVersions': WHATEVER THE INPUT: true; the input reads as it did. -/
def fnExactPutVersionsSpec : ChangeSpec := { name := "fnExactPutVersions", fn := fun _ => fun
  | [d1, d2, d3] => { results := [.lit (.bool true)], args := [d1, d2, d3] }
  | _ => none }
def fnExactPutVersionsRow : OpenClaim := { program := "ytiajamilfgkecaa", sum := "87710f3416d0251e15fd627d7b061b8a82f5e3a4f03682c55a9977223f71d773", func := "loop.example/g00327/laws.FnExactPutVersions", spec := "fnExactPutVersions", inPlace := ["slices.overlaps[loop.example/g00327/impl.Version]"], unfollowed := true, recurses := true, apart := false }
def FnExactPutVersionsSaid : Prop := fnExactPutVersionsRow.holds Try.pinned (OpenSpec.ofChange fnExactPutVersionsSpec)

/-- ITS FALSE NEIGHBOUR: 'it returns false'. Refute it at one input. -/
def fnExactPutVersionsWrong : ChangeSpec := { name := "fnExactPutVersions", fn := fun _ => fun
  | [d1, d2, d3] => { results := [.lit (.bool false)], args := [d1, d2, d3] }
  | _ => none }
def FnExactPutVersionsWrongFalsely : Prop := fnExactPutVersionsRow.holds Try.pinned (OpenSpec.ofChange fnExactPutVersionsWrong)

/-- 'laws.FnExactWriteKey': WHATEVER THE INPUT: true; the input reads as it did. -/
def fnExactWriteKeySpec : ChangeSpec := { name := "fnExactWriteKey", fn := fun _ => fun
  | [d1, d2] => { results := [.lit (.bool true)], args := [d1, d2] }
  | _ => none }
def fnExactWriteKeyRow : OpenClaim := { program := "ytiajamilfgkecaa", sum := "87710f3416d0251e15fd627d7b061b8a82f5e3a4f03682c55a9977223f71d773", func := "loop.example/g00327/laws.FnExactWriteKey", spec := "fnExactWriteKey", inPlace := ["slices.overlaps[loop.example/g00327/impl.Write]"], apart := false }
def FnExactWriteKeySaid : Prop := fnExactWriteKeyRow.holds Try.pinned (OpenSpec.ofChange fnExactWriteKeySpec)

/-- ITS FALSE NEIGHBOUR: 'it returns false'. Refute it at one input. -/
def fnExactWriteKeyWrong : ChangeSpec := { name := "fnExactWriteKey", fn := fun _ => fun
  | [d1, d2] => { results := [.lit (.bool false)], args := [d1, d2] }
  | _ => none }
def FnExactWriteKeyWrongFalsely : Prop := fnExactWriteKeyRow.holds Try.pinned (OpenSpec.ofChange fnExactWriteKeyWrong)

/-- 'laws.FnExactGivenUp': WHATEVER THE INPUT: true; the input reads as it did. -/
def fnExactGivenUpSpec : ChangeSpec := { name := "fnExactGivenUp", fn := fun _ => fun
  | [d1, d2] => { results := [.lit (.bool true)], args := [d1, d2] }
  | _ => none }
def fnExactGivenUpRow : OpenClaim := { program := "ytiajamilfgkecaa", sum := "87710f3416d0251e15fd627d7b061b8a82f5e3a4f03682c55a9977223f71d773", func := "loop.example/g00327/laws.FnExactGivenUp", spec := "fnExactGivenUp", unfollowed := true, recurses := true, apart := false }
def FnExactGivenUpSaid : Prop := fnExactGivenUpRow.holds Try.pinned (OpenSpec.ofChange fnExactGivenUpSpec)

/-- ITS FALSE NEIGHBOUR: 'it returns false'. Refute it at one input. -/
def fnExactGivenUpWrong : ChangeSpec := { name := "fnExactGivenUp", fn := fun _ => fun
  | [d1, d2] => { results := [.lit (.bool false)], args := [d1, d2] }
  | _ => none }
def FnExactGivenUpWrongFalsely : Prop := fnExactGivenUpRow.holds Try.pinned (OpenSpec.ofChange fnExactGivenUpWrong)

/-- 'laws.FnExactTidied': WHATEVER THE INPUT: true; the input reads as it did. -/
def fnExactTidiedSpec : ChangeSpec := { name := "fnExactTidied", fn := fun _ => fun
  | [d1, d2] => { results := [.lit (.bool true)], args := [d1, d2] }
  | _ => none }
def fnExactTidiedRow : OpenClaim := { program := "ytiajamilfgkecaa", sum := "87710f3416d0251e15fd627d7b061b8a82f5e3a4f03682c55a9977223f71d773", func := "loop.example/g00327/laws.FnExactTidied", spec := "fnExactTidied", unfollowed := true, recurses := true, apart := false }
def FnExactTidiedSaid : Prop := fnExactTidiedRow.holds Try.pinned (OpenSpec.ofChange fnExactTidiedSpec)

/-- ITS FALSE NEIGHBOUR: 'it returns false'. Refute it at one input. -/
def fnExactTidiedWrong : ChangeSpec := { name := "fnExactTidied", fn := fun _ => fun
  | [d1, d2] => { results := [.lit (.bool false)], args := [d1, d2] }
  | _ => none }
def FnExactTidiedWrongFalsely : Prop := fnExactTidiedRow.holds Try.pinned (OpenSpec.ofChange fnExactTidiedWrong)

/-- 'laws.FnExactLeave': WHATEVER THE INPUT: true; the input reads as it did. -/
def fnExactLeaveSpec : ChangeSpec := { name := "fnExactLeave", fn := fun _ => fun
  | [d1, d2] => { results := [.lit (.bool true)], args := [d1, d2] }
  | _ => none }
def fnExactLeaveRow : OpenClaim := { program := "ytiajamilfgkecaa", sum := "87710f3416d0251e15fd627d7b061b8a82f5e3a4f03682c55a9977223f71d773", func := "loop.example/g00327/laws.FnExactLeave", spec := "fnExactLeave", unfollowed := true, recurses := true, apart := false }
def FnExactLeaveSaid : Prop := fnExactLeaveRow.holds Try.pinned (OpenSpec.ofChange fnExactLeaveSpec)

/-- ITS FALSE NEIGHBOUR: 'it returns false'. Refute it at one input. -/
def fnExactLeaveWrong : ChangeSpec := { name := "fnExactLeave", fn := fun _ => fun
  | [d1, d2] => { results := [.lit (.bool false)], args := [d1, d2] }
  | _ => none }
def FnExactLeaveWrongFalsely : Prop := fnExactLeaveRow.holds Try.pinned (OpenSpec.ofChange fnExactLeaveWrong)

/-- 'laws.FnOwn': WHATEVER THE INPUT: true; the input reads as it did. -/
def fnOwnSpec : ChangeSpec := { name := "fnOwn", fn := fun _ => fun
  | [d] => { results := [.lit (.bool true)], args := [d] }
  | _ => none }
def fnOwnRow : OpenClaim := { program := "ytiajamilfgkecaa", sum := "87710f3416d0251e15fd627d7b061b8a82f5e3a4f03682c55a9977223f71d773", func := "loop.example/g00327/laws.FnOwn", spec := "fnOwn", unfollowed := true, recurses := true, apart := false }
def FnOwnSaid : Prop := fnOwnRow.holds Try.pinned (OpenSpec.ofChange fnOwnSpec)

/-- ITS FALSE NEIGHBOUR: 'it returns false'. Refute it at one input. -/
def fnOwnWrong : ChangeSpec := { name := "fnOwn", fn := fun _ => fun
  | [d] => { results := [.lit (.bool false)], args := [d] }
  | _ => none }
def FnOwnWrongFalsely : Prop := fnOwnRow.holds Try.pinned (OpenSpec.ofChange fnOwnWrong)

/-- 'laws.FnSeen': WHATEVER THE INPUT: true; the input reads as it did. -/
def fnSeenSpec : ChangeSpec := { name := "fnSeen", fn := fun _ => fun
  | [d] => { results := [.lit (.bool true)], args := [d] }
  | _ => none }
def fnSeenRow : OpenClaim := { program := "ytiajamilfgkecaa", sum := "87710f3416d0251e15fd627d7b061b8a82f5e3a4f03682c55a9977223f71d773", func := "loop.example/g00327/laws.FnSeen", spec := "fnSeen", inPlace := ["slices.overlaps[loop.example/g00327/impl.Version]"], unfollowed := true, recurses := true, apart := false }
def FnSeenSaid : Prop := fnSeenRow.holds Try.pinned (OpenSpec.ofChange fnSeenSpec)

/-- ITS FALSE NEIGHBOUR: 'it returns false'. Refute it at one input. -/
def fnSeenWrong : ChangeSpec := { name := "fnSeen", fn := fun _ => fun
  | [d] => { results := [.lit (.bool false)], args := [d] }
  | _ => none }
def FnSeenWrongFalsely : Prop := fnSeenRow.holds Try.pinned (OpenSpec.ofChange fnSeenWrong)

/-- 'laws.FnTrims': WHATEVER THE INPUT: true; the input reads as it did. -/
def fnTrimsSpec : ChangeSpec := { name := "fnTrims", fn := fun _ => fun
  | [d] => { results := [.lit (.bool true)], args := [d] }
  | _ => none }
def fnTrimsRow : OpenClaim := { program := "ytiajamilfgkecaa", sum := "87710f3416d0251e15fd627d7b061b8a82f5e3a4f03682c55a9977223f71d773", func := "loop.example/g00327/laws.FnTrims", spec := "fnTrims", unfollowed := true, recurses := true, apart := false }
def FnTrimsSaid : Prop := fnTrimsRow.holds Try.pinned (OpenSpec.ofChange fnTrimsSpec)

/-- ITS FALSE NEIGHBOUR: 'it returns false'. Refute it at one input. -/
def fnTrimsWrong : ChangeSpec := { name := "fnTrims", fn := fun _ => fun
  | [d] => { results := [.lit (.bool false)], args := [d] }
  | _ => none }
def FnTrimsWrongFalsely : Prop := fnTrimsRow.holds Try.pinned (OpenSpec.ofChange fnTrimsWrong)

/- THE SECOND FORM. 'bulk': how many values and letters a reading holds, each counted each time it is reached (what is shared counts as often as it is met; a slice's spare places count too). A statement '..UptoSaid' is the law's where the arguments, and the package variables that the reading takes, are together of bulk at most 1048576: NARROWER than '..Said'. Prove '..Said' where nothing that the law and all that it calls make is longer than what came in: it says more and counts as full. Else prove '..UptoSaid'. A law counts once. -/
mutual
def uptoBulk {H : Type} : DataW H → Nat
  | .lit (.string bytes) => bytes.length + 1
  | .lit _ => 1
  | .nil => 1
  | .ptr d => uptoBulk d + 1
  | .slice elems spare => uptoBulkAll elems + uptoBulkAll spare + 1
  | .agg parts => uptoBulkAll parts + 1
  | .iface _ d => uptoBulk d + 1
  | .map entries => uptoBulkEntries entries + 1
  | .held _ => 1
def uptoBulkAll {H : Type} : List (DataW H) → Nat
  | [] => 0
  | d :: r => uptoBulk d + uptoBulkAll r
def uptoBulkEntries {H : Type} : List (Lit × DataW H) → Nat
  | [] => 0
  | x :: r => uptoBulkEntry x + uptoBulkEntries r
def uptoBulkEntry {H : Type} : Lit × DataW H → Nat
  | (.string bytes, d) => bytes.length + uptoBulk d + 1
  | (_, d) => uptoBulk d + 1
 end
def uptoSmall : (H : Type) → List (DataW H) → Bool := fun _ ds => decide (uptoBulkAll ds ≤ 1048576)
def OpenSpec.upto (s : _root_.Go.ChangeSpec) : _root_.Go.OpenSpec := { _root_.Go.OpenSpec.ofChange s with cond := some uptoSmall }

/-- 'laws.FnExactPutVersions', WHERE WHAT IT READS IS OF BULK AT MOST 1048576: true; the input reads as it did. -/
def fnExactPutVersionsUptoRow : OpenClaim := { program := "ytiajamilfgkecaa", sum := "87710f3416d0251e15fd627d7b061b8a82f5e3a4f03682c55a9977223f71d773", func := "loop.example/g00327/laws.FnExactPutVersions", spec := "fnExactPutVersions", inPlace := ["slices.overlaps[loop.example/g00327/impl.Version]"], unfollowed := true, recurses := true, apart := false, narrowed := true }
def FnExactPutVersionsUptoSaid : Prop := fnExactPutVersionsUptoRow.holds Try.pinned (OpenSpec.upto fnExactPutVersionsSpec)

/-- 'laws.FnExactWriteKey', WHERE WHAT IT READS IS OF BULK AT MOST 1048576: true; the input reads as it did. -/
def fnExactWriteKeyUptoRow : OpenClaim := { program := "ytiajamilfgkecaa", sum := "87710f3416d0251e15fd627d7b061b8a82f5e3a4f03682c55a9977223f71d773", func := "loop.example/g00327/laws.FnExactWriteKey", spec := "fnExactWriteKey", inPlace := ["slices.overlaps[loop.example/g00327/impl.Write]"], apart := false, narrowed := true }
def FnExactWriteKeyUptoSaid : Prop := fnExactWriteKeyUptoRow.holds Try.pinned (OpenSpec.upto fnExactWriteKeySpec)

/-- 'laws.FnExactGivenUp', WHERE WHAT IT READS IS OF BULK AT MOST 1048576: true; the input reads as it did. -/
def fnExactGivenUpUptoRow : OpenClaim := { program := "ytiajamilfgkecaa", sum := "87710f3416d0251e15fd627d7b061b8a82f5e3a4f03682c55a9977223f71d773", func := "loop.example/g00327/laws.FnExactGivenUp", spec := "fnExactGivenUp", unfollowed := true, recurses := true, apart := false, narrowed := true }
def FnExactGivenUpUptoSaid : Prop := fnExactGivenUpUptoRow.holds Try.pinned (OpenSpec.upto fnExactGivenUpSpec)

/-- 'laws.FnExactTidied', WHERE WHAT IT READS IS OF BULK AT MOST 1048576: true; the input reads as it did. -/
def fnExactTidiedUptoRow : OpenClaim := { program := "ytiajamilfgkecaa", sum := "87710f3416d0251e15fd627d7b061b8a82f5e3a4f03682c55a9977223f71d773", func := "loop.example/g00327/laws.FnExactTidied", spec := "fnExactTidied", unfollowed := true, recurses := true, apart := false, narrowed := true }
def FnExactTidiedUptoSaid : Prop := fnExactTidiedUptoRow.holds Try.pinned (OpenSpec.upto fnExactTidiedSpec)

/-- 'laws.FnExactLeave', WHERE WHAT IT READS IS OF BULK AT MOST 1048576: true; the input reads as it did. -/
def fnExactLeaveUptoRow : OpenClaim := { program := "ytiajamilfgkecaa", sum := "87710f3416d0251e15fd627d7b061b8a82f5e3a4f03682c55a9977223f71d773", func := "loop.example/g00327/laws.FnExactLeave", spec := "fnExactLeave", unfollowed := true, recurses := true, apart := false, narrowed := true }
def FnExactLeaveUptoSaid : Prop := fnExactLeaveUptoRow.holds Try.pinned (OpenSpec.upto fnExactLeaveSpec)

/-- 'laws.FnOwn', WHERE WHAT IT READS IS OF BULK AT MOST 1048576: true; the input reads as it did. -/
def fnOwnUptoRow : OpenClaim := { program := "ytiajamilfgkecaa", sum := "87710f3416d0251e15fd627d7b061b8a82f5e3a4f03682c55a9977223f71d773", func := "loop.example/g00327/laws.FnOwn", spec := "fnOwn", unfollowed := true, recurses := true, apart := false, narrowed := true }
def FnOwnUptoSaid : Prop := fnOwnUptoRow.holds Try.pinned (OpenSpec.upto fnOwnSpec)

/-- 'laws.FnSeen', WHERE WHAT IT READS IS OF BULK AT MOST 1048576: true; the input reads as it did. -/
def fnSeenUptoRow : OpenClaim := { program := "ytiajamilfgkecaa", sum := "87710f3416d0251e15fd627d7b061b8a82f5e3a4f03682c55a9977223f71d773", func := "loop.example/g00327/laws.FnSeen", spec := "fnSeen", inPlace := ["slices.overlaps[loop.example/g00327/impl.Version]"], unfollowed := true, recurses := true, apart := false, narrowed := true }
def FnSeenUptoSaid : Prop := fnSeenUptoRow.holds Try.pinned (OpenSpec.upto fnSeenSpec)

/-- 'laws.FnTrims', WHERE WHAT IT READS IS OF BULK AT MOST 1048576: true; the input reads as it did. -/
def fnTrimsUptoRow : OpenClaim := { program := "ytiajamilfgkecaa", sum := "87710f3416d0251e15fd627d7b061b8a82f5e3a4f03682c55a9977223f71d773", func := "loop.example/g00327/laws.FnTrims", spec := "fnTrims", unfollowed := true, recurses := true, apart := false, narrowed := true }
def FnTrimsUptoSaid : Prop := fnTrimsUptoRow.holds Try.pinned (OpenSpec.upto fnTrimsSpec)

end Rows
end Go.Proofs.Ytiajamilfgkecaa
