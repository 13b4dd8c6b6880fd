/-
  No cell of these rows narrows 'for every input' (looked for: loops, veiled, ifaces, maps, wideKeys, modest, calm, conditions, laid).
  DERIVED. THE GIVEN ROWS OF THIS SEAT. 11 by the template 'for every input the law returns true; each argument reads behind the call as it read before'; 0 by the template 'total and deterministic' (their statements: YtpmahbmokfaflaaTotals.lean).
  GIVEN WITH THE SEED: the statements are not yours to turn. If you find one false, say at which input.
  Laid BY PROGRAM, IN A SANDBOX (cutbox-rows.mjs): the forced cells as the released guide's own fill.sh prints them over the translation bbe59642981b56b5… (all of the seat's roots in one cut). By AI agents, Wed Nov 11 2026. No macro, syntax, notation, axiom, sorry.
-/
import Derived.Test.YtpmahbmokfaflaaChecked
import GoSem.Claim
import GoSem.ClaimJoined
import GoSem.ClaimMapViews
import Derived.JoinedTies
import Derived.KernelRfl
namespace Go.Proofs.Ytpmahbmokfaflaa
/- THE CELL 'sum', in the pinned program and in every row, IS THE sha256 OF THE DUMP (.gsa) THAT YtpmahbmokfaflaaProg.lean LOADS. Nothing in Lean hashes anything: it is a label: what it is worth is what the hold of that sum in a sandbox is worth. -/
noncomputable def Try.pinned : Pinned := { name := "ytpmahbmokfaflaa", sum := "bbe59642981b56b54d5e18fb8cdddb6c9db8699ec64a19de6917458586071c61", checked := Try.checked }
namespace Rows
def none {H : Type} : Left H := { results := [], args := [] }

/-- 'laws.FnExactInDoubt': WHATEVER THE INPUT: true; the input reads as it did. -/
def fnExactInDoubtSpec : ChangeSpec := { name := "fnExactInDoubt", fn := fun _ => fun
  | [d] => { results := [.lit (.bool true)], args := [d] }
  | _ => none }
def fnExactInDoubtRow : OpenClaim := { program := "ytpmahbmokfaflaa", sum := "bbe59642981b56b54d5e18fb8cdddb6c9db8699ec64a19de6917458586071c61", func := "loop.example/g00327/laws.FnExactInDoubt", spec := "fnExactInDoubt", apart := false }
def FnExactInDoubtSaid : Prop := fnExactInDoubtRow.holds Try.pinned (OpenSpec.ofChange fnExactInDoubtSpec)

/-- ITS FALSE NEIGHBOUR: 'it returns false'. Refute it at one input. -/
def fnExactInDoubtWrong : ChangeSpec := { name := "fnExactInDoubt", fn := fun _ => fun
  | [d] => { results := [.lit (.bool false)], args := [d] }
  | _ => none }
def FnExactInDoubtWrongFalsely : Prop := fnExactInDoubtRow.holds Try.pinned (OpenSpec.ofChange fnExactInDoubtWrong)

/-- 'laws.FnExactEngineOk': WHATEVER THE INPUT: true; the input reads as it did. -/
def fnExactEngineOkSpec : ChangeSpec := { name := "fnExactEngineOk", fn := fun _ => fun
  | [d] => { results := [.lit (.bool true)], args := [d] }
  | _ => none }
def fnExactEngineOkRow : OpenClaim := { program := "ytpmahbmokfaflaa", sum := "bbe59642981b56b54d5e18fb8cdddb6c9db8699ec64a19de6917458586071c61", func := "loop.example/g00327/laws.FnExactEngineOk", spec := "fnExactEngineOk", unfollowed := true, recurses := true, apart := false }
def FnExactEngineOkSaid : Prop := fnExactEngineOkRow.holds Try.pinned (OpenSpec.ofChange fnExactEngineOkSpec)

/-- ITS FALSE NEIGHBOUR: 'it returns false'. Refute it at one input. -/
def fnExactEngineOkWrong : ChangeSpec := { name := "fnExactEngineOk", fn := fun _ => fun
  | [d] => { results := [.lit (.bool false)], args := [d] }
  | _ => none }
def FnExactEngineOkWrongFalsely : Prop := fnExactEngineOkRow.holds Try.pinned (OpenSpec.ofChange fnExactEngineOkWrong)

/-- 'laws.FnOwn': WHATEVER THE INPUT: true; the input reads as it did. -/
def fnOwnSpec : ChangeSpec := { name := "fnOwn", fn := fun _ => fun
  | [d] => { results := [.lit (.bool true)], args := [d] }
  | _ => none }
def fnOwnRow : OpenClaim := { program := "ytpmahbmokfaflaa", sum := "bbe59642981b56b54d5e18fb8cdddb6c9db8699ec64a19de6917458586071c61", func := "loop.example/g00327/laws.FnOwn", spec := "fnOwn", unfollowed := true, recurses := true, apart := false }
def FnOwnSaid : Prop := fnOwnRow.holds Try.pinned (OpenSpec.ofChange fnOwnSpec)

/-- ITS FALSE NEIGHBOUR: 'it returns false'. Refute it at one input. -/
def fnOwnWrong : ChangeSpec := { name := "fnOwn", fn := fun _ => fun
  | [d] => { results := [.lit (.bool false)], args := [d] }
  | _ => none }
def FnOwnWrongFalsely : Prop := fnOwnRow.holds Try.pinned (OpenSpec.ofChange fnOwnWrong)

/-- 'laws.FnExactRecordOk': WHATEVER THE INPUT: true; the input reads as it did. -/
def fnExactRecordOkSpec : ChangeSpec := { name := "fnExactRecordOk", fn := fun _ => fun
  | [d] => { results := [.lit (.bool true)], args := [d] }
  | _ => none }
def fnExactRecordOkRow : OpenClaim := { program := "ytpmahbmokfaflaa", sum := "bbe59642981b56b54d5e18fb8cdddb6c9db8699ec64a19de6917458586071c61", func := "loop.example/g00327/laws.FnExactRecordOk", spec := "fnExactRecordOk", unfollowed := true, recurses := true, apart := false }
def FnExactRecordOkSaid : Prop := fnExactRecordOkRow.holds Try.pinned (OpenSpec.ofChange fnExactRecordOkSpec)

/-- ITS FALSE NEIGHBOUR: 'it returns false'. Refute it at one input. -/
def fnExactRecordOkWrong : ChangeSpec := { name := "fnExactRecordOk", fn := fun _ => fun
  | [d] => { results := [.lit (.bool false)], args := [d] }
  | _ => none }
def FnExactRecordOkWrongFalsely : Prop := fnExactRecordOkRow.holds Try.pinned (OpenSpec.ofChange fnExactRecordOkWrong)

/-- 'laws.FnExactStoreNew': WHATEVER THE INPUT: true; the input reads as it did. -/
def fnExactStoreNewSpec : ChangeSpec := { name := "fnExactStoreNew", fn := fun _ => fun
  | [] => { results := [.lit (.bool true)], args := [] }
  | _ => none }
def fnExactStoreNewRow : OpenClaim := { program := "ytpmahbmokfaflaa", sum := "bbe59642981b56b54d5e18fb8cdddb6c9db8699ec64a19de6917458586071c61", func := "loop.example/g00327/laws.FnExactStoreNew", spec := "fnExactStoreNew", inPlace := ["internal/abi.NoEscape", "internal/bytealg.MakeNoZero"], apart := false }
def FnExactStoreNewSaid : Prop := fnExactStoreNewRow.holds Try.pinned (OpenSpec.ofChange fnExactStoreNewSpec)

/-- ITS FALSE NEIGHBOUR: 'it returns false'. Refute it at one input. -/
def fnExactStoreNewWrong : ChangeSpec := { name := "fnExactStoreNew", fn := fun _ => fun
  | [] => { results := [.lit (.bool false)], args := [] }
  | _ => none }
def FnExactStoreNewWrongFalsely : Prop := fnExactStoreNewRow.holds Try.pinned (OpenSpec.ofChange fnExactStoreNewWrong)

/-- 'laws.FnExactTidied': WHATEVER THE INPUT: true; the input reads as it did. -/
def fnExactTidiedSpec : ChangeSpec := { name := "fnExactTidied", fn := fun _ => fun
  | [d1, d2] => { results := [.lit (.bool true)], args := [d1, d2] }
  | _ => none }
def fnExactTidiedRow : OpenClaim := { program := "ytpmahbmokfaflaa", sum := "bbe59642981b56b54d5e18fb8cdddb6c9db8699ec64a19de6917458586071c61", func := "loop.example/g00327/laws.FnExactTidied", spec := "fnExactTidied", unfollowed := true, recurses := true, apart := false }
def FnExactTidiedSaid : Prop := fnExactTidiedRow.holds Try.pinned (OpenSpec.ofChange fnExactTidiedSpec)

/-- ITS FALSE NEIGHBOUR: 'it returns false'. Refute it at one input. -/
def fnExactTidiedWrong : ChangeSpec := { name := "fnExactTidied", fn := fun _ => fun
  | [d1, d2] => { results := [.lit (.bool false)], args := [d1, d2] }
  | _ => none }
def FnExactTidiedWrongFalsely : Prop := fnExactTidiedRow.holds Try.pinned (OpenSpec.ofChange fnExactTidiedWrong)

/-- 'laws.FnExactBaseText': WHATEVER THE INPUT: true; the input reads as it did. -/
def fnExactBaseTextSpec : ChangeSpec := { name := "fnExactBaseText", fn := fun _ => fun
  | [d] => { results := [.lit (.bool true)], args := [d] }
  | _ => none }
def fnExactBaseTextRow : OpenClaim := { program := "ytpmahbmokfaflaa", sum := "bbe59642981b56b54d5e18fb8cdddb6c9db8699ec64a19de6917458586071c61", func := "loop.example/g00327/laws.FnExactBaseText", spec := "fnExactBaseText", unfollowed := true, recurses := true, apart := false }
def FnExactBaseTextSaid : Prop := fnExactBaseTextRow.holds Try.pinned (OpenSpec.ofChange fnExactBaseTextSpec)

/-- ITS FALSE NEIGHBOUR: 'it returns false'. Refute it at one input. -/
def fnExactBaseTextWrong : ChangeSpec := { name := "fnExactBaseText", fn := fun _ => fun
  | [d] => { results := [.lit (.bool false)], args := [d] }
  | _ => none }
def FnExactBaseTextWrongFalsely : Prop := fnExactBaseTextRow.holds Try.pinned (OpenSpec.ofChange fnExactBaseTextWrong)

/-- 'laws.FnSeen': WHATEVER THE INPUT: true; the input reads as it did. -/
def fnSeenSpec : ChangeSpec := { name := "fnSeen", fn := fun _ => fun
  | [d] => { results := [.lit (.bool true)], args := [d] }
  | _ => none }
def fnSeenRow : OpenClaim := { program := "ytpmahbmokfaflaa", sum := "bbe59642981b56b54d5e18fb8cdddb6c9db8699ec64a19de6917458586071c61", func := "loop.example/g00327/laws.FnSeen", spec := "fnSeen", inPlace := ["slices.overlaps[loop.example/g00327/impl.Version]"], unfollowed := true, recurses := true, apart := false }
def FnSeenSaid : Prop := fnSeenRow.holds Try.pinned (OpenSpec.ofChange fnSeenSpec)

/-- ITS FALSE NEIGHBOUR: 'it returns false'. Refute it at one input. -/
def fnSeenWrong : ChangeSpec := { name := "fnSeen", fn := fun _ => fun
  | [d] => { results := [.lit (.bool false)], args := [d] }
  | _ => none }
def FnSeenWrongFalsely : Prop := fnSeenRow.holds Try.pinned (OpenSpec.ofChange fnSeenWrong)

/-- 'laws.FnExactLeave': WHATEVER THE INPUT: true; the input reads as it did. -/
def fnExactLeaveSpec : ChangeSpec := { name := "fnExactLeave", fn := fun _ => fun
  | [d1, d2] => { results := [.lit (.bool true)], args := [d1, d2] }
  | _ => none }
def fnExactLeaveRow : OpenClaim := { program := "ytpmahbmokfaflaa", sum := "bbe59642981b56b54d5e18fb8cdddb6c9db8699ec64a19de6917458586071c61", func := "loop.example/g00327/laws.FnExactLeave", spec := "fnExactLeave", unfollowed := true, recurses := true, apart := false }
def FnExactLeaveSaid : Prop := fnExactLeaveRow.holds Try.pinned (OpenSpec.ofChange fnExactLeaveSpec)

/-- ITS FALSE NEIGHBOUR: 'it returns false'. Refute it at one input. -/
def fnExactLeaveWrong : ChangeSpec := { name := "fnExactLeave", fn := fun _ => fun
  | [d1, d2] => { results := [.lit (.bool false)], args := [d1, d2] }
  | _ => none }
def FnExactLeaveWrongFalsely : Prop := fnExactLeaveRow.holds Try.pinned (OpenSpec.ofChange fnExactLeaveWrong)

/-- 'laws.FnExactReadBase': WHATEVER THE INPUT: true; the input reads as it did. -/
def fnExactReadBaseSpec : ChangeSpec := { name := "fnExactReadBase", fn := fun _ => fun
  | [d1, d2] => { results := [.lit (.bool true)], args := [d1, d2] }
  | _ => none }
def fnExactReadBaseRow : OpenClaim := { program := "ytpmahbmokfaflaa", sum := "bbe59642981b56b54d5e18fb8cdddb6c9db8699ec64a19de6917458586071c61", func := "loop.example/g00327/laws.FnExactReadBase", spec := "fnExactReadBase", unfollowed := true, recurses := true, apart := false }
def FnExactReadBaseSaid : Prop := fnExactReadBaseRow.holds Try.pinned (OpenSpec.ofChange fnExactReadBaseSpec)

/-- ITS FALSE NEIGHBOUR: 'it returns false'. Refute it at one input. -/
def fnExactReadBaseWrong : ChangeSpec := { name := "fnExactReadBase", fn := fun _ => fun
  | [d1, d2] => { results := [.lit (.bool false)], args := [d1, d2] }
  | _ => none }
def FnExactReadBaseWrongFalsely : Prop := fnExactReadBaseRow.holds Try.pinned (OpenSpec.ofChange fnExactReadBaseWrong)

/-- 'laws.FnExactGetKey': WHATEVER THE INPUT: true; the input reads as it did. -/
def fnExactGetKeySpec : ChangeSpec := { name := "fnExactGetKey", fn := fun _ => fun
  | [d1, d2, d3] => { results := [.lit (.bool true)], args := [d1, d2, d3] }
  | _ => none }
def fnExactGetKeyRow : OpenClaim := { program := "ytpmahbmokfaflaa", sum := "bbe59642981b56b54d5e18fb8cdddb6c9db8699ec64a19de6917458586071c61", func := "loop.example/g00327/laws.FnExactGetKey", spec := "fnExactGetKey", unfollowed := true, recurses := true, apart := false }
def FnExactGetKeySaid : Prop := fnExactGetKeyRow.holds Try.pinned (OpenSpec.ofChange fnExactGetKeySpec)

/-- ITS FALSE NEIGHBOUR: 'it returns false'. Refute it at one input. -/
def fnExactGetKeyWrong : ChangeSpec := { name := "fnExactGetKey", fn := fun _ => fun
  | [d1, d2, d3] => { results := [.lit (.bool false)], args := [d1, d2, d3] }
  | _ => none }
def FnExactGetKeyWrongFalsely : Prop := fnExactGetKeyRow.holds Try.pinned (OpenSpec.ofChange fnExactGetKeyWrong)

/- THE SECOND FORM. 'bulk': how many values and letters a reading holds, each counted each time it is reached (what is shared counts as often as it is met; a slice's spare places count too). A statement '..UptoSaid' is the law's where the arguments, and the package variables that the reading takes, are together of bulk at most 1048576: NARROWER than '..Said'. Prove '..Said' where nothing that the law and all that it calls make is longer than what came in: it says more and counts as full. Else prove '..UptoSaid'. A law counts once. -/
mutual
def uptoBulk {H : Type} : DataW H → Nat
  | .lit (.string bytes) => bytes.length + 1
  | .lit _ => 1
  | .nil => 1
  | .ptr d => uptoBulk d + 1
  | .slice elems spare => uptoBulkAll elems + uptoBulkAll spare + 1
  | .agg parts => uptoBulkAll parts + 1
  | .iface _ d => uptoBulk d + 1
  | .map entries => uptoBulkEntries entries + 1
  | .held _ => 1
def uptoBulkAll {H : Type} : List (DataW H) → Nat
  | [] => 0
  | d :: r => uptoBulk d + uptoBulkAll r
def uptoBulkEntries {H : Type} : List (Lit × DataW H) → Nat
  | [] => 0
  | x :: r => uptoBulkEntry x + uptoBulkEntries r
def uptoBulkEntry {H : Type} : Lit × DataW H → Nat
  | (.string bytes, d) => bytes.length + uptoBulk d + 1
  | (_, d) => uptoBulk d + 1
 end
def uptoSmall : (H : Type) → List (DataW H) → Bool := fun _ ds => decide (uptoBulkAll ds ≤ 1048576)
def OpenSpec.upto (s : _root_.Go.ChangeSpec) : _root_.Go.OpenSpec := { _root_.Go.OpenSpec.ofChange s with cond := some uptoSmall }

/-- 'laws.FnExactInDoubt', WHERE WHAT IT READS IS OF BULK AT MOST 1048576: true; the input reads as it did. -/
def fnExactInDoubtUptoRow : OpenClaim := { program := "ytpmahbmokfaflaa", sum := "bbe59642981b56b54d5e18fb8cdddb6c9db8699ec64a19de6917458586071c61", func := "loop.example/g00327/laws.FnExactInDoubt", spec := "fnExactInDoubt", apart := false, narrowed := true }
def FnExactInDoubtUptoSaid : Prop := fnExactInDoubtUptoRow.holds Try.pinned (OpenSpec.upto fnExactInDoubtSpec)

/-- 'laws.FnExactEngineOk', WHERE WHAT IT READS IS OF BULK AT MOST 1048576: true; the input reads as it did. -/
def fnExactEngineOkUptoRow : OpenClaim := { program := "ytpmahbmokfaflaa", sum := "bbe59642981b56b54d5e18fb8cdddb6c9db8699ec64a19de6917458586071c61", func := "loop.example/g00327/laws.FnExactEngineOk", spec := "fnExactEngineOk", unfollowed := true, recurses := true, apart := false, narrowed := true }
def FnExactEngineOkUptoSaid : Prop := fnExactEngineOkUptoRow.holds Try.pinned (OpenSpec.upto fnExactEngineOkSpec)

/-- 'laws.FnOwn', WHERE WHAT IT READS IS OF BULK AT MOST 1048576: true; the input reads as it did. -/
def fnOwnUptoRow : OpenClaim := { program := "ytpmahbmokfaflaa", sum := "bbe59642981b56b54d5e18fb8cdddb6c9db8699ec64a19de6917458586071c61", func := "loop.example/g00327/laws.FnOwn", spec := "fnOwn", unfollowed := true, recurses := true, apart := false, narrowed := true }
def FnOwnUptoSaid : Prop := fnOwnUptoRow.holds Try.pinned (OpenSpec.upto fnOwnSpec)

/-- 'laws.FnExactRecordOk', WHERE WHAT IT READS IS OF BULK AT MOST 1048576: true; the input reads as it did. -/
def fnExactRecordOkUptoRow : OpenClaim := { program := "ytpmahbmokfaflaa", sum := "bbe59642981b56b54d5e18fb8cdddb6c9db8699ec64a19de6917458586071c61", func := "loop.example/g00327/laws.FnExactRecordOk", spec := "fnExactRecordOk", unfollowed := true, recurses := true, apart := false, narrowed := true }
def FnExactRecordOkUptoSaid : Prop := fnExactRecordOkUptoRow.holds Try.pinned (OpenSpec.upto fnExactRecordOkSpec)

/-- 'laws.FnExactStoreNew', WHERE WHAT IT READS IS OF BULK AT MOST 1048576: true; the input reads as it did. -/
def fnExactStoreNewUptoRow : OpenClaim := { program := "ytpmahbmokfaflaa", sum := "bbe59642981b56b54d5e18fb8cdddb6c9db8699ec64a19de6917458586071c61", func := "loop.example/g00327/laws.FnExactStoreNew", spec := "fnExactStoreNew", inPlace := ["internal/abi.NoEscape", "internal/bytealg.MakeNoZero"], apart := false, narrowed := true }
def FnExactStoreNewUptoSaid : Prop := fnExactStoreNewUptoRow.holds Try.pinned (OpenSpec.upto fnExactStoreNewSpec)

/-- 'laws.FnExactTidied', WHERE WHAT IT READS IS OF BULK AT MOST 1048576: true; the input reads as it did. -/
def fnExactTidiedUptoRow : OpenClaim := { program := "ytpmahbmokfaflaa", sum := "bbe59642981b56b54d5e18fb8cdddb6c9db8699ec64a19de6917458586071c61", func := "loop.example/g00327/laws.FnExactTidied", spec := "fnExactTidied", unfollowed := true, recurses := true, apart := false, narrowed := true }
def FnExactTidiedUptoSaid : Prop := fnExactTidiedUptoRow.holds Try.pinned (OpenSpec.upto fnExactTidiedSpec)

/-- 'laws.FnExactBaseText', WHERE WHAT IT READS IS OF BULK AT MOST 1048576: true; the input reads as it did. -/
def fnExactBaseTextUptoRow : OpenClaim := { program := "ytpmahbmokfaflaa", sum := "bbe59642981b56b54d5e18fb8cdddb6c9db8699ec64a19de6917458586071c61", func := "loop.example/g00327/laws.FnExactBaseText", spec := "fnExactBaseText", unfollowed := true, recurses := true, apart := false, narrowed := true }
def FnExactBaseTextUptoSaid : Prop := fnExactBaseTextUptoRow.holds Try.pinned (OpenSpec.upto fnExactBaseTextSpec)

/-- 'laws.FnSeen', WHERE WHAT IT READS IS OF BULK AT MOST 1048576: true; the input reads as it did. -/
def fnSeenUptoRow : OpenClaim := { program := "ytpmahbmokfaflaa", sum := "bbe59642981b56b54d5e18fb8cdddb6c9db8699ec64a19de6917458586071c61", func := "loop.example/g00327/laws.FnSeen", spec := "fnSeen", inPlace := ["slices.overlaps[loop.example/g00327/impl.Version]"], unfollowed := true, recurses := true, apart := false, narrowed := true }
def FnSeenUptoSaid : Prop := fnSeenUptoRow.holds Try.pinned (OpenSpec.upto fnSeenSpec)

/-- 'laws.FnExactLeave', WHERE WHAT IT READS IS OF BULK AT MOST 1048576: true; the input reads as it did. -/
def fnExactLeaveUptoRow : OpenClaim := { program := "ytpmahbmokfaflaa", sum := "bbe59642981b56b54d5e18fb8cdddb6c9db8699ec64a19de6917458586071c61", func := "loop.example/g00327/laws.FnExactLeave", spec := "fnExactLeave", unfollowed := true, recurses := true, apart := false, narrowed := true }
def FnExactLeaveUptoSaid : Prop := fnExactLeaveUptoRow.holds Try.pinned (OpenSpec.upto fnExactLeaveSpec)

/-- 'laws.FnExactReadBase', WHERE WHAT IT READS IS OF BULK AT MOST 1048576: true; the input reads as it did. -/
def fnExactReadBaseUptoRow : OpenClaim := { program := "ytpmahbmokfaflaa", sum := "bbe59642981b56b54d5e18fb8cdddb6c9db8699ec64a19de6917458586071c61", func := "loop.example/g00327/laws.FnExactReadBase", spec := "fnExactReadBase", unfollowed := true, recurses := true, apart := false, narrowed := true }
def FnExactReadBaseUptoSaid : Prop := fnExactReadBaseUptoRow.holds Try.pinned (OpenSpec.upto fnExactReadBaseSpec)

/-- 'laws.FnExactGetKey', WHERE WHAT IT READS IS OF BULK AT MOST 1048576: true; the input reads as it did. -/
def fnExactGetKeyUptoRow : OpenClaim := { program := "ytpmahbmokfaflaa", sum := "bbe59642981b56b54d5e18fb8cdddb6c9db8699ec64a19de6917458586071c61", func := "loop.example/g00327/laws.FnExactGetKey", spec := "fnExactGetKey", unfollowed := true, recurses := true, apart := false, narrowed := true }
def FnExactGetKeyUptoSaid : Prop := fnExactGetKeyUptoRow.holds Try.pinned (OpenSpec.upto fnExactGetKeySpec)

end Rows
end Go.Proofs.Ytpmahbmokfaflaa
