/-
  No cell of these rows narrows 'for every input' (looked for: loops, veiled, ifaces, maps, wideKeys, modest, calm, conditions, laid).
  DERIVED. THE GIVEN ROWS OF THIS SEAT. 3 by the template 'for every input the law returns true; each argument reads behind the call as it read before'; 0 by the template 'total and deterministic' (their statements: YtbaniaofomgceaaTotals.lean).
  GIVEN WITH THE SEED: the statements are not yours to turn. If you find one false, say at which input.
  Laid BY PROGRAM, IN A SANDBOX (cutbox-rows.mjs): the forced cells as the released guide's own fill.sh prints them over the translation 7dd724f7aaea8215… (all of the seat's roots in one cut). By AI agents, Wed Nov 11 2026. No macro, syntax, notation, axiom, sorry.
-/
import Derived.Test.YtbaniaofomgceaaChecked
import GoSem.Claim
import GoSem.ClaimJoined
import GoSem.ClaimMapViews
import Derived.JoinedTies
import Derived.KernelRfl
namespace Go.Proofs.Ytbaniaofomgceaa
/- THE CELL 'sum', in the pinned program and in every row, IS THE sha256 OF THE DUMP (.gsa) THAT YtbaniaofomgceaaProg.lean LOADS. Nothing in Lean hashes anything: it is a label: what it is worth is what the hold of that sum in a sandbox is worth. -/
noncomputable def Try.pinned : Pinned := { name := "ytbaniaofomgceaa", sum := "7dd724f7aaea8215bb874f7d4322ece2e4ff2263be3e8f737b907e805183fd05", checked := Try.checked }
namespace Rows
def none {H : Type} : Left H := { results := [], args := [] }

/-- 'laws.FnExactGivenUp': WHATEVER THE INPUT: true; the input reads as it did. -/
def fnExactGivenUpSpec : ChangeSpec := { name := "fnExactGivenUp", fn := fun _ => fun
  | [d1, d2] => { results := [.lit (.bool true)], args := [d1, d2] }
  | _ => none }
def fnExactGivenUpRow : OpenClaim := { program := "ytbaniaofomgceaa", sum := "7dd724f7aaea8215bb874f7d4322ece2e4ff2263be3e8f737b907e805183fd05", func := "loop.example/g00327/laws.FnExactGivenUp", spec := "fnExactGivenUp", unfollowed := true, recurses := true, apart := false }
def FnExactGivenUpSaid : Prop := fnExactGivenUpRow.holds Try.pinned (OpenSpec.ofChange fnExactGivenUpSpec)

/-- ITS FALSE NEIGHBOUR: 'it returns false'. Refute it at one input. -/
def fnExactGivenUpWrong : ChangeSpec := { name := "fnExactGivenUp", fn := fun _ => fun
  | [d1, d2] => { results := [.lit (.bool false)], args := [d1, d2] }
  | _ => none }
def FnExactGivenUpWrongFalsely : Prop := fnExactGivenUpRow.holds Try.pinned (OpenSpec.ofChange fnExactGivenUpWrong)

/-- 'laws.FnExactTidied': WHATEVER THE INPUT: true; the input reads as it did. -/
def fnExactTidiedSpec : ChangeSpec := { name := "fnExactTidied", fn := fun _ => fun
  | [d1, d2] => { results := [.lit (.bool true)], args := [d1, d2] }
  | _ => none }
def fnExactTidiedRow : OpenClaim := { program := "ytbaniaofomgceaa", sum := "7dd724f7aaea8215bb874f7d4322ece2e4ff2263be3e8f737b907e805183fd05", func := "loop.example/g00327/laws.FnExactTidied", spec := "fnExactTidied", unfollowed := true, recurses := true, apart := false }
def FnExactTidiedSaid : Prop := fnExactTidiedRow.holds Try.pinned (OpenSpec.ofChange fnExactTidiedSpec)

/-- ITS FALSE NEIGHBOUR: 'it returns false'. Refute it at one input. -/
def fnExactTidiedWrong : ChangeSpec := { name := "fnExactTidied", fn := fun _ => fun
  | [d1, d2] => { results := [.lit (.bool false)], args := [d1, d2] }
  | _ => none }
def FnExactTidiedWrongFalsely : Prop := fnExactTidiedRow.holds Try.pinned (OpenSpec.ofChange fnExactTidiedWrong)

/-- 'laws.FnExactLeave': WHATEVER THE INPUT: true; the input reads as it did. -/
def fnExactLeaveSpec : ChangeSpec := { name := "fnExactLeave", fn := fun _ => fun
  | [d1, d2] => { results := [.lit (.bool true)], args := [d1, d2] }
  | _ => none }
def fnExactLeaveRow : OpenClaim := { program := "ytbaniaofomgceaa", sum := "7dd724f7aaea8215bb874f7d4322ece2e4ff2263be3e8f737b907e805183fd05", func := "loop.example/g00327/laws.FnExactLeave", spec := "fnExactLeave", unfollowed := true, recurses := true, apart := false }
def FnExactLeaveSaid : Prop := fnExactLeaveRow.holds Try.pinned (OpenSpec.ofChange fnExactLeaveSpec)

/-- ITS FALSE NEIGHBOUR: 'it returns false'. Refute it at one input. -/
def fnExactLeaveWrong : ChangeSpec := { name := "fnExactLeave", fn := fun _ => fun
  | [d1, d2] => { results := [.lit (.bool false)], args := [d1, d2] }
  | _ => none }
def FnExactLeaveWrongFalsely : Prop := fnExactLeaveRow.holds Try.pinned (OpenSpec.ofChange fnExactLeaveWrong)

/- THE SECOND FORM. 'bulk': how many values and letters a reading holds, each counted each time it is reached (what is shared counts as often as it is met; a slice's spare places count too). A statement '..UptoSaid' is the law's where the arguments, and the package variables that the reading takes, are together of bulk at most 1048576: NARROWER than '..Said'. Prove '..Said' where nothing that the law and all that it calls make is longer than what came in: it says more and counts as full. Else prove '..UptoSaid'. A law counts once. -/
mutual
def uptoBulk {H : Type} : DataW H → Nat
  | .lit (.string bytes) => bytes.length + 1
  | .lit _ => 1
  | .nil => 1
  | .ptr d => uptoBulk d + 1
  | .slice elems spare => uptoBulkAll elems + uptoBulkAll spare + 1
  | .agg parts => uptoBulkAll parts + 1
  | .iface _ d => uptoBulk d + 1
  | .map entries => uptoBulkEntries entries + 1
  | .held _ => 1
def uptoBulkAll {H : Type} : List (DataW H) → Nat
  | [] => 0
  | d :: r => uptoBulk d + uptoBulkAll r
def uptoBulkEntries {H : Type} : List (Lit × DataW H) → Nat
  | [] => 0
  | x :: r => uptoBulkEntry x + uptoBulkEntries r
def uptoBulkEntry {H : Type} : Lit × DataW H → Nat
  | (.string bytes, d) => bytes.length + uptoBulk d + 1
  | (_, d) => uptoBulk d + 1
 end
def uptoSmall : (H : Type) → List (DataW H) → Bool := fun _ ds => decide (uptoBulkAll ds ≤ 1048576)
def OpenSpec.upto (s : _root_.Go.ChangeSpec) : _root_.Go.OpenSpec := { _root_.Go.OpenSpec.ofChange s with cond := some uptoSmall }

/-- 'laws.FnExactGivenUp', WHERE WHAT IT READS IS OF BULK AT MOST 1048576: true; the input reads as it did. -/
def fnExactGivenUpUptoRow : OpenClaim := { program := "ytbaniaofomgceaa", sum := "7dd724f7aaea8215bb874f7d4322ece2e4ff2263be3e8f737b907e805183fd05", func := "loop.example/g00327/laws.FnExactGivenUp", spec := "fnExactGivenUp", unfollowed := true, recurses := true, apart := false, narrowed := true }
def FnExactGivenUpUptoSaid : Prop := fnExactGivenUpUptoRow.holds Try.pinned (OpenSpec.upto fnExactGivenUpSpec)

/-- 'laws.FnExactTidied', WHERE WHAT IT READS IS OF BULK AT MOST 1048576: true; the input reads as it did. -/
def fnExactTidiedUptoRow : OpenClaim := { program := "ytbaniaofomgceaa", sum := "7dd724f7aaea8215bb874f7d4322ece2e4ff2263be3e8f737b907e805183fd05", func := "loop.example/g00327/laws.FnExactTidied", spec := "fnExactTidied", unfollowed := true, recurses := true, apart := false, narrowed := true }
def FnExactTidiedUptoSaid : Prop := fnExactTidiedUptoRow.holds Try.pinned (OpenSpec.upto fnExactTidiedSpec)

/-- 'laws.FnExactLeave', WHERE WHAT IT READS IS OF BULK AT MOST 1048576: true; the input reads as it did. -/
def fnExactLeaveUptoRow : OpenClaim := { program := "ytbaniaofomgceaa", sum := "7dd724f7aaea8215bb874f7d4322ece2e4ff2263be3e8f737b907e805183fd05", func := "loop.example/g00327/laws.FnExactLeave", spec := "fnExactLeave", unfollowed := true, recurses := true, apart := false, narrowed := true }
def FnExactLeaveUptoSaid : Prop := fnExactLeaveUptoRow.holds Try.pinned (OpenSpec.upto fnExactLeaveSpec)

end Rows
end Go.Proofs.Ytbaniaofomgceaa
