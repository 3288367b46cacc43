/-
  No cell of these rows narrows 'for every input' (looked for: loops, veiled, ifaces, maps, wideKeys, modest, calm, conditions, laid).
  DERIVED. THE GIVEN ROWS OF THIS SEAT. 6 by the template 'for every input the law returns true; each argument reads behind the call as it read before'; 0 by the template 'total and deterministic' (their statements: YtncglgkpgbhejaaTotals.lean).
  GIVEN WITH THE SEED: the statements are not yours to turn. If you find one false, say at which input.
  Laid BY PROGRAM, IN A SANDBOX (cutbox-rows.mjs): the forced cells as the released guide's own fill.sh prints them over the translation a361a989d9fd0756… (all of the seat's roots in one cut). By AI agents, Wed Nov 11 2026. No macro, syntax, notation, axiom, sorry.
-/
import Derived.Test.YtncglgkpgbhejaaChecked
import GoSem.Claim
import GoSem.ClaimJoined
import GoSem.ClaimMapViews
import Derived.JoinedTies
import Derived.KernelRfl
namespace Go.Proofs.Ytncglgkpgbhejaa
/- THE CELL 'sum', in the pinned program and in every row, IS THE sha256 OF THE DUMP (.gsa) THAT YtncglgkpgbhejaaProg.lean LOADS. Nothing in Lean hashes anything: it is a label: what it is worth is what the hold of that sum in a sandbox is worth. -/
noncomputable def Try.pinned : Pinned := { name := "ytncglgkpgbhejaa", sum := "a361a989d9fd07569db2c6f54cccb0cf50245796a79ea7265465de4a219fe3a6", checked := Try.checked }
namespace Rows
def none {H : Type} : Left H := { results := [], args := [] }

/-- 'laws.FnExactTreeLength': WHATEVER THE INPUT: true; the input reads as it did. -/
def fnExactTreeLengthSpec : ChangeSpec := { name := "fnExactTreeLength", fn := fun _ => fun
  | [d] => { results := [.lit (.bool true)], args := [d] }
  | _ => none }
def fnExactTreeLengthRow : OpenClaim := { program := "ytncglgkpgbhejaa", sum := "a361a989d9fd07569db2c6f54cccb0cf50245796a79ea7265465de4a219fe3a6", func := "loop.example/countedchances/laws.FnExactTreeLength", spec := "fnExactTreeLength", apart := false }
def FnExactTreeLengthSaid : Prop := fnExactTreeLengthRow.holds Try.pinned (OpenSpec.ofChange fnExactTreeLengthSpec)

/-- ITS FALSE NEIGHBOUR: 'it returns false'. Refute it at one input. -/
def fnExactTreeLengthWrong : ChangeSpec := { name := "fnExactTreeLength", fn := fun _ => fun
  | [d] => { results := [.lit (.bool false)], args := [d] }
  | _ => none }
def FnExactTreeLengthWrongFalsely : Prop := fnExactTreeLengthRow.holds Try.pinned (OpenSpec.ofChange fnExactTreeLengthWrong)

/-- 'laws.FnExactGroupsAt': WHATEVER THE INPUT: true; the input reads as it did. -/
def fnExactGroupsAtSpec : ChangeSpec := { name := "fnExactGroupsAt", fn := fun _ => fun
  | [d1, d2] => { results := [.lit (.bool true)], args := [d1, d2] }
  | _ => none }
def fnExactGroupsAtRow : OpenClaim := { program := "ytncglgkpgbhejaa", sum := "a361a989d9fd07569db2c6f54cccb0cf50245796a79ea7265465de4a219fe3a6", func := "loop.example/countedchances/laws.FnExactGroupsAt", spec := "fnExactGroupsAt", apart := false }
def FnExactGroupsAtSaid : Prop := fnExactGroupsAtRow.holds Try.pinned (OpenSpec.ofChange fnExactGroupsAtSpec)

/-- ITS FALSE NEIGHBOUR: 'it returns false'. Refute it at one input. -/
def fnExactGroupsAtWrong : ChangeSpec := { name := "fnExactGroupsAt", fn := fun _ => fun
  | [d1, d2] => { results := [.lit (.bool false)], args := [d1, d2] }
  | _ => none }
def FnExactGroupsAtWrongFalsely : Prop := fnExactGroupsAtRow.holds Try.pinned (OpenSpec.ofChange fnExactGroupsAtWrong)

/-- 'laws.FnExactSmallSteps': WHATEVER THE INPUT: true; the input reads as it did. -/
def fnExactSmallStepsSpec : ChangeSpec := { name := "fnExactSmallSteps", fn := fun _ => fun
  | [d] => { results := [.lit (.bool true)], args := [d] }
  | _ => none }
def fnExactSmallStepsRow : OpenClaim := { program := "ytncglgkpgbhejaa", sum := "a361a989d9fd07569db2c6f54cccb0cf50245796a79ea7265465de4a219fe3a6", func := "loop.example/countedchances/laws.FnExactSmallSteps", spec := "fnExactSmallSteps", apart := false }
def FnExactSmallStepsSaid : Prop := fnExactSmallStepsRow.holds Try.pinned (OpenSpec.ofChange fnExactSmallStepsSpec)

/-- ITS FALSE NEIGHBOUR: 'it returns false'. Refute it at one input. -/
def fnExactSmallStepsWrong : ChangeSpec := { name := "fnExactSmallSteps", fn := fun _ => fun
  | [d] => { results := [.lit (.bool false)], args := [d] }
  | _ => none }
def FnExactSmallStepsWrongFalsely : Prop := fnExactSmallStepsRow.holds Try.pinned (OpenSpec.ofChange fnExactSmallStepsWrong)

/-- 'laws.FnTreeLength': WHATEVER THE INPUT: true; the input reads as it did. -/
def fnTreeLengthSpec : ChangeSpec := { name := "fnTreeLength", fn := fun _ => fun
  | [d] => { results := [.lit (.bool true)], args := [d] }
  | _ => none }
def fnTreeLengthRow : OpenClaim := { program := "ytncglgkpgbhejaa", sum := "a361a989d9fd07569db2c6f54cccb0cf50245796a79ea7265465de4a219fe3a6", func := "loop.example/countedchances/laws.FnTreeLength", spec := "fnTreeLength", apart := false }
def FnTreeLengthSaid : Prop := fnTreeLengthRow.holds Try.pinned (OpenSpec.ofChange fnTreeLengthSpec)

/-- ITS FALSE NEIGHBOUR: 'it returns false'. Refute it at one input. -/
def fnTreeLengthWrong : ChangeSpec := { name := "fnTreeLength", fn := fun _ => fun
  | [d] => { results := [.lit (.bool false)], args := [d] }
  | _ => none }
def FnTreeLengthWrongFalsely : Prop := fnTreeLengthRow.holds Try.pinned (OpenSpec.ofChange fnTreeLengthWrong)

/-- 'laws.FnGroupsAt': WHATEVER THE INPUT: true; the input reads as it did. -/
def fnGroupsAtSpec : ChangeSpec := { name := "fnGroupsAt", fn := fun _ => fun
  | [d] => { results := [.lit (.bool true)], args := [d] }
  | _ => none }
def fnGroupsAtRow : OpenClaim := { program := "ytncglgkpgbhejaa", sum := "a361a989d9fd07569db2c6f54cccb0cf50245796a79ea7265465de4a219fe3a6", func := "loop.example/countedchances/laws.FnGroupsAt", spec := "fnGroupsAt", apart := false }
def FnGroupsAtSaid : Prop := fnGroupsAtRow.holds Try.pinned (OpenSpec.ofChange fnGroupsAtSpec)

/-- ITS FALSE NEIGHBOUR: 'it returns false'. Refute it at one input. -/
def fnGroupsAtWrong : ChangeSpec := { name := "fnGroupsAt", fn := fun _ => fun
  | [d] => { results := [.lit (.bool false)], args := [d] }
  | _ => none }
def FnGroupsAtWrongFalsely : Prop := fnGroupsAtRow.holds Try.pinned (OpenSpec.ofChange fnGroupsAtWrong)

/-- 'laws.FnExactCentersOf': WHATEVER THE INPUT: true; the input reads as it did. -/
def fnExactCentersOfSpec : ChangeSpec := { name := "fnExactCentersOf", fn := fun _ => fun
  | [d1, d2] => { results := [.lit (.bool true)], args := [d1, d2] }
  | _ => none }
def fnExactCentersOfRow : OpenClaim := { program := "ytncglgkpgbhejaa", sum := "a361a989d9fd07569db2c6f54cccb0cf50245796a79ea7265465de4a219fe3a6", func := "loop.example/countedchances/laws.FnExactCentersOf", spec := "fnExactCentersOf", apart := false }
def FnExactCentersOfSaid : Prop := fnExactCentersOfRow.holds Try.pinned (OpenSpec.ofChange fnExactCentersOfSpec)

/-- ITS FALSE NEIGHBOUR: 'it returns false'. Refute it at one input. -/
def fnExactCentersOfWrong : ChangeSpec := { name := "fnExactCentersOf", fn := fun _ => fun
  | [d1, d2] => { results := [.lit (.bool false)], args := [d1, d2] }
  | _ => none }
def FnExactCentersOfWrongFalsely : Prop := fnExactCentersOfRow.holds Try.pinned (OpenSpec.ofChange fnExactCentersOfWrong)

/- THE SECOND FORM. 'bulk': how many values and letters a reading holds, each counted each time it is reached (what is shared counts as often as it is met; a slice's spare places count too). A statement '..UptoSaid' is the law's where the arguments, and the package variables that the reading takes, are together of bulk at most 1048576: NARROWER than '..Said'. Prove '..Said' where nothing that the law and all that it calls make is longer than what came in: it says more and counts as full. Else prove '..UptoSaid'. A law counts once. -/
mutual
def uptoBulk {H : Type} : DataW H → Nat
  | .lit (.string bytes) => bytes.length + 1
  | .lit _ => 1
  | .nil => 1
  | .ptr d => uptoBulk d + 1
  | .slice elems spare => uptoBulkAll elems + uptoBulkAll spare + 1
  | .agg parts => uptoBulkAll parts + 1
  | .iface _ d => uptoBulk d + 1
  | .map entries => uptoBulkEntries entries + 1
  | .held _ => 1
def uptoBulkAll {H : Type} : List (DataW H) → Nat
  | [] => 0
  | d :: r => uptoBulk d + uptoBulkAll r
def uptoBulkEntries {H : Type} : List (Lit × DataW H) → Nat
  | [] => 0
  | x :: r => uptoBulkEntry x + uptoBulkEntries r
def uptoBulkEntry {H : Type} : Lit × DataW H → Nat
  | (.string bytes, d) => bytes.length + uptoBulk d + 1
  | (_, d) => uptoBulk d + 1
 end
def uptoSmall : (H : Type) → List (DataW H) → Bool := fun _ ds => decide (uptoBulkAll ds ≤ 1048576)
def OpenSpec.upto (s : _root_.Go.ChangeSpec) : _root_.Go.OpenSpec := { _root_.Go.OpenSpec.ofChange s with cond := some uptoSmall }

/-- 'laws.FnExactTreeLength', WHERE WHAT IT READS IS OF BULK AT MOST 1048576: true; the input reads as it did. -/
def fnExactTreeLengthUptoRow : OpenClaim := { program := "ytncglgkpgbhejaa", sum := "a361a989d9fd07569db2c6f54cccb0cf50245796a79ea7265465de4a219fe3a6", func := "loop.example/countedchances/laws.FnExactTreeLength", spec := "fnExactTreeLength", apart := false, narrowed := true }
def FnExactTreeLengthUptoSaid : Prop := fnExactTreeLengthUptoRow.holds Try.pinned (OpenSpec.upto fnExactTreeLengthSpec)

/-- 'laws.FnExactGroupsAt', WHERE WHAT IT READS IS OF BULK AT MOST 1048576: true; the input reads as it did. -/
def fnExactGroupsAtUptoRow : OpenClaim := { program := "ytncglgkpgbhejaa", sum := "a361a989d9fd07569db2c6f54cccb0cf50245796a79ea7265465de4a219fe3a6", func := "loop.example/countedchances/laws.FnExactGroupsAt", spec := "fnExactGroupsAt", apart := false, narrowed := true }
def FnExactGroupsAtUptoSaid : Prop := fnExactGroupsAtUptoRow.holds Try.pinned (OpenSpec.upto fnExactGroupsAtSpec)

/-- 'laws.FnExactSmallSteps', WHERE WHAT IT READS IS OF BULK AT MOST 1048576: true; the input reads as it did. -/
def fnExactSmallStepsUptoRow : OpenClaim := { program := "ytncglgkpgbhejaa", sum := "a361a989d9fd07569db2c6f54cccb0cf50245796a79ea7265465de4a219fe3a6", func := "loop.example/countedchances/laws.FnExactSmallSteps", spec := "fnExactSmallSteps", apart := false, narrowed := true }
def FnExactSmallStepsUptoSaid : Prop := fnExactSmallStepsUptoRow.holds Try.pinned (OpenSpec.upto fnExactSmallStepsSpec)

/-- 'laws.FnTreeLength', WHERE WHAT IT READS IS OF BULK AT MOST 1048576: true; the input reads as it did. -/
def fnTreeLengthUptoRow : OpenClaim := { program := "ytncglgkpgbhejaa", sum := "a361a989d9fd07569db2c6f54cccb0cf50245796a79ea7265465de4a219fe3a6", func := "loop.example/countedchances/laws.FnTreeLength", spec := "fnTreeLength", apart := false, narrowed := true }
def FnTreeLengthUptoSaid : Prop := fnTreeLengthUptoRow.holds Try.pinned (OpenSpec.upto fnTreeLengthSpec)

/-- 'laws.FnGroupsAt', WHERE WHAT IT READS IS OF BULK AT MOST 1048576: true; the input reads as it did. -/
def fnGroupsAtUptoRow : OpenClaim := { program := "ytncglgkpgbhejaa", sum := "a361a989d9fd07569db2c6f54cccb0cf50245796a79ea7265465de4a219fe3a6", func := "loop.example/countedchances/laws.FnGroupsAt", spec := "fnGroupsAt", apart := false, narrowed := true }
def FnGroupsAtUptoSaid : Prop := fnGroupsAtUptoRow.holds Try.pinned (OpenSpec.upto fnGroupsAtSpec)

/-- 'laws.FnExactCentersOf', WHERE WHAT IT READS IS OF BULK AT MOST 1048576: true; the input reads as it did. -/
def fnExactCentersOfUptoRow : OpenClaim := { program := "ytncglgkpgbhejaa", sum := "a361a989d9fd07569db2c6f54cccb0cf50245796a79ea7265465de4a219fe3a6", func := "loop.example/countedchances/laws.FnExactCentersOf", spec := "fnExactCentersOf", apart := false, narrowed := true }
def FnExactCentersOfUptoSaid : Prop := fnExactCentersOfUptoRow.holds Try.pinned (OpenSpec.upto fnExactCentersOfSpec)

end Rows
end Go.Proofs.Ytncglgkpgbhejaa
