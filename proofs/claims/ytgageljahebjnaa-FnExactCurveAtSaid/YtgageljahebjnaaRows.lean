/-
  No cell of these rows narrows 'for every input' (looked for: loops, veiled, ifaces, maps, wideKeys, modest, calm, conditions, laid).
  DERIVED. THE GIVEN ROWS OF THIS SEAT. 5 by the template 'for every input the law returns true; each argument reads behind the call as it read before'; 0 by the template 'total and deterministic' (their statements: YtgageljahebjnaaTotals.lean).
  GIVEN WITH THE SEED: the statements are not yours to turn. If you find one false, say at which input.
  Laid BY PROGRAM, IN A SANDBOX (cutbox-rows.mjs): the forced cells as the released guide's own fill.sh prints them over the translation a16f3f73f2ac7e70… (all of the seat's roots in one cut). By AI agents, Wed Nov 11 2026. No macro, syntax, notation, axiom, sorry.
-/
import Derived.Test.YtgageljahebjnaaChecked
import GoSem.Claim
import GoSem.ClaimJoined
import GoSem.ClaimMapViews
import Derived.JoinedTies
import Derived.KernelRfl
namespace Go.Proofs.Ytgageljahebjnaa
/- THE CELL 'sum', in the pinned program and in every row, IS THE sha256 OF THE DUMP (.gsa) THAT YtgageljahebjnaaProg.lean LOADS. Nothing in Lean hashes anything: it is a label: what it is worth is what the hold of that sum in a sandbox is worth. -/
noncomputable def Try.pinned : Pinned := { name := "ytgageljahebjnaa", sum := "a16f3f73f2ac7e709e36e8072300546cb52585ff06ad06c692f7aafbad0ae74b", checked := Try.checked }
namespace Rows
def none {H : Type} : Left H := { results := [], args := [] }

/-- 'laws.FnExactCurveAt': WHATEVER THE INPUT: true; the input reads as it did. -/
def fnExactCurveAtSpec : ChangeSpec := { name := "fnExactCurveAt", fn := fun _ => fun
  | [d1, d2, d3] => { results := [.lit (.bool true)], args := [d1, d2, d3] }
  | _ => none }
def fnExactCurveAtRow : OpenClaim := { program := "ytgageljahebjnaa", sum := "a16f3f73f2ac7e709e36e8072300546cb52585ff06ad06c692f7aafbad0ae74b", func := "loop.example/countedchances/laws.FnExactCurveAt", spec := "fnExactCurveAt", unfollowed := true, recurses := true, apart := false }
def FnExactCurveAtSaid : Prop := fnExactCurveAtRow.holds Try.pinned (OpenSpec.ofChange fnExactCurveAtSpec)

/-- ITS FALSE NEIGHBOUR: 'it returns false'. Refute it at one input. -/
def fnExactCurveAtWrong : ChangeSpec := { name := "fnExactCurveAt", fn := fun _ => fun
  | [d1, d2, d3] => { results := [.lit (.bool false)], args := [d1, d2, d3] }
  | _ => none }
def FnExactCurveAtWrongFalsely : Prop := fnExactCurveAtRow.holds Try.pinned (OpenSpec.ofChange fnExactCurveAtWrong)

/-- 'laws.FnExactPiecesTried': WHATEVER THE INPUT: true; the input reads as it did. -/
def fnExactPiecesTriedSpec : ChangeSpec := { name := "fnExactPiecesTried", fn := fun _ => fun
  | [d1, d2] => { results := [.lit (.bool true)], args := [d1, d2] }
  | _ => none }
def fnExactPiecesTriedRow : OpenClaim := { program := "ytgageljahebjnaa", sum := "a16f3f73f2ac7e709e36e8072300546cb52585ff06ad06c692f7aafbad0ae74b", func := "loop.example/countedchances/laws.FnExactPiecesTried", spec := "fnExactPiecesTried", unfollowed := true, recurses := true, apart := false }
def FnExactPiecesTriedSaid : Prop := fnExactPiecesTriedRow.holds Try.pinned (OpenSpec.ofChange fnExactPiecesTriedSpec)

/-- ITS FALSE NEIGHBOUR: 'it returns false'. Refute it at one input. -/
def fnExactPiecesTriedWrong : ChangeSpec := { name := "fnExactPiecesTried", fn := fun _ => fun
  | [d1, d2] => { results := [.lit (.bool false)], args := [d1, d2] }
  | _ => none }
def FnExactPiecesTriedWrongFalsely : Prop := fnExactPiecesTriedRow.holds Try.pinned (OpenSpec.ofChange fnExactPiecesTriedWrong)

/-- 'laws.FnExactTablesWith': WHATEVER THE INPUT: true; the input reads as it did. -/
def fnExactTablesWithSpec : ChangeSpec := { name := "fnExactTablesWith", fn := fun _ => fun
  | [d1, d2] => { results := [.lit (.bool true)], args := [d1, d2] }
  | _ => none }
def fnExactTablesWithRow : OpenClaim := { program := "ytgageljahebjnaa", sum := "a16f3f73f2ac7e709e36e8072300546cb52585ff06ad06c692f7aafbad0ae74b", func := "loop.example/countedchances/laws.FnExactTablesWith", spec := "fnExactTablesWith", unfollowed := true, recurses := true, apart := false }
def FnExactTablesWithSaid : Prop := fnExactTablesWithRow.holds Try.pinned (OpenSpec.ofChange fnExactTablesWithSpec)

/-- ITS FALSE NEIGHBOUR: 'it returns false'. Refute it at one input. -/
def fnExactTablesWithWrong : ChangeSpec := { name := "fnExactTablesWith", fn := fun _ => fun
  | [d1, d2] => { results := [.lit (.bool false)], args := [d1, d2] }
  | _ => none }
def FnExactTablesWithWrongFalsely : Prop := fnExactTablesWithRow.holds Try.pinned (OpenSpec.ofChange fnExactTablesWithWrong)

/-- 'laws.FnExactPricedPieces': WHATEVER THE INPUT: true; the input reads as it did. -/
def fnExactPricedPiecesSpec : ChangeSpec := { name := "fnExactPricedPieces", fn := fun _ => fun
  | [d1, d2] => { results := [.lit (.bool true)], args := [d1, d2] }
  | _ => none }
def fnExactPricedPiecesRow : OpenClaim := { program := "ytgageljahebjnaa", sum := "a16f3f73f2ac7e709e36e8072300546cb52585ff06ad06c692f7aafbad0ae74b", func := "loop.example/countedchances/laws.FnExactPricedPieces", spec := "fnExactPricedPieces", unfollowed := true, recurses := true, apart := false }
def FnExactPricedPiecesSaid : Prop := fnExactPricedPiecesRow.holds Try.pinned (OpenSpec.ofChange fnExactPricedPiecesSpec)

/-- ITS FALSE NEIGHBOUR: 'it returns false'. Refute it at one input. -/
def fnExactPricedPiecesWrong : ChangeSpec := { name := "fnExactPricedPieces", fn := fun _ => fun
  | [d1, d2] => { results := [.lit (.bool false)], args := [d1, d2] }
  | _ => none }
def FnExactPricedPiecesWrongFalsely : Prop := fnExactPricedPiecesRow.holds Try.pinned (OpenSpec.ofChange fnExactPricedPiecesWrong)

/-- 'laws.FnExactPiecesMiss': WHATEVER THE INPUT: true; the input reads as it did. -/
def fnExactPiecesMissSpec : ChangeSpec := { name := "fnExactPiecesMiss", fn := fun _ => fun
  | [d1, d2] => { results := [.lit (.bool true)], args := [d1, d2] }
  | _ => none }
def fnExactPiecesMissRow : OpenClaim := { program := "ytgageljahebjnaa", sum := "a16f3f73f2ac7e709e36e8072300546cb52585ff06ad06c692f7aafbad0ae74b", func := "loop.example/countedchances/laws.FnExactPiecesMiss", spec := "fnExactPiecesMiss", unfollowed := true, recurses := true, apart := false }
def FnExactPiecesMissSaid : Prop := fnExactPiecesMissRow.holds Try.pinned (OpenSpec.ofChange fnExactPiecesMissSpec)

/-- ITS FALSE NEIGHBOUR: 'it returns false'. Refute it at one input. -/
def fnExactPiecesMissWrong : ChangeSpec := { name := "fnExactPiecesMiss", fn := fun _ => fun
  | [d1, d2] => { results := [.lit (.bool false)], args := [d1, d2] }
  | _ => none }
def FnExactPiecesMissWrongFalsely : Prop := fnExactPiecesMissRow.holds Try.pinned (OpenSpec.ofChange fnExactPiecesMissWrong)

/- THE SECOND FORM. 'bulk': how many values and letters a reading holds, each counted each time it is reached (what is shared counts as often as it is met; a slice's spare places count too). A statement '..UptoSaid' is the law's where the arguments, and the package variables that the reading takes, are together of bulk at most 1048576: NARROWER than '..Said'. Prove '..Said' where nothing that the law and all that it calls make is longer than what came in: it says more and counts as full. Else prove '..UptoSaid'. A law counts once. -/
mutual
def uptoBulk {H : Type} : DataW H → Nat
  | .lit (.string bytes) => bytes.length + 1
  | .lit _ => 1
  | .nil => 1
  | .ptr d => uptoBulk d + 1
  | .slice elems spare => uptoBulkAll elems + uptoBulkAll spare + 1
  | .agg parts => uptoBulkAll parts + 1
  | .iface _ d => uptoBulk d + 1
  | .map entries => uptoBulkEntries entries + 1
  | .held _ => 1
def uptoBulkAll {H : Type} : List (DataW H) → Nat
  | [] => 0
  | d :: r => uptoBulk d + uptoBulkAll r
def uptoBulkEntries {H : Type} : List (Lit × DataW H) → Nat
  | [] => 0
  | x :: r => uptoBulkEntry x + uptoBulkEntries r
def uptoBulkEntry {H : Type} : Lit × DataW H → Nat
  | (.string bytes, d) => bytes.length + uptoBulk d + 1
  | (_, d) => uptoBulk d + 1
 end
def uptoSmall : (H : Type) → List (DataW H) → Bool := fun _ ds => decide (uptoBulkAll ds ≤ 1048576)
def OpenSpec.upto (s : _root_.Go.ChangeSpec) : _root_.Go.OpenSpec := { _root_.Go.OpenSpec.ofChange s with cond := some uptoSmall }

/-- 'laws.FnExactCurveAt', WHERE WHAT IT READS IS OF BULK AT MOST 1048576: true; the input reads as it did. -/
def fnExactCurveAtUptoRow : OpenClaim := { program := "ytgageljahebjnaa", sum := "a16f3f73f2ac7e709e36e8072300546cb52585ff06ad06c692f7aafbad0ae74b", func := "loop.example/countedchances/laws.FnExactCurveAt", spec := "fnExactCurveAt", unfollowed := true, recurses := true, apart := false, narrowed := true }
def FnExactCurveAtUptoSaid : Prop := fnExactCurveAtUptoRow.holds Try.pinned (OpenSpec.upto fnExactCurveAtSpec)

/-- 'laws.FnExactPiecesTried', WHERE WHAT IT READS IS OF BULK AT MOST 1048576: true; the input reads as it did. -/
def fnExactPiecesTriedUptoRow : OpenClaim := { program := "ytgageljahebjnaa", sum := "a16f3f73f2ac7e709e36e8072300546cb52585ff06ad06c692f7aafbad0ae74b", func := "loop.example/countedchances/laws.FnExactPiecesTried", spec := "fnExactPiecesTried", unfollowed := true, recurses := true, apart := false, narrowed := true }
def FnExactPiecesTriedUptoSaid : Prop := fnExactPiecesTriedUptoRow.holds Try.pinned (OpenSpec.upto fnExactPiecesTriedSpec)

/-- 'laws.FnExactTablesWith', WHERE WHAT IT READS IS OF BULK AT MOST 1048576: true; the input reads as it did. -/
def fnExactTablesWithUptoRow : OpenClaim := { program := "ytgageljahebjnaa", sum := "a16f3f73f2ac7e709e36e8072300546cb52585ff06ad06c692f7aafbad0ae74b", func := "loop.example/countedchances/laws.FnExactTablesWith", spec := "fnExactTablesWith", unfollowed := true, recurses := true, apart := false, narrowed := true }
def FnExactTablesWithUptoSaid : Prop := fnExactTablesWithUptoRow.holds Try.pinned (OpenSpec.upto fnExactTablesWithSpec)

/-- 'laws.FnExactPricedPieces', WHERE WHAT IT READS IS OF BULK AT MOST 1048576: true; the input reads as it did. -/
def fnExactPricedPiecesUptoRow : OpenClaim := { program := "ytgageljahebjnaa", sum := "a16f3f73f2ac7e709e36e8072300546cb52585ff06ad06c692f7aafbad0ae74b", func := "loop.example/countedchances/laws.FnExactPricedPieces", spec := "fnExactPricedPieces", unfollowed := true, recurses := true, apart := false, narrowed := true }
def FnExactPricedPiecesUptoSaid : Prop := fnExactPricedPiecesUptoRow.holds Try.pinned (OpenSpec.upto fnExactPricedPiecesSpec)

/-- 'laws.FnExactPiecesMiss', WHERE WHAT IT READS IS OF BULK AT MOST 1048576: true; the input reads as it did. -/
def fnExactPiecesMissUptoRow : OpenClaim := { program := "ytgageljahebjnaa", sum := "a16f3f73f2ac7e709e36e8072300546cb52585ff06ad06c692f7aafbad0ae74b", func := "loop.example/countedchances/laws.FnExactPiecesMiss", spec := "fnExactPiecesMiss", unfollowed := true, recurses := true, apart := false, narrowed := true }
def FnExactPiecesMissUptoSaid : Prop := fnExactPiecesMissUptoRow.holds Try.pinned (OpenSpec.upto fnExactPiecesMissSpec)

end Rows
end Go.Proofs.Ytgageljahebjnaa
