/-
  No cell of these rows narrows 'for every input' (looked for: loops, veiled, ifaces, maps, wideKeys, modest, calm, conditions, laid).
  DERIVED. THE GIVEN ROWS OF THIS SEAT. 11 by the template 'for every input the law returns true; each argument reads behind the call as it read before'; 0 by the template 'total and deterministic' (their statements: YtgcpglefkkpdjaaTotals.lean).
  GIVEN WITH THE SEED: the statements are not yours to turn. If you find one false, say at which input.
  Laid BY PROGRAM, IN A SANDBOX (cutbox-rows.mjs): the forced cells as the released guide's own fill.sh prints them over the translation 12c762ae8b4a246d… (all of the seat's roots in one cut). By AI agents, Wed Nov 11 2026. No macro, syntax, notation, axiom, sorry.
-/
import Derived.Test.YtgcpglefkkpdjaaChecked
import GoSem.Claim
import GoSem.ClaimJoined
import GoSem.ClaimMapViews
import Derived.JoinedTies
import Derived.KernelRfl
namespace Go.Proofs.Ytgcpglefkkpdjaa
/- THE CELL 'sum', in the pinned program and in every row, IS THE sha256 OF THE DUMP (.gsa) THAT YtgcpglefkkpdjaaProg.lean LOADS. Nothing in Lean hashes anything: it is a label: what it is worth is what the hold of that sum in a sandbox is worth. -/
noncomputable def Try.pinned : Pinned := { name := "ytgcpglefkkpdjaa", sum := "12c762ae8b4a246db80a30b4c4460fccf38c10fb2e4bc08e405b36adae9a53b9", checked := Try.checked }
namespace Rows
def none {H : Type} : Left H := { results := [], args := [] }

/-- 'laws.FnExactFewestPieces': WHATEVER THE INPUT: true; the input reads as it did. -/
def fnExactFewestPiecesSpec : ChangeSpec := { name := "fnExactFewestPieces", fn := fun _ => fun
  | [d1, d2] => { results := [.lit (.bool true)], args := [d1, d2] }
  | _ => none }
def fnExactFewestPiecesRow : OpenClaim := { program := "ytgcpglefkkpdjaa", sum := "12c762ae8b4a246db80a30b4c4460fccf38c10fb2e4bc08e405b36adae9a53b9", func := "loop.example/countedchances/laws.FnExactFewestPieces", spec := "fnExactFewestPieces", unfollowed := true, recurses := true, apart := false }
def FnExactFewestPiecesSaid : Prop := fnExactFewestPiecesRow.holds Try.pinned (OpenSpec.ofChange fnExactFewestPiecesSpec)

/-- ITS FALSE NEIGHBOUR: 'it returns false'. Refute it at one input. -/
def fnExactFewestPiecesWrong : ChangeSpec := { name := "fnExactFewestPieces", fn := fun _ => fun
  | [d1, d2] => { results := [.lit (.bool false)], args := [d1, d2] }
  | _ => none }
def FnExactFewestPiecesWrongFalsely : Prop := fnExactFewestPiecesRow.holds Try.pinned (OpenSpec.ofChange fnExactFewestPiecesWrong)

/-- 'laws.FnExactPieceMiss': WHATEVER THE INPUT: true; the input reads as it did. -/
def fnExactPieceMissSpec : ChangeSpec := { name := "fnExactPieceMiss", fn := fun _ => fun
  | [d1, d2, d3] => { results := [.lit (.bool true)], args := [d1, d2, d3] }
  | _ => none }
def fnExactPieceMissRow : OpenClaim := { program := "ytgcpglefkkpdjaa", sum := "12c762ae8b4a246db80a30b4c4460fccf38c10fb2e4bc08e405b36adae9a53b9", func := "loop.example/countedchances/laws.FnExactPieceMiss", spec := "fnExactPieceMiss", unfollowed := true, recurses := true, apart := false }
def FnExactPieceMissSaid : Prop := fnExactPieceMissRow.holds Try.pinned (OpenSpec.ofChange fnExactPieceMissSpec)

/-- ITS FALSE NEIGHBOUR: 'it returns false'. Refute it at one input. -/
def fnExactPieceMissWrong : ChangeSpec := { name := "fnExactPieceMiss", fn := fun _ => fun
  | [d1, d2, d3] => { results := [.lit (.bool false)], args := [d1, d2, d3] }
  | _ => none }
def FnExactPieceMissWrongFalsely : Prop := fnExactPieceMissRow.holds Try.pinned (OpenSpec.ofChange fnExactPieceMissWrong)

/-- 'laws.FnExactLeastRoom': WHATEVER THE INPUT: true; the input reads as it did. -/
def fnExactLeastRoomSpec : ChangeSpec := { name := "fnExactLeastRoom", fn := fun _ => fun
  | [d1, d2] => { results := [.lit (.bool true)], args := [d1, d2] }
  | _ => none }
def fnExactLeastRoomRow : OpenClaim := { program := "ytgcpglefkkpdjaa", sum := "12c762ae8b4a246db80a30b4c4460fccf38c10fb2e4bc08e405b36adae9a53b9", func := "loop.example/countedchances/laws.FnExactLeastRoom", spec := "fnExactLeastRoom", unfollowed := true, recurses := true, apart := false }
def FnExactLeastRoomSaid : Prop := fnExactLeastRoomRow.holds Try.pinned (OpenSpec.ofChange fnExactLeastRoomSpec)

/-- ITS FALSE NEIGHBOUR: 'it returns false'. Refute it at one input. -/
def fnExactLeastRoomWrong : ChangeSpec := { name := "fnExactLeastRoom", fn := fun _ => fun
  | [d1, d2] => { results := [.lit (.bool false)], args := [d1, d2] }
  | _ => none }
def FnExactLeastRoomWrongFalsely : Prop := fnExactLeastRoomRow.holds Try.pinned (OpenSpec.ofChange fnExactLeastRoomWrong)

/-- 'laws.FnExactRoomTried': WHATEVER THE INPUT: true; the input reads as it did. -/
def fnExactRoomTriedSpec : ChangeSpec := { name := "fnExactRoomTried", fn := fun _ => fun
  | [d1, d2] => { results := [.lit (.bool true)], args := [d1, d2] }
  | _ => none }
def fnExactRoomTriedRow : OpenClaim := { program := "ytgcpglefkkpdjaa", sum := "12c762ae8b4a246db80a30b4c4460fccf38c10fb2e4bc08e405b36adae9a53b9", func := "loop.example/countedchances/laws.FnExactRoomTried", spec := "fnExactRoomTried", unfollowed := true, recurses := true, apart := false }
def FnExactRoomTriedSaid : Prop := fnExactRoomTriedRow.holds Try.pinned (OpenSpec.ofChange fnExactRoomTriedSpec)

/-- ITS FALSE NEIGHBOUR: 'it returns false'. Refute it at one input. -/
def fnExactRoomTriedWrong : ChangeSpec := { name := "fnExactRoomTried", fn := fun _ => fun
  | [d1, d2] => { results := [.lit (.bool false)], args := [d1, d2] }
  | _ => none }
def FnExactRoomTriedWrongFalsely : Prop := fnExactRoomTriedRow.holds Try.pinned (OpenSpec.ofChange fnExactRoomTriedWrong)

/-- 'laws.FnPieceMiss': WHATEVER THE INPUT: true; the input reads as it did. -/
def fnPieceMissSpec : ChangeSpec := { name := "fnPieceMiss", fn := fun _ => fun
  | [d] => { results := [.lit (.bool true)], args := [d] }
  | _ => none }
def fnPieceMissRow : OpenClaim := { program := "ytgcpglefkkpdjaa", sum := "12c762ae8b4a246db80a30b4c4460fccf38c10fb2e4bc08e405b36adae9a53b9", func := "loop.example/countedchances/laws.FnPieceMiss", spec := "fnPieceMiss", unfollowed := true, recurses := true, apart := false }
def FnPieceMissSaid : Prop := fnPieceMissRow.holds Try.pinned (OpenSpec.ofChange fnPieceMissSpec)

/-- ITS FALSE NEIGHBOUR: 'it returns false'. Refute it at one input. -/
def fnPieceMissWrong : ChangeSpec := { name := "fnPieceMiss", fn := fun _ => fun
  | [d] => { results := [.lit (.bool false)], args := [d] }
  | _ => none }
def FnPieceMissWrongFalsely : Prop := fnPieceMissRow.holds Try.pinned (OpenSpec.ofChange fnPieceMissWrong)

/-- 'laws.FnRoomTried': WHATEVER THE INPUT: true; the input reads as it did. -/
def fnRoomTriedSpec : ChangeSpec := { name := "fnRoomTried", fn := fun _ => fun
  | [d] => { results := [.lit (.bool true)], args := [d] }
  | _ => none }
def fnRoomTriedRow : OpenClaim := { program := "ytgcpglefkkpdjaa", sum := "12c762ae8b4a246db80a30b4c4460fccf38c10fb2e4bc08e405b36adae9a53b9", func := "loop.example/countedchances/laws.FnRoomTried", spec := "fnRoomTried", unfollowed := true, recurses := true, apart := false }
def FnRoomTriedSaid : Prop := fnRoomTriedRow.holds Try.pinned (OpenSpec.ofChange fnRoomTriedSpec)

/-- ITS FALSE NEIGHBOUR: 'it returns false'. Refute it at one input. -/
def fnRoomTriedWrong : ChangeSpec := { name := "fnRoomTried", fn := fun _ => fun
  | [d] => { results := [.lit (.bool false)], args := [d] }
  | _ => none }
def FnRoomTriedWrongFalsely : Prop := fnRoomTriedRow.holds Try.pinned (OpenSpec.ofChange fnRoomTriedWrong)

/-- 'laws.FnExactPiecesTried': WHATEVER THE INPUT: true; the input reads as it did. -/
def fnExactPiecesTriedSpec : ChangeSpec := { name := "fnExactPiecesTried", fn := fun _ => fun
  | [d1, d2] => { results := [.lit (.bool true)], args := [d1, d2] }
  | _ => none }
def fnExactPiecesTriedRow : OpenClaim := { program := "ytgcpglefkkpdjaa", sum := "12c762ae8b4a246db80a30b4c4460fccf38c10fb2e4bc08e405b36adae9a53b9", func := "loop.example/countedchances/laws.FnExactPiecesTried", spec := "fnExactPiecesTried", unfollowed := true, recurses := true, apart := false }
def FnExactPiecesTriedSaid : Prop := fnExactPiecesTriedRow.holds Try.pinned (OpenSpec.ofChange fnExactPiecesTriedSpec)

/-- ITS FALSE NEIGHBOUR: 'it returns false'. Refute it at one input. -/
def fnExactPiecesTriedWrong : ChangeSpec := { name := "fnExactPiecesTried", fn := fun _ => fun
  | [d1, d2] => { results := [.lit (.bool false)], args := [d1, d2] }
  | _ => none }
def FnExactPiecesTriedWrongFalsely : Prop := fnExactPiecesTriedRow.holds Try.pinned (OpenSpec.ofChange fnExactPiecesTriedWrong)

/-- 'laws.FnLeastRoom': WHATEVER THE INPUT: true; the input reads as it did. -/
def fnLeastRoomSpec : ChangeSpec := { name := "fnLeastRoom", fn := fun _ => fun
  | [d] => { results := [.lit (.bool true)], args := [d] }
  | _ => none }
def fnLeastRoomRow : OpenClaim := { program := "ytgcpglefkkpdjaa", sum := "12c762ae8b4a246db80a30b4c4460fccf38c10fb2e4bc08e405b36adae9a53b9", func := "loop.example/countedchances/laws.FnLeastRoom", spec := "fnLeastRoom", unfollowed := true, recurses := true, apart := false }
def FnLeastRoomSaid : Prop := fnLeastRoomRow.holds Try.pinned (OpenSpec.ofChange fnLeastRoomSpec)

/-- ITS FALSE NEIGHBOUR: 'it returns false'. Refute it at one input. -/
def fnLeastRoomWrong : ChangeSpec := { name := "fnLeastRoom", fn := fun _ => fun
  | [d] => { results := [.lit (.bool false)], args := [d] }
  | _ => none }
def FnLeastRoomWrongFalsely : Prop := fnLeastRoomRow.holds Try.pinned (OpenSpec.ofChange fnLeastRoomWrong)

/-- 'laws.FnFewestPieces': WHATEVER THE INPUT: true; the input reads as it did. -/
def fnFewestPiecesSpec : ChangeSpec := { name := "fnFewestPieces", fn := fun _ => fun
  | [d] => { results := [.lit (.bool true)], args := [d] }
  | _ => none }
def fnFewestPiecesRow : OpenClaim := { program := "ytgcpglefkkpdjaa", sum := "12c762ae8b4a246db80a30b4c4460fccf38c10fb2e4bc08e405b36adae9a53b9", func := "loop.example/countedchances/laws.FnFewestPieces", spec := "fnFewestPieces", unfollowed := true, recurses := true, apart := false }
def FnFewestPiecesSaid : Prop := fnFewestPiecesRow.holds Try.pinned (OpenSpec.ofChange fnFewestPiecesSpec)

/-- ITS FALSE NEIGHBOUR: 'it returns false'. Refute it at one input. -/
def fnFewestPiecesWrong : ChangeSpec := { name := "fnFewestPieces", fn := fun _ => fun
  | [d] => { results := [.lit (.bool false)], args := [d] }
  | _ => none }
def FnFewestPiecesWrongFalsely : Prop := fnFewestPiecesRow.holds Try.pinned (OpenSpec.ofChange fnFewestPiecesWrong)

/-- 'laws.FnExactPricedPieces': WHATEVER THE INPUT: true; the input reads as it did. -/
def fnExactPricedPiecesSpec : ChangeSpec := { name := "fnExactPricedPieces", fn := fun _ => fun
  | [d1, d2] => { results := [.lit (.bool true)], args := [d1, d2] }
  | _ => none }
def fnExactPricedPiecesRow : OpenClaim := { program := "ytgcpglefkkpdjaa", sum := "12c762ae8b4a246db80a30b4c4460fccf38c10fb2e4bc08e405b36adae9a53b9", func := "loop.example/countedchances/laws.FnExactPricedPieces", spec := "fnExactPricedPieces", unfollowed := true, recurses := true, apart := false }
def FnExactPricedPiecesSaid : Prop := fnExactPricedPiecesRow.holds Try.pinned (OpenSpec.ofChange fnExactPricedPiecesSpec)

/-- ITS FALSE NEIGHBOUR: 'it returns false'. Refute it at one input. -/
def fnExactPricedPiecesWrong : ChangeSpec := { name := "fnExactPricedPieces", fn := fun _ => fun
  | [d1, d2] => { results := [.lit (.bool false)], args := [d1, d2] }
  | _ => none }
def FnExactPricedPiecesWrongFalsely : Prop := fnExactPricedPiecesRow.holds Try.pinned (OpenSpec.ofChange fnExactPricedPiecesWrong)

/-- 'laws.FnExactPiecesMiss': WHATEVER THE INPUT: true; the input reads as it did. -/
def fnExactPiecesMissSpec : ChangeSpec := { name := "fnExactPiecesMiss", fn := fun _ => fun
  | [d1, d2] => { results := [.lit (.bool true)], args := [d1, d2] }
  | _ => none }
def fnExactPiecesMissRow : OpenClaim := { program := "ytgcpglefkkpdjaa", sum := "12c762ae8b4a246db80a30b4c4460fccf38c10fb2e4bc08e405b36adae9a53b9", func := "loop.example/countedchances/laws.FnExactPiecesMiss", spec := "fnExactPiecesMiss", unfollowed := true, recurses := true, apart := false }
def FnExactPiecesMissSaid : Prop := fnExactPiecesMissRow.holds Try.pinned (OpenSpec.ofChange fnExactPiecesMissSpec)

/-- ITS FALSE NEIGHBOUR: 'it returns false'. Refute it at one input. -/
def fnExactPiecesMissWrong : ChangeSpec := { name := "fnExactPiecesMiss", fn := fun _ => fun
  | [d1, d2] => { results := [.lit (.bool false)], args := [d1, d2] }
  | _ => none }
def FnExactPiecesMissWrongFalsely : Prop := fnExactPiecesMissRow.holds Try.pinned (OpenSpec.ofChange fnExactPiecesMissWrong)

/- THE SECOND FORM. 'bulk': how many values and letters a reading holds, each counted each time it is reached (what is shared counts as often as it is met; a slice's spare places count too). A statement '..UptoSaid' is the law's where the arguments, and the package variables that the reading takes, are together of bulk at most 1048576: NARROWER than '..Said'. Prove '..Said' where nothing that the law and all that it calls make is longer than what came in: it says more and counts as full. Else prove '..UptoSaid'. A law counts once. -/
mutual
def uptoBulk {H : Type} : DataW H → Nat
  | .lit (.string bytes) => bytes.length + 1
  | .lit _ => 1
  | .nil => 1
  | .ptr d => uptoBulk d + 1
  | .slice elems spare => uptoBulkAll elems + uptoBulkAll spare + 1
  | .agg parts => uptoBulkAll parts + 1
  | .iface _ d => uptoBulk d + 1
  | .map entries => uptoBulkEntries entries + 1
  | .held _ => 1
def uptoBulkAll {H : Type} : List (DataW H) → Nat
  | [] => 0
  | d :: r => uptoBulk d + uptoBulkAll r
def uptoBulkEntries {H : Type} : List (Lit × DataW H) → Nat
  | [] => 0
  | x :: r => uptoBulkEntry x + uptoBulkEntries r
def uptoBulkEntry {H : Type} : Lit × DataW H → Nat
  | (.string bytes, d) => bytes.length + uptoBulk d + 1
  | (_, d) => uptoBulk d + 1
 end
def uptoSmall : (H : Type) → List (DataW H) → Bool := fun _ ds => decide (uptoBulkAll ds ≤ 1048576)
def OpenSpec.upto (s : _root_.Go.ChangeSpec) : _root_.Go.OpenSpec := { _root_.Go.OpenSpec.ofChange s with cond := some uptoSmall }

/-- 'laws.FnExactFewestPieces', WHERE WHAT IT READS IS OF BULK AT MOST 1048576: true; the input reads as it did. -/
def fnExactFewestPiecesUptoRow : OpenClaim := { program := "ytgcpglefkkpdjaa", sum := "12c762ae8b4a246db80a30b4c4460fccf38c10fb2e4bc08e405b36adae9a53b9", func := "loop.example/countedchances/laws.FnExactFewestPieces", spec := "fnExactFewestPieces", unfollowed := true, recurses := true, apart := false, narrowed := true }
def FnExactFewestPiecesUptoSaid : Prop := fnExactFewestPiecesUptoRow.holds Try.pinned (OpenSpec.upto fnExactFewestPiecesSpec)

/-- 'laws.FnExactPieceMiss', WHERE WHAT IT READS IS OF BULK AT MOST 1048576: true; the input reads as it did. -/
def fnExactPieceMissUptoRow : OpenClaim := { program := "ytgcpglefkkpdjaa", sum := "12c762ae8b4a246db80a30b4c4460fccf38c10fb2e4bc08e405b36adae9a53b9", func := "loop.example/countedchances/laws.FnExactPieceMiss", spec := "fnExactPieceMiss", unfollowed := true, recurses := true, apart := false, narrowed := true }
def FnExactPieceMissUptoSaid : Prop := fnExactPieceMissUptoRow.holds Try.pinned (OpenSpec.upto fnExactPieceMissSpec)

/-- 'laws.FnExactLeastRoom', WHERE WHAT IT READS IS OF BULK AT MOST 1048576: true; the input reads as it did. -/
def fnExactLeastRoomUptoRow : OpenClaim := { program := "ytgcpglefkkpdjaa", sum := "12c762ae8b4a246db80a30b4c4460fccf38c10fb2e4bc08e405b36adae9a53b9", func := "loop.example/countedchances/laws.FnExactLeastRoom", spec := "fnExactLeastRoom", unfollowed := true, recurses := true, apart := false, narrowed := true }
def FnExactLeastRoomUptoSaid : Prop := fnExactLeastRoomUptoRow.holds Try.pinned (OpenSpec.upto fnExactLeastRoomSpec)

/-- 'laws.FnExactRoomTried', WHERE WHAT IT READS IS OF BULK AT MOST 1048576: true; the input reads as it did. -/
def fnExactRoomTriedUptoRow : OpenClaim := { program := "ytgcpglefkkpdjaa", sum := "12c762ae8b4a246db80a30b4c4460fccf38c10fb2e4bc08e405b36adae9a53b9", func := "loop.example/countedchances/laws.FnExactRoomTried", spec := "fnExactRoomTried", unfollowed := true, recurses := true, apart := false, narrowed := true }
def FnExactRoomTriedUptoSaid : Prop := fnExactRoomTriedUptoRow.holds Try.pinned (OpenSpec.upto fnExactRoomTriedSpec)

/-- 'laws.FnPieceMiss', WHERE WHAT IT READS IS OF BULK AT MOST 1048576: true; the input reads as it did. -/
def fnPieceMissUptoRow : OpenClaim := { program := "ytgcpglefkkpdjaa", sum := "12c762ae8b4a246db80a30b4c4460fccf38c10fb2e4bc08e405b36adae9a53b9", func := "loop.example/countedchances/laws.FnPieceMiss", spec := "fnPieceMiss", unfollowed := true, recurses := true, apart := false, narrowed := true }
def FnPieceMissUptoSaid : Prop := fnPieceMissUptoRow.holds Try.pinned (OpenSpec.upto fnPieceMissSpec)

/-- 'laws.FnRoomTried', WHERE WHAT IT READS IS OF BULK AT MOST 1048576: true; the input reads as it did. -/
def fnRoomTriedUptoRow : OpenClaim := { program := "ytgcpglefkkpdjaa", sum := "12c762ae8b4a246db80a30b4c4460fccf38c10fb2e4bc08e405b36adae9a53b9", func := "loop.example/countedchances/laws.FnRoomTried", spec := "fnRoomTried", unfollowed := true, recurses := true, apart := false, narrowed := true }
def FnRoomTriedUptoSaid : Prop := fnRoomTriedUptoRow.holds Try.pinned (OpenSpec.upto fnRoomTriedSpec)

/-- 'laws.FnExactPiecesTried', WHERE WHAT IT READS IS OF BULK AT MOST 1048576: true; the input reads as it did. -/
def fnExactPiecesTriedUptoRow : OpenClaim := { program := "ytgcpglefkkpdjaa", sum := "12c762ae8b4a246db80a30b4c4460fccf38c10fb2e4bc08e405b36adae9a53b9", func := "loop.example/countedchances/laws.FnExactPiecesTried", spec := "fnExactPiecesTried", unfollowed := true, recurses := true, apart := false, narrowed := true }
def FnExactPiecesTriedUptoSaid : Prop := fnExactPiecesTriedUptoRow.holds Try.pinned (OpenSpec.upto fnExactPiecesTriedSpec)

/-- 'laws.FnLeastRoom', WHERE WHAT IT READS IS OF BULK AT MOST 1048576: true; the input reads as it did. -/
def fnLeastRoomUptoRow : OpenClaim := { program := "ytgcpglefkkpdjaa", sum := "12c762ae8b4a246db80a30b4c4460fccf38c10fb2e4bc08e405b36adae9a53b9", func := "loop.example/countedchances/laws.FnLeastRoom", spec := "fnLeastRoom", unfollowed := true, recurses := true, apart := false, narrowed := true }
def FnLeastRoomUptoSaid : Prop := fnLeastRoomUptoRow.holds Try.pinned (OpenSpec.upto fnLeastRoomSpec)

/-- 'laws.FnFewestPieces', WHERE WHAT IT READS IS OF BULK AT MOST 1048576: true; the input reads as it did. -/
def fnFewestPiecesUptoRow : OpenClaim := { program := "ytgcpglefkkpdjaa", sum := "12c762ae8b4a246db80a30b4c4460fccf38c10fb2e4bc08e405b36adae9a53b9", func := "loop.example/countedchances/laws.FnFewestPieces", spec := "fnFewestPieces", unfollowed := true, recurses := true, apart := false, narrowed := true }
def FnFewestPiecesUptoSaid : Prop := fnFewestPiecesUptoRow.holds Try.pinned (OpenSpec.upto fnFewestPiecesSpec)

/-- 'laws.FnExactPricedPieces', WHERE WHAT IT READS IS OF BULK AT MOST 1048576: true; the input reads as it did. -/
def fnExactPricedPiecesUptoRow : OpenClaim := { program := "ytgcpglefkkpdjaa", sum := "12c762ae8b4a246db80a30b4c4460fccf38c10fb2e4bc08e405b36adae9a53b9", func := "loop.example/countedchances/laws.FnExactPricedPieces", spec := "fnExactPricedPieces", unfollowed := true, recurses := true, apart := false, narrowed := true }
def FnExactPricedPiecesUptoSaid : Prop := fnExactPricedPiecesUptoRow.holds Try.pinned (OpenSpec.upto fnExactPricedPiecesSpec)

/-- 'laws.FnExactPiecesMiss', WHERE WHAT IT READS IS OF BULK AT MOST 1048576: true; the input reads as it did. -/
def fnExactPiecesMissUptoRow : OpenClaim := { program := "ytgcpglefkkpdjaa", sum := "12c762ae8b4a246db80a30b4c4460fccf38c10fb2e4bc08e405b36adae9a53b9", func := "loop.example/countedchances/laws.FnExactPiecesMiss", spec := "fnExactPiecesMiss", unfollowed := true, recurses := true, apart := false, narrowed := true }
def FnExactPiecesMissUptoSaid : Prop := fnExactPiecesMissUptoRow.holds Try.pinned (OpenSpec.upto fnExactPiecesMissSpec)

end Rows
end Go.Proofs.Ytgcpglefkkpdjaa
