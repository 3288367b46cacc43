/-
  No cell of these rows narrows 'for every input' (looked for: loops, veiled, ifaces, maps, wideKeys, modest, calm, conditions, laid).
  DERIVED. THE GIVEN ROWS OF THIS SEAT. 9 by the template 'for every input the law returns true; each argument reads behind the call as it read before'; 0 by the template 'total and deterministic' (their statements: YtipmakmidadalaaTotals.lean).
  GIVEN WITH THE SEED: the statements are not yours to turn. If you find one false, say at which input.
  Laid BY PROGRAM, IN A SANDBOX (cutbox-rows.mjs): the forced cells as the released guide's own fill.sh prints them over the translation d15e23e316d37086… (all of the seat's roots in one cut). By AI agents, Wed Nov 11 2026. No macro, syntax, notation, axiom, sorry.
-/
import Derived.Test.YtipmakmidadalaaChecked
import GoSem.Claim
import GoSem.ClaimJoined
import GoSem.ClaimMapViews
import Derived.JoinedTies
import Derived.KernelRfl
namespace Go.Proofs.Ytipmakmidadalaa
/- THE CELL 'sum', in the pinned program and in every row, IS THE sha256 OF THE DUMP (.gsa) THAT YtipmakmidadalaaProg.lean LOADS. Nothing in Lean hashes anything: it is a label: what it is worth is what the hold of that sum in a sandbox is worth. -/
noncomputable def Try.pinned : Pinned := { name := "ytipmakmidadalaa", sum := "d15e23e316d37086531d26fa0fe2552cb616ed79d25ba1f4682963d61bd8ccb8", checked := Try.checked }
namespace Rows
def none {H : Type} : Left H := { results := [], args := [] }

/-- 'laws.FnExactSignedRanks': WHATEVER THE INPUT: true; the input reads as it did. -/
def fnExactSignedRanksSpec : ChangeSpec := { name := "fnExactSignedRanks", fn := fun _ => fun
  | [d] => { results := [.lit (.bool true)], args := [d] }
  | _ => none }
def fnExactSignedRanksRow : OpenClaim := { program := "ytipmakmidadalaa", sum := "d15e23e316d37086531d26fa0fe2552cb616ed79d25ba1f4682963d61bd8ccb8", func := "loop.example/countedchances/laws.FnExactSignedRanks", spec := "fnExactSignedRanks", unfollowed := true, recurses := true, apart := false }
def FnExactSignedRanksSaid : Prop := fnExactSignedRanksRow.holds Try.pinned (OpenSpec.ofChange fnExactSignedRanksSpec)

/-- ITS FALSE NEIGHBOUR: 'it returns false'. Refute it at one input. -/
def fnExactSignedRanksWrong : ChangeSpec := { name := "fnExactSignedRanks", fn := fun _ => fun
  | [d] => { results := [.lit (.bool false)], args := [d] }
  | _ => none }
def FnExactSignedRanksWrongFalsely : Prop := fnExactSignedRanksRow.holds Try.pinned (OpenSpec.ofChange fnExactSignedRanksWrong)

/-- 'laws.FnAgreeOf': WHATEVER THE INPUT: true; the input reads as it did. -/
def fnAgreeOfSpec : ChangeSpec := { name := "fnAgreeOf", fn := fun _ => fun
  | [d] => { results := [.lit (.bool true)], args := [d] }
  | _ => none }
def fnAgreeOfRow : OpenClaim := { program := "ytipmakmidadalaa", sum := "d15e23e316d37086531d26fa0fe2552cb616ed79d25ba1f4682963d61bd8ccb8", func := "loop.example/countedchances/laws.FnAgreeOf", spec := "fnAgreeOf", unfollowed := true, recurses := true, apart := false }
def FnAgreeOfSaid : Prop := fnAgreeOfRow.holds Try.pinned (OpenSpec.ofChange fnAgreeOfSpec)

/-- ITS FALSE NEIGHBOUR: 'it returns false'. Refute it at one input. -/
def fnAgreeOfWrong : ChangeSpec := { name := "fnAgreeOf", fn := fun _ => fun
  | [d] => { results := [.lit (.bool false)], args := [d] }
  | _ => none }
def FnAgreeOfWrongFalsely : Prop := fnAgreeOfRow.holds Try.pinned (OpenSpec.ofChange fnAgreeOfWrong)

/-- 'laws.FnRanksOf': WHATEVER THE INPUT: true; the input reads as it did. -/
def fnRanksOfSpec : ChangeSpec := { name := "fnRanksOf", fn := fun _ => fun
  | [d] => { results := [.lit (.bool true)], args := [d] }
  | _ => none }
def fnRanksOfRow : OpenClaim := { program := "ytipmakmidadalaa", sum := "d15e23e316d37086531d26fa0fe2552cb616ed79d25ba1f4682963d61bd8ccb8", func := "loop.example/countedchances/laws.FnRanksOf", spec := "fnRanksOf", unfollowed := true, recurses := true, apart := false }
def FnRanksOfSaid : Prop := fnRanksOfRow.holds Try.pinned (OpenSpec.ofChange fnRanksOfSpec)

/-- ITS FALSE NEIGHBOUR: 'it returns false'. Refute it at one input. -/
def fnRanksOfWrong : ChangeSpec := { name := "fnRanksOf", fn := fun _ => fun
  | [d] => { results := [.lit (.bool false)], args := [d] }
  | _ => none }
def FnRanksOfWrongFalsely : Prop := fnRanksOfRow.holds Try.pinned (OpenSpec.ofChange fnRanksOfWrong)

/-- 'laws.FnFlipChance': WHATEVER THE INPUT: true; the input reads as it did. -/
def fnFlipChanceSpec : ChangeSpec := { name := "fnFlipChance", fn := fun _ => fun
  | [d] => { results := [.lit (.bool true)], args := [d] }
  | _ => none }
def fnFlipChanceRow : OpenClaim := { program := "ytipmakmidadalaa", sum := "d15e23e316d37086531d26fa0fe2552cb616ed79d25ba1f4682963d61bd8ccb8", func := "loop.example/countedchances/laws.FnFlipChance", spec := "fnFlipChance", unfollowed := true, recurses := true, apart := false }
def FnFlipChanceSaid : Prop := fnFlipChanceRow.holds Try.pinned (OpenSpec.ofChange fnFlipChanceSpec)

/-- ITS FALSE NEIGHBOUR: 'it returns false'. Refute it at one input. -/
def fnFlipChanceWrong : ChangeSpec := { name := "fnFlipChance", fn := fun _ => fun
  | [d] => { results := [.lit (.bool false)], args := [d] }
  | _ => none }
def FnFlipChanceWrongFalsely : Prop := fnFlipChanceRow.holds Try.pinned (OpenSpec.ofChange fnFlipChanceWrong)

/-- 'laws.FnWinsOf': WHATEVER THE INPUT: true; the input reads as it did. -/
def fnWinsOfSpec : ChangeSpec := { name := "fnWinsOf", fn := fun _ => fun
  | [d] => { results := [.lit (.bool true)], args := [d] }
  | _ => none }
def fnWinsOfRow : OpenClaim := { program := "ytipmakmidadalaa", sum := "d15e23e316d37086531d26fa0fe2552cb616ed79d25ba1f4682963d61bd8ccb8", func := "loop.example/countedchances/laws.FnWinsOf", spec := "fnWinsOf", unfollowed := true, recurses := true, apart := false }
def FnWinsOfSaid : Prop := fnWinsOfRow.holds Try.pinned (OpenSpec.ofChange fnWinsOfSpec)

/-- ITS FALSE NEIGHBOUR: 'it returns false'. Refute it at one input. -/
def fnWinsOfWrong : ChangeSpec := { name := "fnWinsOf", fn := fun _ => fun
  | [d] => { results := [.lit (.bool false)], args := [d] }
  | _ => none }
def FnWinsOfWrongFalsely : Prop := fnWinsOfRow.holds Try.pinned (OpenSpec.ofChange fnWinsOfWrong)

/-- 'laws.FnExactSplitChance': WHATEVER THE INPUT: true; the input reads as it did. -/
def fnExactSplitChanceSpec : ChangeSpec := { name := "fnExactSplitChance", fn := fun _ => fun
  | [d1, d2] => { results := [.lit (.bool true)], args := [d1, d2] }
  | _ => none }
def fnExactSplitChanceRow : OpenClaim := { program := "ytipmakmidadalaa", sum := "d15e23e316d37086531d26fa0fe2552cb616ed79d25ba1f4682963d61bd8ccb8", func := "loop.example/countedchances/laws.FnExactSplitChance", spec := "fnExactSplitChance", unfollowed := true, recurses := true, apart := false }
def FnExactSplitChanceSaid : Prop := fnExactSplitChanceRow.holds Try.pinned (OpenSpec.ofChange fnExactSplitChanceSpec)

/-- ITS FALSE NEIGHBOUR: 'it returns false'. Refute it at one input. -/
def fnExactSplitChanceWrong : ChangeSpec := { name := "fnExactSplitChance", fn := fun _ => fun
  | [d1, d2] => { results := [.lit (.bool false)], args := [d1, d2] }
  | _ => none }
def FnExactSplitChanceWrongFalsely : Prop := fnExactSplitChanceRow.holds Try.pinned (OpenSpec.ofChange fnExactSplitChanceWrong)

/-- 'laws.FnSignedRanks': WHATEVER THE INPUT: true; the input reads as it did. -/
def fnSignedRanksSpec : ChangeSpec := { name := "fnSignedRanks", fn := fun _ => fun
  | [d] => { results := [.lit (.bool true)], args := [d] }
  | _ => none }
def fnSignedRanksRow : OpenClaim := { program := "ytipmakmidadalaa", sum := "d15e23e316d37086531d26fa0fe2552cb616ed79d25ba1f4682963d61bd8ccb8", func := "loop.example/countedchances/laws.FnSignedRanks", spec := "fnSignedRanks", unfollowed := true, recurses := true, apart := false }
def FnSignedRanksSaid : Prop := fnSignedRanksRow.holds Try.pinned (OpenSpec.ofChange fnSignedRanksSpec)

/-- ITS FALSE NEIGHBOUR: 'it returns false'. Refute it at one input. -/
def fnSignedRanksWrong : ChangeSpec := { name := "fnSignedRanks", fn := fun _ => fun
  | [d] => { results := [.lit (.bool false)], args := [d] }
  | _ => none }
def FnSignedRanksWrongFalsely : Prop := fnSignedRanksRow.holds Try.pinned (OpenSpec.ofChange fnSignedRanksWrong)

/-- 'laws.FnRankGap': WHATEVER THE INPUT: true; the input reads as it did. -/
def fnRankGapSpec : ChangeSpec := { name := "fnRankGap", fn := fun _ => fun
  | [d] => { results := [.lit (.bool true)], args := [d] }
  | _ => none }
def fnRankGapRow : OpenClaim := { program := "ytipmakmidadalaa", sum := "d15e23e316d37086531d26fa0fe2552cb616ed79d25ba1f4682963d61bd8ccb8", func := "loop.example/countedchances/laws.FnRankGap", spec := "fnRankGap", unfollowed := true, recurses := true, apart := false }
def FnRankGapSaid : Prop := fnRankGapRow.holds Try.pinned (OpenSpec.ofChange fnRankGapSpec)

/-- ITS FALSE NEIGHBOUR: 'it returns false'. Refute it at one input. -/
def fnRankGapWrong : ChangeSpec := { name := "fnRankGap", fn := fun _ => fun
  | [d] => { results := [.lit (.bool false)], args := [d] }
  | _ => none }
def FnRankGapWrongFalsely : Prop := fnRankGapRow.holds Try.pinned (OpenSpec.ofChange fnRankGapWrong)

/-- 'laws.FnSplitChance': WHATEVER THE INPUT: true; the input reads as it did. -/
def fnSplitChanceSpec : ChangeSpec := { name := "fnSplitChance", fn := fun _ => fun
  | [d] => { results := [.lit (.bool true)], args := [d] }
  | _ => none }
def fnSplitChanceRow : OpenClaim := { program := "ytipmakmidadalaa", sum := "d15e23e316d37086531d26fa0fe2552cb616ed79d25ba1f4682963d61bd8ccb8", func := "loop.example/countedchances/laws.FnSplitChance", spec := "fnSplitChance", unfollowed := true, recurses := true, apart := false }
def FnSplitChanceSaid : Prop := fnSplitChanceRow.holds Try.pinned (OpenSpec.ofChange fnSplitChanceSpec)

/-- ITS FALSE NEIGHBOUR: 'it returns false'. Refute it at one input. -/
def fnSplitChanceWrong : ChangeSpec := { name := "fnSplitChance", fn := fun _ => fun
  | [d] => { results := [.lit (.bool false)], args := [d] }
  | _ => none }
def FnSplitChanceWrongFalsely : Prop := fnSplitChanceRow.holds Try.pinned (OpenSpec.ofChange fnSplitChanceWrong)

/- THE SECOND FORM. 'bulk': how many values and letters a reading holds, each counted each time it is reached (what is shared counts as often as it is met; a slice's spare places count too). A statement '..UptoSaid' is the law's where the arguments, and the package variables that the reading takes, are together of bulk at most 1048576: NARROWER than '..Said'. Prove '..Said' where nothing that the law and all that it calls make is longer than what came in: it says more and counts as full. Else prove '..UptoSaid'. A law counts once. -/
mutual
def uptoBulk {H : Type} : DataW H → Nat
  | .lit (.string bytes) => bytes.length + 1
  | .lit _ => 1
  | .nil => 1
  | .ptr d => uptoBulk d + 1
  | .slice elems spare => uptoBulkAll elems + uptoBulkAll spare + 1
  | .agg parts => uptoBulkAll parts + 1
  | .iface _ d => uptoBulk d + 1
  | .map entries => uptoBulkEntries entries + 1
  | .held _ => 1
def uptoBulkAll {H : Type} : List (DataW H) → Nat
  | [] => 0
  | d :: r => uptoBulk d + uptoBulkAll r
def uptoBulkEntries {H : Type} : List (Lit × DataW H) → Nat
  | [] => 0
  | x :: r => uptoBulkEntry x + uptoBulkEntries r
def uptoBulkEntry {H : Type} : Lit × DataW H → Nat
  | (.string bytes, d) => bytes.length + uptoBulk d + 1
  | (_, d) => uptoBulk d + 1
 end
def uptoSmall : (H : Type) → List (DataW H) → Bool := fun _ ds => decide (uptoBulkAll ds ≤ 1048576)
def OpenSpec.upto (s : _root_.Go.ChangeSpec) : _root_.Go.OpenSpec := { _root_.Go.OpenSpec.ofChange s with cond := some uptoSmall }

/-- 'laws.FnExactSignedRanks', WHERE WHAT IT READS IS OF BULK AT MOST 1048576: true; the input reads as it did. -/
def fnExactSignedRanksUptoRow : OpenClaim := { program := "ytipmakmidadalaa", sum := "d15e23e316d37086531d26fa0fe2552cb616ed79d25ba1f4682963d61bd8ccb8", func := "loop.example/countedchances/laws.FnExactSignedRanks", spec := "fnExactSignedRanks", unfollowed := true, recurses := true, apart := false, narrowed := true }
def FnExactSignedRanksUptoSaid : Prop := fnExactSignedRanksUptoRow.holds Try.pinned (OpenSpec.upto fnExactSignedRanksSpec)

/-- 'laws.FnAgreeOf', WHERE WHAT IT READS IS OF BULK AT MOST 1048576: true; the input reads as it did. -/
def fnAgreeOfUptoRow : OpenClaim := { program := "ytipmakmidadalaa", sum := "d15e23e316d37086531d26fa0fe2552cb616ed79d25ba1f4682963d61bd8ccb8", func := "loop.example/countedchances/laws.FnAgreeOf", spec := "fnAgreeOf", unfollowed := true, recurses := true, apart := false, narrowed := true }
def FnAgreeOfUptoSaid : Prop := fnAgreeOfUptoRow.holds Try.pinned (OpenSpec.upto fnAgreeOfSpec)

/-- 'laws.FnRanksOf', WHERE WHAT IT READS IS OF BULK AT MOST 1048576: true; the input reads as it did. -/
def fnRanksOfUptoRow : OpenClaim := { program := "ytipmakmidadalaa", sum := "d15e23e316d37086531d26fa0fe2552cb616ed79d25ba1f4682963d61bd8ccb8", func := "loop.example/countedchances/laws.FnRanksOf", spec := "fnRanksOf", unfollowed := true, recurses := true, apart := false, narrowed := true }
def FnRanksOfUptoSaid : Prop := fnRanksOfUptoRow.holds Try.pinned (OpenSpec.upto fnRanksOfSpec)

/-- 'laws.FnFlipChance', WHERE WHAT IT READS IS OF BULK AT MOST 1048576: true; the input reads as it did. -/
def fnFlipChanceUptoRow : OpenClaim := { program := "ytipmakmidadalaa", sum := "d15e23e316d37086531d26fa0fe2552cb616ed79d25ba1f4682963d61bd8ccb8", func := "loop.example/countedchances/laws.FnFlipChance", spec := "fnFlipChance", unfollowed := true, recurses := true, apart := false, narrowed := true }
def FnFlipChanceUptoSaid : Prop := fnFlipChanceUptoRow.holds Try.pinned (OpenSpec.upto fnFlipChanceSpec)

/-- 'laws.FnWinsOf', WHERE WHAT IT READS IS OF BULK AT MOST 1048576: true; the input reads as it did. -/
def fnWinsOfUptoRow : OpenClaim := { program := "ytipmakmidadalaa", sum := "d15e23e316d37086531d26fa0fe2552cb616ed79d25ba1f4682963d61bd8ccb8", func := "loop.example/countedchances/laws.FnWinsOf", spec := "fnWinsOf", unfollowed := true, recurses := true, apart := false, narrowed := true }
def FnWinsOfUptoSaid : Prop := fnWinsOfUptoRow.holds Try.pinned (OpenSpec.upto fnWinsOfSpec)

/-- 'laws.FnExactSplitChance', WHERE WHAT IT READS IS OF BULK AT MOST 1048576: true; the input reads as it did. -/
def fnExactSplitChanceUptoRow : OpenClaim := { program := "ytipmakmidadalaa", sum := "d15e23e316d37086531d26fa0fe2552cb616ed79d25ba1f4682963d61bd8ccb8", func := "loop.example/countedchances/laws.FnExactSplitChance", spec := "fnExactSplitChance", unfollowed := true, recurses := true, apart := false, narrowed := true }
def FnExactSplitChanceUptoSaid : Prop := fnExactSplitChanceUptoRow.holds Try.pinned (OpenSpec.upto fnExactSplitChanceSpec)

/-- 'laws.FnSignedRanks', WHERE WHAT IT READS IS OF BULK AT MOST 1048576: true; the input reads as it did. -/
def fnSignedRanksUptoRow : OpenClaim := { program := "ytipmakmidadalaa", sum := "d15e23e316d37086531d26fa0fe2552cb616ed79d25ba1f4682963d61bd8ccb8", func := "loop.example/countedchances/laws.FnSignedRanks", spec := "fnSignedRanks", unfollowed := true, recurses := true, apart := false, narrowed := true }
def FnSignedRanksUptoSaid : Prop := fnSignedRanksUptoRow.holds Try.pinned (OpenSpec.upto fnSignedRanksSpec)

/-- 'laws.FnRankGap', WHERE WHAT IT READS IS OF BULK AT MOST 1048576: true; the input reads as it did. -/
def fnRankGapUptoRow : OpenClaim := { program := "ytipmakmidadalaa", sum := "d15e23e316d37086531d26fa0fe2552cb616ed79d25ba1f4682963d61bd8ccb8", func := "loop.example/countedchances/laws.FnRankGap", spec := "fnRankGap", unfollowed := true, recurses := true, apart := false, narrowed := true }
def FnRankGapUptoSaid : Prop := fnRankGapUptoRow.holds Try.pinned (OpenSpec.upto fnRankGapSpec)

/-- 'laws.FnSplitChance', WHERE WHAT IT READS IS OF BULK AT MOST 1048576: true; the input reads as it did. -/
def fnSplitChanceUptoRow : OpenClaim := { program := "ytipmakmidadalaa", sum := "d15e23e316d37086531d26fa0fe2552cb616ed79d25ba1f4682963d61bd8ccb8", func := "loop.example/countedchances/laws.FnSplitChance", spec := "fnSplitChance", unfollowed := true, recurses := true, apart := false, narrowed := true }
def FnSplitChanceUptoSaid : Prop := fnSplitChanceUptoRow.holds Try.pinned (OpenSpec.upto fnSplitChanceSpec)

end Rows
end Go.Proofs.Ytipmakmidadalaa
