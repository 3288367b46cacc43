/-
  No cell of these rows narrows 'for every input' (looked for: loops, veiled, ifaces, maps, wideKeys, modest, calm, conditions, laid).
  DERIVED. THE GIVEN ROWS OF THIS SEAT. 9 by the template 'for every input the law returns true; each argument reads behind the call as it read before'; 0 by the template 'total and deterministic' (their statements: YtgclgcfhcomplaaTotals.lean).
  GIVEN WITH THE SEED: the statements are not yours to turn. If you find one false, say at which input.
  Laid BY PROGRAM, IN A SANDBOX (cutbox-rows.mjs): the forced cells as the released guide's own fill.sh prints them over the translation c38e8cb18ce53218… (all of the seat's roots in one cut). By AI agents, Wed Nov 11 2026. No macro, syntax, notation, axiom, sorry.
-/
import Derived.Test.YtgclgcfhcomplaaChecked
import GoSem.Claim
import GoSem.ClaimJoined
import GoSem.ClaimMapViews
import Derived.JoinedTies
import Derived.KernelRfl
namespace Go.Proofs.Ytgclgcfhcomplaa
/- THE CELL 'sum', in the pinned program and in every row, IS THE sha256 OF THE DUMP (.gsa) THAT YtgclgcfhcomplaaProg.lean LOADS. Nothing in Lean hashes anything: it is a label: what it is worth is what the hold of that sum in a sandbox is worth. -/
noncomputable def Try.pinned : Pinned := { name := "ytgclgcfhcomplaa", sum := "c38e8cb18ce53218750607148cc00bb013ae9752fc7c628eb6f7cdcfc22b1be4", checked := Try.checked }
namespace Rows
def none {H : Type} : Left H := { results := [], args := [] }

/-- 'laws.FnFoursLike': WHATEVER THE INPUT: true; the input reads as it did. -/
def fnFoursLikeSpec : ChangeSpec := { name := "fnFoursLike", fn := fun _ => fun
  | [d] => { results := [.lit (.bool true)], args := [d] }
  | _ => none }
def fnFoursLikeRow : OpenClaim := { program := "ytgclgcfhcomplaa", sum := "c38e8cb18ce53218750607148cc00bb013ae9752fc7c628eb6f7cdcfc22b1be4", func := "loop.example/countedchances/laws.FnFoursLike", spec := "fnFoursLike", unfollowed := true, recurses := true, apart := false }
def FnFoursLikeSaid : Prop := fnFoursLikeRow.holds Try.pinned (OpenSpec.ofChange fnFoursLikeSpec)

/-- ITS FALSE NEIGHBOUR: 'it returns false'. Refute it at one input. -/
def fnFoursLikeWrong : ChangeSpec := { name := "fnFoursLike", fn := fun _ => fun
  | [d] => { results := [.lit (.bool false)], args := [d] }
  | _ => none }
def FnFoursLikeWrongFalsely : Prop := fnFoursLikeRow.holds Try.pinned (OpenSpec.ofChange fnFoursLikeWrong)

/-- 'laws.FnMiddlePlaces': WHATEVER THE INPUT: true; the input reads as it did. -/
def fnMiddlePlacesSpec : ChangeSpec := { name := "fnMiddlePlaces", fn := fun _ => fun
  | [d] => { results := [.lit (.bool true)], args := [d] }
  | _ => none }
def fnMiddlePlacesRow : OpenClaim := { program := "ytgclgcfhcomplaa", sum := "c38e8cb18ce53218750607148cc00bb013ae9752fc7c628eb6f7cdcfc22b1be4", func := "loop.example/countedchances/laws.FnMiddlePlaces", spec := "fnMiddlePlaces", unfollowed := true, recurses := true, apart := false }
def FnMiddlePlacesSaid : Prop := fnMiddlePlacesRow.holds Try.pinned (OpenSpec.ofChange fnMiddlePlacesSpec)

/-- ITS FALSE NEIGHBOUR: 'it returns false'. Refute it at one input. -/
def fnMiddlePlacesWrong : ChangeSpec := { name := "fnMiddlePlaces", fn := fun _ => fun
  | [d] => { results := [.lit (.bool false)], args := [d] }
  | _ => none }
def FnMiddlePlacesWrongFalsely : Prop := fnMiddlePlacesRow.holds Try.pinned (OpenSpec.ofChange fnMiddlePlacesWrong)

/-- 'laws.FnLowBound': WHATEVER THE INPUT: true; the input reads as it did. -/
def fnLowBoundSpec : ChangeSpec := { name := "fnLowBound", fn := fun _ => fun
  | [d] => { results := [.lit (.bool true)], args := [d] }
  | _ => none }
def fnLowBoundRow : OpenClaim := { program := "ytgclgcfhcomplaa", sum := "c38e8cb18ce53218750607148cc00bb013ae9752fc7c628eb6f7cdcfc22b1be4", func := "loop.example/countedchances/laws.FnLowBound", spec := "fnLowBound", unfollowed := true, recurses := true, apart := false }
def FnLowBoundSaid : Prop := fnLowBoundRow.holds Try.pinned (OpenSpec.ofChange fnLowBoundSpec)

/-- ITS FALSE NEIGHBOUR: 'it returns false'. Refute it at one input. -/
def fnLowBoundWrong : ChangeSpec := { name := "fnLowBound", fn := fun _ => fun
  | [d] => { results := [.lit (.bool false)], args := [d] }
  | _ => none }
def FnLowBoundWrongFalsely : Prop := fnLowBoundRow.holds Try.pinned (OpenSpec.ofChange fnLowBoundWrong)

/-- 'laws.FnExactTwoSides': WHATEVER THE INPUT: true; the input reads as it did. -/
def fnExactTwoSidesSpec : ChangeSpec := { name := "fnExactTwoSides", fn := fun _ => fun
  | [d1, d2, d3, d4] => { results := [.lit (.bool true)], args := [d1, d2, d3, d4] }
  | _ => none }
def fnExactTwoSidesRow : OpenClaim := { program := "ytgclgcfhcomplaa", sum := "c38e8cb18ce53218750607148cc00bb013ae9752fc7c628eb6f7cdcfc22b1be4", func := "loop.example/countedchances/laws.FnExactTwoSides", spec := "fnExactTwoSides", unfollowed := true, recurses := true, apart := false }
def FnExactTwoSidesSaid : Prop := fnExactTwoSidesRow.holds Try.pinned (OpenSpec.ofChange fnExactTwoSidesSpec)

/-- ITS FALSE NEIGHBOUR: 'it returns false'. Refute it at one input. -/
def fnExactTwoSidesWrong : ChangeSpec := { name := "fnExactTwoSides", fn := fun _ => fun
  | [d1, d2, d3, d4] => { results := [.lit (.bool false)], args := [d1, d2, d3, d4] }
  | _ => none }
def FnExactTwoSidesWrongFalsely : Prop := fnExactTwoSidesRow.holds Try.pinned (OpenSpec.ofChange fnExactTwoSidesWrong)

/-- 'laws.FnHighBound': WHATEVER THE INPUT: true; the input reads as it did. -/
def fnHighBoundSpec : ChangeSpec := { name := "fnHighBound", fn := fun _ => fun
  | [d] => { results := [.lit (.bool true)], args := [d] }
  | _ => none }
def fnHighBoundRow : OpenClaim := { program := "ytgclgcfhcomplaa", sum := "c38e8cb18ce53218750607148cc00bb013ae9752fc7c628eb6f7cdcfc22b1be4", func := "loop.example/countedchances/laws.FnHighBound", spec := "fnHighBound", unfollowed := true, recurses := true, apart := false }
def FnHighBoundSaid : Prop := fnHighBoundRow.holds Try.pinned (OpenSpec.ofChange fnHighBoundSpec)

/-- ITS FALSE NEIGHBOUR: 'it returns false'. Refute it at one input. -/
def fnHighBoundWrong : ChangeSpec := { name := "fnHighBound", fn := fun _ => fun
  | [d] => { results := [.lit (.bool false)], args := [d] }
  | _ => none }
def FnHighBoundWrongFalsely : Prop := fnHighBoundRow.holds Try.pinned (OpenSpec.ofChange fnHighBoundWrong)

/-- 'laws.FnFourBoth': WHATEVER THE INPUT: true; the input reads as it did. -/
def fnFourBothSpec : ChangeSpec := { name := "fnFourBoth", fn := fun _ => fun
  | [d] => { results := [.lit (.bool true)], args := [d] }
  | _ => none }
def fnFourBothRow : OpenClaim := { program := "ytgclgcfhcomplaa", sum := "c38e8cb18ce53218750607148cc00bb013ae9752fc7c628eb6f7cdcfc22b1be4", func := "loop.example/countedchances/laws.FnFourBoth", spec := "fnFourBoth", unfollowed := true, recurses := true, apart := false }
def FnFourBothSaid : Prop := fnFourBothRow.holds Try.pinned (OpenSpec.ofChange fnFourBothSpec)

/-- ITS FALSE NEIGHBOUR: 'it returns false'. Refute it at one input. -/
def fnFourBothWrong : ChangeSpec := { name := "fnFourBoth", fn := fun _ => fun
  | [d] => { results := [.lit (.bool false)], args := [d] }
  | _ => none }
def FnFourBothWrongFalsely : Prop := fnFourBothRow.holds Try.pinned (OpenSpec.ofChange fnFourBothWrong)

/-- 'laws.FnTwoSides': WHATEVER THE INPUT: true; the input reads as it did. -/
def fnTwoSidesSpec : ChangeSpec := { name := "fnTwoSides", fn := fun _ => fun
  | [d] => { results := [.lit (.bool true)], args := [d] }
  | _ => none }
def fnTwoSidesRow : OpenClaim := { program := "ytgclgcfhcomplaa", sum := "c38e8cb18ce53218750607148cc00bb013ae9752fc7c628eb6f7cdcfc22b1be4", func := "loop.example/countedchances/laws.FnTwoSides", spec := "fnTwoSides", unfollowed := true, recurses := true, apart := false }
def FnTwoSidesSaid : Prop := fnTwoSidesRow.holds Try.pinned (OpenSpec.ofChange fnTwoSidesSpec)

/-- ITS FALSE NEIGHBOUR: 'it returns false'. Refute it at one input. -/
def fnTwoSidesWrong : ChangeSpec := { name := "fnTwoSides", fn := fun _ => fun
  | [d] => { results := [.lit (.bool false)], args := [d] }
  | _ => none }
def FnTwoSidesWrongFalsely : Prop := fnTwoSidesRow.holds Try.pinned (OpenSpec.ofChange fnTwoSidesWrong)

/-- 'laws.FnFourChance': WHATEVER THE INPUT: true; the input reads as it did. -/
def fnFourChanceSpec : ChangeSpec := { name := "fnFourChance", fn := fun _ => fun
  | [d] => { results := [.lit (.bool true)], args := [d] }
  | _ => none }
def fnFourChanceRow : OpenClaim := { program := "ytgclgcfhcomplaa", sum := "c38e8cb18ce53218750607148cc00bb013ae9752fc7c628eb6f7cdcfc22b1be4", func := "loop.example/countedchances/laws.FnFourChance", spec := "fnFourChance", unfollowed := true, recurses := true, apart := false }
def FnFourChanceSaid : Prop := fnFourChanceRow.holds Try.pinned (OpenSpec.ofChange fnFourChanceSpec)

/-- ITS FALSE NEIGHBOUR: 'it returns false'. Refute it at one input. -/
def fnFourChanceWrong : ChangeSpec := { name := "fnFourChance", fn := fun _ => fun
  | [d] => { results := [.lit (.bool false)], args := [d] }
  | _ => none }
def FnFourChanceWrongFalsely : Prop := fnFourChanceRow.holds Try.pinned (OpenSpec.ofChange fnFourChanceWrong)

/-- 'laws.FnExactTablesWith': WHATEVER THE INPUT: true; the input reads as it did. -/
def fnExactTablesWithSpec : ChangeSpec := { name := "fnExactTablesWith", fn := fun _ => fun
  | [d1, d2] => { results := [.lit (.bool true)], args := [d1, d2] }
  | _ => none }
def fnExactTablesWithRow : OpenClaim := { program := "ytgclgcfhcomplaa", sum := "c38e8cb18ce53218750607148cc00bb013ae9752fc7c628eb6f7cdcfc22b1be4", func := "loop.example/countedchances/laws.FnExactTablesWith", spec := "fnExactTablesWith", unfollowed := true, recurses := true, apart := false }
def FnExactTablesWithSaid : Prop := fnExactTablesWithRow.holds Try.pinned (OpenSpec.ofChange fnExactTablesWithSpec)

/-- ITS FALSE NEIGHBOUR: 'it returns false'. Refute it at one input. -/
def fnExactTablesWithWrong : ChangeSpec := { name := "fnExactTablesWith", fn := fun _ => fun
  | [d1, d2] => { results := [.lit (.bool false)], args := [d1, d2] }
  | _ => none }
def FnExactTablesWithWrongFalsely : Prop := fnExactTablesWithRow.holds Try.pinned (OpenSpec.ofChange fnExactTablesWithWrong)

/- THE SECOND FORM. 'bulk': how many values and letters a reading holds, each counted each time it is reached (what is shared counts as often as it is met; a slice's spare places count too). A statement '..UptoSaid' is the law's where the arguments, and the package variables that the reading takes, are together of bulk at most 1048576: NARROWER than '..Said'. Prove '..Said' where nothing that the law and all that it calls make is longer than what came in: it says more and counts as full. Else prove '..UptoSaid'. A law counts once. -/
mutual
def uptoBulk {H : Type} : DataW H → Nat
  | .lit (.string bytes) => bytes.length + 1
  | .lit _ => 1
  | .nil => 1
  | .ptr d => uptoBulk d + 1
  | .slice elems spare => uptoBulkAll elems + uptoBulkAll spare + 1
  | .agg parts => uptoBulkAll parts + 1
  | .iface _ d => uptoBulk d + 1
  | .map entries => uptoBulkEntries entries + 1
  | .held _ => 1
def uptoBulkAll {H : Type} : List (DataW H) → Nat
  | [] => 0
  | d :: r => uptoBulk d + uptoBulkAll r
def uptoBulkEntries {H : Type} : List (Lit × DataW H) → Nat
  | [] => 0
  | x :: r => uptoBulkEntry x + uptoBulkEntries r
def uptoBulkEntry {H : Type} : Lit × DataW H → Nat
  | (.string bytes, d) => bytes.length + uptoBulk d + 1
  | (_, d) => uptoBulk d + 1
 end
def uptoSmall : (H : Type) → List (DataW H) → Bool := fun _ ds => decide (uptoBulkAll ds ≤ 1048576)
def OpenSpec.upto (s : _root_.Go.ChangeSpec) : _root_.Go.OpenSpec := { _root_.Go.OpenSpec.ofChange s with cond := some uptoSmall }

/-- 'laws.FnFoursLike', WHERE WHAT IT READS IS OF BULK AT MOST 1048576: true; the input reads as it did. -/
def fnFoursLikeUptoRow : OpenClaim := { program := "ytgclgcfhcomplaa", sum := "c38e8cb18ce53218750607148cc00bb013ae9752fc7c628eb6f7cdcfc22b1be4", func := "loop.example/countedchances/laws.FnFoursLike", spec := "fnFoursLike", unfollowed := true, recurses := true, apart := false, narrowed := true }
def FnFoursLikeUptoSaid : Prop := fnFoursLikeUptoRow.holds Try.pinned (OpenSpec.upto fnFoursLikeSpec)

/-- 'laws.FnMiddlePlaces', WHERE WHAT IT READS IS OF BULK AT MOST 1048576: true; the input reads as it did. -/
def fnMiddlePlacesUptoRow : OpenClaim := { program := "ytgclgcfhcomplaa", sum := "c38e8cb18ce53218750607148cc00bb013ae9752fc7c628eb6f7cdcfc22b1be4", func := "loop.example/countedchances/laws.FnMiddlePlaces", spec := "fnMiddlePlaces", unfollowed := true, recurses := true, apart := false, narrowed := true }
def FnMiddlePlacesUptoSaid : Prop := fnMiddlePlacesUptoRow.holds Try.pinned (OpenSpec.upto fnMiddlePlacesSpec)

/-- 'laws.FnLowBound', WHERE WHAT IT READS IS OF BULK AT MOST 1048576: true; the input reads as it did. -/
def fnLowBoundUptoRow : OpenClaim := { program := "ytgclgcfhcomplaa", sum := "c38e8cb18ce53218750607148cc00bb013ae9752fc7c628eb6f7cdcfc22b1be4", func := "loop.example/countedchances/laws.FnLowBound", spec := "fnLowBound", unfollowed := true, recurses := true, apart := false, narrowed := true }
def FnLowBoundUptoSaid : Prop := fnLowBoundUptoRow.holds Try.pinned (OpenSpec.upto fnLowBoundSpec)

/-- 'laws.FnExactTwoSides', WHERE WHAT IT READS IS OF BULK AT MOST 1048576: true; the input reads as it did. -/
def fnExactTwoSidesUptoRow : OpenClaim := { program := "ytgclgcfhcomplaa", sum := "c38e8cb18ce53218750607148cc00bb013ae9752fc7c628eb6f7cdcfc22b1be4", func := "loop.example/countedchances/laws.FnExactTwoSides", spec := "fnExactTwoSides", unfollowed := true, recurses := true, apart := false, narrowed := true }
def FnExactTwoSidesUptoSaid : Prop := fnExactTwoSidesUptoRow.holds Try.pinned (OpenSpec.upto fnExactTwoSidesSpec)

/-- 'laws.FnHighBound', WHERE WHAT IT READS IS OF BULK AT MOST 1048576: true; the input reads as it did. -/
def fnHighBoundUptoRow : OpenClaim := { program := "ytgclgcfhcomplaa", sum := "c38e8cb18ce53218750607148cc00bb013ae9752fc7c628eb6f7cdcfc22b1be4", func := "loop.example/countedchances/laws.FnHighBound", spec := "fnHighBound", unfollowed := true, recurses := true, apart := false, narrowed := true }
def FnHighBoundUptoSaid : Prop := fnHighBoundUptoRow.holds Try.pinned (OpenSpec.upto fnHighBoundSpec)

/-- 'laws.FnFourBoth', WHERE WHAT IT READS IS OF BULK AT MOST 1048576: true; the input reads as it did. -/
def fnFourBothUptoRow : OpenClaim := { program := "ytgclgcfhcomplaa", sum := "c38e8cb18ce53218750607148cc00bb013ae9752fc7c628eb6f7cdcfc22b1be4", func := "loop.example/countedchances/laws.FnFourBoth", spec := "fnFourBoth", unfollowed := true, recurses := true, apart := false, narrowed := true }
def FnFourBothUptoSaid : Prop := fnFourBothUptoRow.holds Try.pinned (OpenSpec.upto fnFourBothSpec)

/-- 'laws.FnTwoSides', WHERE WHAT IT READS IS OF BULK AT MOST 1048576: true; the input reads as it did. -/
def fnTwoSidesUptoRow : OpenClaim := { program := "ytgclgcfhcomplaa", sum := "c38e8cb18ce53218750607148cc00bb013ae9752fc7c628eb6f7cdcfc22b1be4", func := "loop.example/countedchances/laws.FnTwoSides", spec := "fnTwoSides", unfollowed := true, recurses := true, apart := false, narrowed := true }
def FnTwoSidesUptoSaid : Prop := fnTwoSidesUptoRow.holds Try.pinned (OpenSpec.upto fnTwoSidesSpec)

/-- 'laws.FnFourChance', WHERE WHAT IT READS IS OF BULK AT MOST 1048576: true; the input reads as it did. -/
def fnFourChanceUptoRow : OpenClaim := { program := "ytgclgcfhcomplaa", sum := "c38e8cb18ce53218750607148cc00bb013ae9752fc7c628eb6f7cdcfc22b1be4", func := "loop.example/countedchances/laws.FnFourChance", spec := "fnFourChance", unfollowed := true, recurses := true, apart := false, narrowed := true }
def FnFourChanceUptoSaid : Prop := fnFourChanceUptoRow.holds Try.pinned (OpenSpec.upto fnFourChanceSpec)

/-- 'laws.FnExactTablesWith', WHERE WHAT IT READS IS OF BULK AT MOST 1048576: true; the input reads as it did. -/
def fnExactTablesWithUptoRow : OpenClaim := { program := "ytgclgcfhcomplaa", sum := "c38e8cb18ce53218750607148cc00bb013ae9752fc7c628eb6f7cdcfc22b1be4", func := "loop.example/countedchances/laws.FnExactTablesWith", spec := "fnExactTablesWith", unfollowed := true, recurses := true, apart := false, narrowed := true }
def FnExactTablesWithUptoSaid : Prop := fnExactTablesWithUptoRow.holds Try.pinned (OpenSpec.upto fnExactTablesWithSpec)

end Rows
end Go.Proofs.Ytgclgcfhcomplaa
