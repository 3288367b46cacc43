/-
  No cell of these rows narrows 'for every input' (looked for: loops, veiled, ifaces, maps, wideKeys, modest, calm, conditions, laid).
  DERIVED. THE GIVEN ROWS OF THIS SEAT. 5 by the template 'for every input the law returns true; each argument reads behind the call as it read before'; 0 by the template 'total and deterministic' (their statements: YtcmjmnlccempfaaTotals.lean).
  GIVEN WITH THE SEED: the statements are not yours to turn. If you find one false, say at which input.
  Laid BY PROGRAM, IN A SANDBOX (cutbox-rows.mjs): the forced cells as the released guide's own fill.sh prints them over the translation 22248abdc88f52b1… (all of the seat's roots in one cut). By AI agents, Wed Nov 11 2026. No macro, syntax, notation, axiom, sorry.
-/
import Derived.Test.YtcmjmnlccempfaaChecked
import GoSem.Claim
import GoSem.ClaimJoined
import GoSem.ClaimMapViews
import Derived.JoinedTies
import Derived.KernelRfl
namespace Go.Proofs.Ytcmjmnlccempfaa
/- THE CELL 'sum', in the pinned program and in every row, IS THE sha256 OF THE DUMP (.gsa) THAT YtcmjmnlccempfaaProg.lean LOADS. Nothing in Lean hashes anything: it is a label: what it is worth is what the hold of that sum in a sandbox is worth. -/
noncomputable def Try.pinned : Pinned := { name := "ytcmjmnlccempfaa", sum := "22248abdc88f52b1894dcc2356a607d1d8d2b29afca36aabac848aca946272a5", checked := Try.checked }
namespace Rows
def none {H : Type} : Left H := { results := [], args := [] }

/-- 'laws.FnExactPartingLine': WHATEVER THE INPUT: true; the input reads as it did. -/
def fnExactPartingLineSpec : ChangeSpec := { name := "fnExactPartingLine", fn := fun _ => fun
  | [d1, d2, d3] => { results := [.lit (.bool true)], args := [d1, d2, d3] }
  | _ => none }
def fnExactPartingLineRow : OpenClaim := { program := "ytcmjmnlccempfaa", sum := "22248abdc88f52b1894dcc2356a607d1d8d2b29afca36aabac848aca946272a5", func := "loop.example/countedchances/laws.FnExactPartingLine", spec := "fnExactPartingLine", unfollowed := true, recurses := true, apart := false }
def FnExactPartingLineSaid : Prop := fnExactPartingLineRow.holds Try.pinned (OpenSpec.ofChange fnExactPartingLineSpec)

/-- ITS FALSE NEIGHBOUR: 'it returns false'. Refute it at one input. -/
def fnExactPartingLineWrong : ChangeSpec := { name := "fnExactPartingLine", fn := fun _ => fun
  | [d1, d2, d3] => { results := [.lit (.bool false)], args := [d1, d2, d3] }
  | _ => none }
def FnExactPartingLineWrongFalsely : Prop := fnExactPartingLineRow.holds Try.pinned (OpenSpec.ofChange fnExactPartingLineWrong)

/-- 'laws.FnExactGapOf': WHATEVER THE INPUT: true; the input reads as it did. -/
def fnExactGapOfSpec : ChangeSpec := { name := "fnExactGapOf", fn := fun _ => fun
  | [d1, d2] => { results := [.lit (.bool true)], args := [d1, d2] }
  | _ => none }
def fnExactGapOfRow : OpenClaim := { program := "ytcmjmnlccempfaa", sum := "22248abdc88f52b1894dcc2356a607d1d8d2b29afca36aabac848aca946272a5", func := "loop.example/countedchances/laws.FnExactGapOf", spec := "fnExactGapOf", unfollowed := true, recurses := true, apart := false }
def FnExactGapOfSaid : Prop := fnExactGapOfRow.holds Try.pinned (OpenSpec.ofChange fnExactGapOfSpec)

/-- ITS FALSE NEIGHBOUR: 'it returns false'. Refute it at one input. -/
def fnExactGapOfWrong : ChangeSpec := { name := "fnExactGapOf", fn := fun _ => fun
  | [d1, d2] => { results := [.lit (.bool false)], args := [d1, d2] }
  | _ => none }
def FnExactGapOfWrongFalsely : Prop := fnExactGapOfRow.holds Try.pinned (OpenSpec.ofChange fnExactGapOfWrong)

/-- 'laws.FnPartingLine': WHATEVER THE INPUT: true; the input reads as it did. -/
def fnPartingLineSpec : ChangeSpec := { name := "fnPartingLine", fn := fun _ => fun
  | [d] => { results := [.lit (.bool true)], args := [d] }
  | _ => none }
def fnPartingLineRow : OpenClaim := { program := "ytcmjmnlccempfaa", sum := "22248abdc88f52b1894dcc2356a607d1d8d2b29afca36aabac848aca946272a5", func := "loop.example/countedchances/laws.FnPartingLine", spec := "fnPartingLine", unfollowed := true, recurses := true, apart := false }
def FnPartingLineSaid : Prop := fnPartingLineRow.holds Try.pinned (OpenSpec.ofChange fnPartingLineSpec)

/-- ITS FALSE NEIGHBOUR: 'it returns false'. Refute it at one input. -/
def fnPartingLineWrong : ChangeSpec := { name := "fnPartingLine", fn := fun _ => fun
  | [d] => { results := [.lit (.bool false)], args := [d] }
  | _ => none }
def FnPartingLineWrongFalsely : Prop := fnPartingLineRow.holds Try.pinned (OpenSpec.ofChange fnPartingLineWrong)

/-- 'laws.FnExactAreaByPairs': WHATEVER THE INPUT: true; the input reads as it did. -/
def fnExactAreaByPairsSpec : ChangeSpec := { name := "fnExactAreaByPairs", fn := fun _ => fun
  | [d1, d2] => { results := [.lit (.bool true)], args := [d1, d2] }
  | _ => none }
def fnExactAreaByPairsRow : OpenClaim := { program := "ytcmjmnlccempfaa", sum := "22248abdc88f52b1894dcc2356a607d1d8d2b29afca36aabac848aca946272a5", func := "loop.example/countedchances/laws.FnExactAreaByPairs", spec := "fnExactAreaByPairs", unfollowed := true, recurses := true, apart := false }
def FnExactAreaByPairsSaid : Prop := fnExactAreaByPairsRow.holds Try.pinned (OpenSpec.ofChange fnExactAreaByPairsSpec)

/-- ITS FALSE NEIGHBOUR: 'it returns false'. Refute it at one input. -/
def fnExactAreaByPairsWrong : ChangeSpec := { name := "fnExactAreaByPairs", fn := fun _ => fun
  | [d1, d2] => { results := [.lit (.bool false)], args := [d1, d2] }
  | _ => none }
def FnExactAreaByPairsWrongFalsely : Prop := fnExactAreaByPairsRow.holds Try.pinned (OpenSpec.ofChange fnExactAreaByPairsWrong)

/-- 'laws.FnGapOf': WHATEVER THE INPUT: true; the input reads as it did. -/
def fnGapOfSpec : ChangeSpec := { name := "fnGapOf", fn := fun _ => fun
  | [d] => { results := [.lit (.bool true)], args := [d] }
  | _ => none }
def fnGapOfRow : OpenClaim := { program := "ytcmjmnlccempfaa", sum := "22248abdc88f52b1894dcc2356a607d1d8d2b29afca36aabac848aca946272a5", func := "loop.example/countedchances/laws.FnGapOf", spec := "fnGapOf", unfollowed := true, recurses := true, apart := false }
def FnGapOfSaid : Prop := fnGapOfRow.holds Try.pinned (OpenSpec.ofChange fnGapOfSpec)

/-- ITS FALSE NEIGHBOUR: 'it returns false'. Refute it at one input. -/
def fnGapOfWrong : ChangeSpec := { name := "fnGapOf", fn := fun _ => fun
  | [d] => { results := [.lit (.bool false)], args := [d] }
  | _ => none }
def FnGapOfWrongFalsely : Prop := fnGapOfRow.holds Try.pinned (OpenSpec.ofChange fnGapOfWrong)

/- THE SECOND FORM. 'bulk': how many values and letters a reading holds, each counted each time it is reached (what is shared counts as often as it is met; a slice's spare places count too). A statement '..UptoSaid' is the law's where the arguments, and the package variables that the reading takes, are together of bulk at most 1048576: NARROWER than '..Said'. Prove '..Said' where nothing that the law and all that it calls make is longer than what came in: it says more and counts as full. Else prove '..UptoSaid'. A law counts once. -/
mutual
def uptoBulk {H : Type} : DataW H → Nat
  | .lit (.string bytes) => bytes.length + 1
  | .lit _ => 1
  | .nil => 1
  | .ptr d => uptoBulk d + 1
  | .slice elems spare => uptoBulkAll elems + uptoBulkAll spare + 1
  | .agg parts => uptoBulkAll parts + 1
  | .iface _ d => uptoBulk d + 1
  | .map entries => uptoBulkEntries entries + 1
  | .held _ => 1
def uptoBulkAll {H : Type} : List (DataW H) → Nat
  | [] => 0
  | d :: r => uptoBulk d + uptoBulkAll r
def uptoBulkEntries {H : Type} : List (Lit × DataW H) → Nat
  | [] => 0
  | x :: r => uptoBulkEntry x + uptoBulkEntries r
def uptoBulkEntry {H : Type} : Lit × DataW H → Nat
  | (.string bytes, d) => bytes.length + uptoBulk d + 1
  | (_, d) => uptoBulk d + 1
 end
def uptoSmall : (H : Type) → List (DataW H) → Bool := fun _ ds => decide (uptoBulkAll ds ≤ 1048576)
def OpenSpec.upto (s : _root_.Go.ChangeSpec) : _root_.Go.OpenSpec := { _root_.Go.OpenSpec.ofChange s with cond := some uptoSmall }

/-- 'laws.FnExactPartingLine', WHERE WHAT IT READS IS OF BULK AT MOST 1048576: true; the input reads as it did. -/
def fnExactPartingLineUptoRow : OpenClaim := { program := "ytcmjmnlccempfaa", sum := "22248abdc88f52b1894dcc2356a607d1d8d2b29afca36aabac848aca946272a5", func := "loop.example/countedchances/laws.FnExactPartingLine", spec := "fnExactPartingLine", unfollowed := true, recurses := true, apart := false, narrowed := true }
def FnExactPartingLineUptoSaid : Prop := fnExactPartingLineUptoRow.holds Try.pinned (OpenSpec.upto fnExactPartingLineSpec)

/-- 'laws.FnExactGapOf', WHERE WHAT IT READS IS OF BULK AT MOST 1048576: true; the input reads as it did. -/
def fnExactGapOfUptoRow : OpenClaim := { program := "ytcmjmnlccempfaa", sum := "22248abdc88f52b1894dcc2356a607d1d8d2b29afca36aabac848aca946272a5", func := "loop.example/countedchances/laws.FnExactGapOf", spec := "fnExactGapOf", unfollowed := true, recurses := true, apart := false, narrowed := true }
def FnExactGapOfUptoSaid : Prop := fnExactGapOfUptoRow.holds Try.pinned (OpenSpec.upto fnExactGapOfSpec)

/-- 'laws.FnPartingLine', WHERE WHAT IT READS IS OF BULK AT MOST 1048576: true; the input reads as it did. -/
def fnPartingLineUptoRow : OpenClaim := { program := "ytcmjmnlccempfaa", sum := "22248abdc88f52b1894dcc2356a607d1d8d2b29afca36aabac848aca946272a5", func := "loop.example/countedchances/laws.FnPartingLine", spec := "fnPartingLine", unfollowed := true, recurses := true, apart := false, narrowed := true }
def FnPartingLineUptoSaid : Prop := fnPartingLineUptoRow.holds Try.pinned (OpenSpec.upto fnPartingLineSpec)

/-- 'laws.FnExactAreaByPairs', WHERE WHAT IT READS IS OF BULK AT MOST 1048576: true; the input reads as it did. -/
def fnExactAreaByPairsUptoRow : OpenClaim := { program := "ytcmjmnlccempfaa", sum := "22248abdc88f52b1894dcc2356a607d1d8d2b29afca36aabac848aca946272a5", func := "loop.example/countedchances/laws.FnExactAreaByPairs", spec := "fnExactAreaByPairs", unfollowed := true, recurses := true, apart := false, narrowed := true }
def FnExactAreaByPairsUptoSaid : Prop := fnExactAreaByPairsUptoRow.holds Try.pinned (OpenSpec.upto fnExactAreaByPairsSpec)

/-- 'laws.FnGapOf', WHERE WHAT IT READS IS OF BULK AT MOST 1048576: true; the input reads as it did. -/
def fnGapOfUptoRow : OpenClaim := { program := "ytcmjmnlccempfaa", sum := "22248abdc88f52b1894dcc2356a607d1d8d2b29afca36aabac848aca946272a5", func := "loop.example/countedchances/laws.FnGapOf", spec := "fnGapOf", unfollowed := true, recurses := true, apart := false, narrowed := true }
def FnGapOfUptoSaid : Prop := fnGapOfUptoRow.holds Try.pinned (OpenSpec.upto fnGapOfSpec)

end Rows
end Go.Proofs.Ytcmjmnlccempfaa
