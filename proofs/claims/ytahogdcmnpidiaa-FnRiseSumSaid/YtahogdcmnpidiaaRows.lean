/-
  No cell of these rows narrows 'for every input' (looked for: loops, veiled, ifaces, maps, wideKeys, modest, calm, conditions, laid).
  DERIVED. THE GIVEN ROWS OF THIS SEAT. 8 by the template 'for every input the law returns true; each argument reads behind the call as it read before'; 0 by the template 'total and deterministic' (their statements: YtahogdcmnpidiaaTotals.lean).
  GIVEN WITH THE SEED: the statements are not yours to turn. If you find one false, say at which input.
  Laid BY PROGRAM, IN A SANDBOX (cutbox-rows.mjs): the forced cells as the released guide's own fill.sh prints them over the translation 2846e0299b0f1773… (all of the seat's roots in one cut). By AI agents, Wed Nov 11 2026. No macro, syntax, notation, axiom, sorry.
-/
import Derived.Test.YtahogdcmnpidiaaChecked
import GoSem.Claim
import GoSem.ClaimJoined
import GoSem.ClaimMapViews
import Derived.JoinedTies
import Derived.KernelRfl
namespace Go.Proofs.Ytahogdcmnpidiaa
/- THE CELL 'sum', in the pinned program and in every row, IS THE sha256 OF THE DUMP (.gsa) THAT YtahogdcmnpidiaaProg.lean LOADS. Nothing in Lean hashes anything: it is a label: what it is worth is what the hold of that sum in a sandbox is worth. -/
noncomputable def Try.pinned : Pinned := { name := "ytahogdcmnpidiaa", sum := "2846e0299b0f177396962920fb3b71b672ebe85dfd551b09fc7febc47fb6ffa7", checked := Try.checked }
namespace Rows
def none {H : Type} : Left H := { results := [], args := [] }

/-- 'laws.FnExactRiseByHull': WHATEVER THE INPUT: true; the input reads as it did. -/
def fnExactRiseByHullSpec : ChangeSpec := { name := "fnExactRiseByHull", fn := fun _ => fun
  | [d1, d2] => { results := [.lit (.bool true)], args := [d1, d2] }
  | _ => none }
def fnExactRiseByHullRow : OpenClaim := { program := "ytahogdcmnpidiaa", sum := "2846e0299b0f177396962920fb3b71b672ebe85dfd551b09fc7febc47fb6ffa7", func := "loop.example/countedchances/laws.FnExactRiseByHull", spec := "fnExactRiseByHull", unfollowed := true, recurses := true, apart := false }
def FnExactRiseByHullSaid : Prop := fnExactRiseByHullRow.holds Try.pinned (OpenSpec.ofChange fnExactRiseByHullSpec)

/-- ITS FALSE NEIGHBOUR: 'it returns false'. Refute it at one input. -/
def fnExactRiseByHullWrong : ChangeSpec := { name := "fnExactRiseByHull", fn := fun _ => fun
  | [d1, d2] => { results := [.lit (.bool false)], args := [d1, d2] }
  | _ => none }
def FnExactRiseByHullWrongFalsely : Prop := fnExactRiseByHullRow.holds Try.pinned (OpenSpec.ofChange fnExactRiseByHullWrong)

/-- 'laws.FnExactCurveAt': WHATEVER THE INPUT: true; the input reads as it did. -/
def fnExactCurveAtSpec : ChangeSpec := { name := "fnExactCurveAt", fn := fun _ => fun
  | [d1, d2, d3] => { results := [.lit (.bool true)], args := [d1, d2, d3] }
  | _ => none }
def fnExactCurveAtRow : OpenClaim := { program := "ytahogdcmnpidiaa", sum := "2846e0299b0f177396962920fb3b71b672ebe85dfd551b09fc7febc47fb6ffa7", func := "loop.example/countedchances/laws.FnExactCurveAt", spec := "fnExactCurveAt", unfollowed := true, recurses := true, apart := false }
def FnExactCurveAtSaid : Prop := fnExactCurveAtRow.holds Try.pinned (OpenSpec.ofChange fnExactCurveAtSpec)

/-- ITS FALSE NEIGHBOUR: 'it returns false'. Refute it at one input. -/
def fnExactCurveAtWrong : ChangeSpec := { name := "fnExactCurveAt", fn := fun _ => fun
  | [d1, d2, d3] => { results := [.lit (.bool false)], args := [d1, d2, d3] }
  | _ => none }
def FnExactCurveAtWrongFalsely : Prop := fnExactCurveAtRow.holds Try.pinned (OpenSpec.ofChange fnExactCurveAtWrong)

/-- 'laws.FnValidCloud': WHATEVER THE INPUT: true; the input reads as it did. -/
def fnValidCloudSpec : ChangeSpec := { name := "fnValidCloud", fn := fun _ => fun
  | [d] => { results := [.lit (.bool true)], args := [d] }
  | _ => none }
def fnValidCloudRow : OpenClaim := { program := "ytahogdcmnpidiaa", sum := "2846e0299b0f177396962920fb3b71b672ebe85dfd551b09fc7febc47fb6ffa7", func := "loop.example/countedchances/laws.FnValidCloud", spec := "fnValidCloud", unfollowed := true, recurses := true, apart := false }
def FnValidCloudSaid : Prop := fnValidCloudRow.holds Try.pinned (OpenSpec.ofChange fnValidCloudSpec)

/-- ITS FALSE NEIGHBOUR: 'it returns false'. Refute it at one input. -/
def fnValidCloudWrong : ChangeSpec := { name := "fnValidCloud", fn := fun _ => fun
  | [d] => { results := [.lit (.bool false)], args := [d] }
  | _ => none }
def FnValidCloudWrongFalsely : Prop := fnValidCloudRow.holds Try.pinned (OpenSpec.ofChange fnValidCloudWrong)

/-- 'laws.FnExactNearLine': WHATEVER THE INPUT: true; the input reads as it did. -/
def fnExactNearLineSpec : ChangeSpec := { name := "fnExactNearLine", fn := fun _ => fun
  | [d1, d2] => { results := [.lit (.bool true)], args := [d1, d2] }
  | _ => none }
def fnExactNearLineRow : OpenClaim := { program := "ytahogdcmnpidiaa", sum := "2846e0299b0f177396962920fb3b71b672ebe85dfd551b09fc7febc47fb6ffa7", func := "loop.example/countedchances/laws.FnExactNearLine", spec := "fnExactNearLine", unfollowed := true, recurses := true, apart := false }
def FnExactNearLineSaid : Prop := fnExactNearLineRow.holds Try.pinned (OpenSpec.ofChange fnExactNearLineSpec)

/-- ITS FALSE NEIGHBOUR: 'it returns false'. Refute it at one input. -/
def fnExactNearLineWrong : ChangeSpec := { name := "fnExactNearLine", fn := fun _ => fun
  | [d1, d2] => { results := [.lit (.bool false)], args := [d1, d2] }
  | _ => none }
def FnExactNearLineWrongFalsely : Prop := fnExactNearLineRow.holds Try.pinned (OpenSpec.ofChange fnExactNearLineWrong)

/-- 'laws.FnExactBlocksOf': WHATEVER THE INPUT: true; the input reads as it did. -/
def fnExactBlocksOfSpec : ChangeSpec := { name := "fnExactBlocksOf", fn := fun _ => fun
  | [d1, d2] => { results := [.lit (.bool true)], args := [d1, d2] }
  | _ => none }
def fnExactBlocksOfRow : OpenClaim := { program := "ytahogdcmnpidiaa", sum := "2846e0299b0f177396962920fb3b71b672ebe85dfd551b09fc7febc47fb6ffa7", func := "loop.example/countedchances/laws.FnExactBlocksOf", spec := "fnExactBlocksOf", unfollowed := true, recurses := true, apart := false }
def FnExactBlocksOfSaid : Prop := fnExactBlocksOfRow.holds Try.pinned (OpenSpec.ofChange fnExactBlocksOfSpec)

/-- ITS FALSE NEIGHBOUR: 'it returns false'. Refute it at one input. -/
def fnExactBlocksOfWrong : ChangeSpec := { name := "fnExactBlocksOf", fn := fun _ => fun
  | [d1, d2] => { results := [.lit (.bool false)], args := [d1, d2] }
  | _ => none }
def FnExactBlocksOfWrongFalsely : Prop := fnExactBlocksOfRow.holds Try.pinned (OpenSpec.ofChange fnExactBlocksOfWrong)

/-- 'laws.FnRiseSum': WHATEVER THE INPUT: true; the input reads as it did. -/
def fnRiseSumSpec : ChangeSpec := { name := "fnRiseSum", fn := fun _ => fun
  | [d] => { results := [.lit (.bool true)], args := [d] }
  | _ => none }
def fnRiseSumRow : OpenClaim := { program := "ytahogdcmnpidiaa", sum := "2846e0299b0f177396962920fb3b71b672ebe85dfd551b09fc7febc47fb6ffa7", func := "loop.example/countedchances/laws.FnRiseSum", spec := "fnRiseSum", unfollowed := true, recurses := true, apart := false }
def FnRiseSumSaid : Prop := fnRiseSumRow.holds Try.pinned (OpenSpec.ofChange fnRiseSumSpec)

/-- ITS FALSE NEIGHBOUR: 'it returns false'. Refute it at one input. -/
def fnRiseSumWrong : ChangeSpec := { name := "fnRiseSum", fn := fun _ => fun
  | [d] => { results := [.lit (.bool false)], args := [d] }
  | _ => none }
def FnRiseSumWrongFalsely : Prop := fnRiseSumRow.holds Try.pinned (OpenSpec.ofChange fnRiseSumWrong)

/-- 'laws.FnMeanOf': WHATEVER THE INPUT: true; the input reads as it did. -/
def fnMeanOfSpec : ChangeSpec := { name := "fnMeanOf", fn := fun _ => fun
  | [d] => { results := [.lit (.bool true)], args := [d] }
  | _ => none }
def fnMeanOfRow : OpenClaim := { program := "ytahogdcmnpidiaa", sum := "2846e0299b0f177396962920fb3b71b672ebe85dfd551b09fc7febc47fb6ffa7", func := "loop.example/countedchances/laws.FnMeanOf", spec := "fnMeanOf", unfollowed := true, recurses := true, apart := false }
def FnMeanOfSaid : Prop := fnMeanOfRow.holds Try.pinned (OpenSpec.ofChange fnMeanOfSpec)

/-- ITS FALSE NEIGHBOUR: 'it returns false'. Refute it at one input. -/
def fnMeanOfWrong : ChangeSpec := { name := "fnMeanOf", fn := fun _ => fun
  | [d] => { results := [.lit (.bool false)], args := [d] }
  | _ => none }
def FnMeanOfWrongFalsely : Prop := fnMeanOfRow.holds Try.pinned (OpenSpec.ofChange fnMeanOfWrong)

/-- 'laws.FnExactSquareLine': WHATEVER THE INPUT: true; the input reads as it did. -/
def fnExactSquareLineSpec : ChangeSpec := { name := "fnExactSquareLine", fn := fun _ => fun
  | [d1, d2] => { results := [.lit (.bool true)], args := [d1, d2] }
  | _ => none }
def fnExactSquareLineRow : OpenClaim := { program := "ytahogdcmnpidiaa", sum := "2846e0299b0f177396962920fb3b71b672ebe85dfd551b09fc7febc47fb6ffa7", func := "loop.example/countedchances/laws.FnExactSquareLine", spec := "fnExactSquareLine", unfollowed := true, recurses := true, apart := false }
def FnExactSquareLineSaid : Prop := fnExactSquareLineRow.holds Try.pinned (OpenSpec.ofChange fnExactSquareLineSpec)

/-- ITS FALSE NEIGHBOUR: 'it returns false'. Refute it at one input. -/
def fnExactSquareLineWrong : ChangeSpec := { name := "fnExactSquareLine", fn := fun _ => fun
  | [d1, d2] => { results := [.lit (.bool false)], args := [d1, d2] }
  | _ => none }
def FnExactSquareLineWrongFalsely : Prop := fnExactSquareLineRow.holds Try.pinned (OpenSpec.ofChange fnExactSquareLineWrong)

/- THE SECOND FORM. 'bulk': how many values and letters a reading holds, each counted each time it is reached (what is shared counts as often as it is met; a slice's spare places count too). A statement '..UptoSaid' is the law's where the arguments, and the package variables that the reading takes, are together of bulk at most 1048576: NARROWER than '..Said'. Prove '..Said' where nothing that the law and all that it calls make is longer than what came in: it says more and counts as full. Else prove '..UptoSaid'. A law counts once. -/
mutual
def uptoBulk {H : Type} : DataW H → Nat
  | .lit (.string bytes) => bytes.length + 1
  | .lit _ => 1
  | .nil => 1
  | .ptr d => uptoBulk d + 1
  | .slice elems spare => uptoBulkAll elems + uptoBulkAll spare + 1
  | .agg parts => uptoBulkAll parts + 1
  | .iface _ d => uptoBulk d + 1
  | .map entries => uptoBulkEntries entries + 1
  | .held _ => 1
def uptoBulkAll {H : Type} : List (DataW H) → Nat
  | [] => 0
  | d :: r => uptoBulk d + uptoBulkAll r
def uptoBulkEntries {H : Type} : List (Lit × DataW H) → Nat
  | [] => 0
  | x :: r => uptoBulkEntry x + uptoBulkEntries r
def uptoBulkEntry {H : Type} : Lit × DataW H → Nat
  | (.string bytes, d) => bytes.length + uptoBulk d + 1
  | (_, d) => uptoBulk d + 1
 end
def uptoSmall : (H : Type) → List (DataW H) → Bool := fun _ ds => decide (uptoBulkAll ds ≤ 1048576)
def OpenSpec.upto (s : _root_.Go.ChangeSpec) : _root_.Go.OpenSpec := { _root_.Go.OpenSpec.ofChange s with cond := some uptoSmall }

/-- 'laws.FnExactRiseByHull', WHERE WHAT IT READS IS OF BULK AT MOST 1048576: true; the input reads as it did. -/
def fnExactRiseByHullUptoRow : OpenClaim := { program := "ytahogdcmnpidiaa", sum := "2846e0299b0f177396962920fb3b71b672ebe85dfd551b09fc7febc47fb6ffa7", func := "loop.example/countedchances/laws.FnExactRiseByHull", spec := "fnExactRiseByHull", unfollowed := true, recurses := true, apart := false, narrowed := true }
def FnExactRiseByHullUptoSaid : Prop := fnExactRiseByHullUptoRow.holds Try.pinned (OpenSpec.upto fnExactRiseByHullSpec)

/-- 'laws.FnExactCurveAt', WHERE WHAT IT READS IS OF BULK AT MOST 1048576: true; the input reads as it did. -/
def fnExactCurveAtUptoRow : OpenClaim := { program := "ytahogdcmnpidiaa", sum := "2846e0299b0f177396962920fb3b71b672ebe85dfd551b09fc7febc47fb6ffa7", func := "loop.example/countedchances/laws.FnExactCurveAt", spec := "fnExactCurveAt", unfollowed := true, recurses := true, apart := false, narrowed := true }
def FnExactCurveAtUptoSaid : Prop := fnExactCurveAtUptoRow.holds Try.pinned (OpenSpec.upto fnExactCurveAtSpec)

/-- 'laws.FnValidCloud', WHERE WHAT IT READS IS OF BULK AT MOST 1048576: true; the input reads as it did. -/
def fnValidCloudUptoRow : OpenClaim := { program := "ytahogdcmnpidiaa", sum := "2846e0299b0f177396962920fb3b71b672ebe85dfd551b09fc7febc47fb6ffa7", func := "loop.example/countedchances/laws.FnValidCloud", spec := "fnValidCloud", unfollowed := true, recurses := true, apart := false, narrowed := true }
def FnValidCloudUptoSaid : Prop := fnValidCloudUptoRow.holds Try.pinned (OpenSpec.upto fnValidCloudSpec)

/-- 'laws.FnExactNearLine', WHERE WHAT IT READS IS OF BULK AT MOST 1048576: true; the input reads as it did. -/
def fnExactNearLineUptoRow : OpenClaim := { program := "ytahogdcmnpidiaa", sum := "2846e0299b0f177396962920fb3b71b672ebe85dfd551b09fc7febc47fb6ffa7", func := "loop.example/countedchances/laws.FnExactNearLine", spec := "fnExactNearLine", unfollowed := true, recurses := true, apart := false, narrowed := true }
def FnExactNearLineUptoSaid : Prop := fnExactNearLineUptoRow.holds Try.pinned (OpenSpec.upto fnExactNearLineSpec)

/-- 'laws.FnExactBlocksOf', WHERE WHAT IT READS IS OF BULK AT MOST 1048576: true; the input reads as it did. -/
def fnExactBlocksOfUptoRow : OpenClaim := { program := "ytahogdcmnpidiaa", sum := "2846e0299b0f177396962920fb3b71b672ebe85dfd551b09fc7febc47fb6ffa7", func := "loop.example/countedchances/laws.FnExactBlocksOf", spec := "fnExactBlocksOf", unfollowed := true, recurses := true, apart := false, narrowed := true }
def FnExactBlocksOfUptoSaid : Prop := fnExactBlocksOfUptoRow.holds Try.pinned (OpenSpec.upto fnExactBlocksOfSpec)

/-- 'laws.FnRiseSum', WHERE WHAT IT READS IS OF BULK AT MOST 1048576: true; the input reads as it did. -/
def fnRiseSumUptoRow : OpenClaim := { program := "ytahogdcmnpidiaa", sum := "2846e0299b0f177396962920fb3b71b672ebe85dfd551b09fc7febc47fb6ffa7", func := "loop.example/countedchances/laws.FnRiseSum", spec := "fnRiseSum", unfollowed := true, recurses := true, apart := false, narrowed := true }
def FnRiseSumUptoSaid : Prop := fnRiseSumUptoRow.holds Try.pinned (OpenSpec.upto fnRiseSumSpec)

/-- 'laws.FnMeanOf', WHERE WHAT IT READS IS OF BULK AT MOST 1048576: true; the input reads as it did. -/
def fnMeanOfUptoRow : OpenClaim := { program := "ytahogdcmnpidiaa", sum := "2846e0299b0f177396962920fb3b71b672ebe85dfd551b09fc7febc47fb6ffa7", func := "loop.example/countedchances/laws.FnMeanOf", spec := "fnMeanOf", unfollowed := true, recurses := true, apart := false, narrowed := true }
def FnMeanOfUptoSaid : Prop := fnMeanOfUptoRow.holds Try.pinned (OpenSpec.upto fnMeanOfSpec)

/-- 'laws.FnExactSquareLine', WHERE WHAT IT READS IS OF BULK AT MOST 1048576: true; the input reads as it did. -/
def fnExactSquareLineUptoRow : OpenClaim := { program := "ytahogdcmnpidiaa", sum := "2846e0299b0f177396962920fb3b71b672ebe85dfd551b09fc7febc47fb6ffa7", func := "loop.example/countedchances/laws.FnExactSquareLine", spec := "fnExactSquareLine", unfollowed := true, recurses := true, apart := false, narrowed := true }
def FnExactSquareLineUptoSaid : Prop := fnExactSquareLineUptoRow.holds Try.pinned (OpenSpec.upto fnExactSquareLineSpec)

end Rows
end Go.Proofs.Ytahogdcmnpidiaa
