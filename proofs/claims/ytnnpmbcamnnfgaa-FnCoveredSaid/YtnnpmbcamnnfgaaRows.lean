/-
  No cell of these rows narrows 'for every input' (looked for: loops, veiled, ifaces, maps, wideKeys, modest, calm, conditions, laid).
  DERIVED. THE GIVEN ROWS OF THIS SEAT. 10 by the template 'for every input the law returns true; each argument reads behind the call as it read before'; 0 by the template 'total and deterministic' (their statements: YtnnpmbcamnnfgaaTotals.lean).
  GIVEN WITH THE SEED: the statements are not yours to turn. If you find one false, say at which input.
  Laid BY PROGRAM, IN A SANDBOX (cutbox-rows.mjs): the forced cells as the released guide's own fill.sh prints them over the translation 1c8249966280fcb1… (all of the seat's roots in one cut). By AI agents, Wed Nov 11 2026. No macro, syntax, notation, axiom, sorry.
-/
import Derived.Test.YtnnpmbcamnnfgaaChecked
import GoSem.Claim
import GoSem.ClaimJoined
import GoSem.ClaimMapViews
import Derived.JoinedTies
import Derived.KernelRfl
namespace Go.Proofs.Ytnnpmbcamnnfgaa
/- THE CELL 'sum', in the pinned program and in every row, IS THE sha256 OF THE DUMP (.gsa) THAT YtnnpmbcamnnfgaaProg.lean LOADS. Nothing in Lean hashes anything: it is a label: what it is worth is what the hold of that sum in a sandbox is worth. -/
noncomputable def Try.pinned : Pinned := { name := "ytnnpmbcamnnfgaa", sum := "1c8249966280fcb128f3c2e584cc20fd35e7c81dec2296f7019ad26b6b37e32e", checked := Try.checked }
namespace Rows
def none {H : Type} : Left H := { results := [], args := [] }

/-- 'laws.FnExactAreLabels': WHATEVER THE INPUT: true; the input reads as it did. -/
def fnExactAreLabelsSpec : ChangeSpec := { name := "fnExactAreLabels", fn := fun _ => fun
  | [d] => { results := [.lit (.bool true)], args := [d] }
  | _ => none }
def fnExactAreLabelsRow : OpenClaim := { program := "ytnnpmbcamnnfgaa", sum := "1c8249966280fcb128f3c2e584cc20fd35e7c81dec2296f7019ad26b6b37e32e", func := "loop.example/g01030/laws.FnExactAreLabels", spec := "fnExactAreLabels", unfollowed := true, recurses := true, apart := false }
def FnExactAreLabelsSaid : Prop := fnExactAreLabelsRow.holds Try.pinned (OpenSpec.ofChange fnExactAreLabelsSpec)

/-- ITS FALSE NEIGHBOUR: 'it returns false'. Refute it at one input. -/
def fnExactAreLabelsWrong : ChangeSpec := { name := "fnExactAreLabels", fn := fun _ => fun
  | [d] => { results := [.lit (.bool false)], args := [d] }
  | _ => none }
def FnExactAreLabelsWrongFalsely : Prop := fnExactAreLabelsRow.holds Try.pinned (OpenSpec.ofChange fnExactAreLabelsWrong)

/-- 'laws.FnExactScoreOf': WHATEVER THE INPUT: true; the input reads as it did. -/
def fnExactScoreOfSpec : ChangeSpec := { name := "fnExactScoreOf", fn := fun _ => fun
  | [d1, d2] => { results := [.lit (.bool true)], args := [d1, d2] }
  | _ => none }
def fnExactScoreOfRow : OpenClaim := { program := "ytnnpmbcamnnfgaa", sum := "1c8249966280fcb128f3c2e584cc20fd35e7c81dec2296f7019ad26b6b37e32e", func := "loop.example/g01030/laws.FnExactScoreOf", spec := "fnExactScoreOf", unfollowed := true, recurses := true, apart := false }
def FnExactScoreOfSaid : Prop := fnExactScoreOfRow.holds Try.pinned (OpenSpec.ofChange fnExactScoreOfSpec)

/-- ITS FALSE NEIGHBOUR: 'it returns false'. Refute it at one input. -/
def fnExactScoreOfWrong : ChangeSpec := { name := "fnExactScoreOf", fn := fun _ => fun
  | [d1, d2] => { results := [.lit (.bool false)], args := [d1, d2] }
  | _ => none }
def FnExactScoreOfWrongFalsely : Prop := fnExactScoreOfRow.holds Try.pinned (OpenSpec.ofChange fnExactScoreOfWrong)

/-- 'laws.FnExactAllowedPositions': WHATEVER THE INPUT: true; the input reads as it did. -/
def fnExactAllowedPositionsSpec : ChangeSpec := { name := "fnExactAllowedPositions", fn := fun _ => fun
  | [d1, d2] => { results := [.lit (.bool true)], args := [d1, d2] }
  | _ => none }
def fnExactAllowedPositionsRow : OpenClaim := { program := "ytnnpmbcamnnfgaa", sum := "1c8249966280fcb128f3c2e584cc20fd35e7c81dec2296f7019ad26b6b37e32e", func := "loop.example/g01030/laws.FnExactAllowedPositions", spec := "fnExactAllowedPositions", unfollowed := true, recurses := true, apart := false }
def FnExactAllowedPositionsSaid : Prop := fnExactAllowedPositionsRow.holds Try.pinned (OpenSpec.ofChange fnExactAllowedPositionsSpec)

/-- ITS FALSE NEIGHBOUR: 'it returns false'. Refute it at one input. -/
def fnExactAllowedPositionsWrong : ChangeSpec := { name := "fnExactAllowedPositions", fn := fun _ => fun
  | [d1, d2] => { results := [.lit (.bool false)], args := [d1, d2] }
  | _ => none }
def FnExactAllowedPositionsWrongFalsely : Prop := fnExactAllowedPositionsRow.holds Try.pinned (OpenSpec.ofChange fnExactAllowedPositionsWrong)

/-- 'laws.FnExactCoveredBy': WHATEVER THE INPUT: true; the input reads as it did. -/
def fnExactCoveredBySpec : ChangeSpec := { name := "fnExactCoveredBy", fn := fun _ => fun
  | [d1, d2, d3] => { results := [.lit (.bool true)], args := [d1, d2, d3] }
  | _ => none }
def fnExactCoveredByRow : OpenClaim := { program := "ytnnpmbcamnnfgaa", sum := "1c8249966280fcb128f3c2e584cc20fd35e7c81dec2296f7019ad26b6b37e32e", func := "loop.example/g01030/laws.FnExactCoveredBy", spec := "fnExactCoveredBy", unfollowed := true, recurses := true, apart := false }
def FnExactCoveredBySaid : Prop := fnExactCoveredByRow.holds Try.pinned (OpenSpec.ofChange fnExactCoveredBySpec)

/-- ITS FALSE NEIGHBOUR: 'it returns false'. Refute it at one input. -/
def fnExactCoveredByWrong : ChangeSpec := { name := "fnExactCoveredBy", fn := fun _ => fun
  | [d1, d2, d3] => { results := [.lit (.bool false)], args := [d1, d2, d3] }
  | _ => none }
def FnExactCoveredByWrongFalsely : Prop := fnExactCoveredByRow.holds Try.pinned (OpenSpec.ofChange fnExactCoveredByWrong)

/-- 'laws.FnCovered': WHATEVER THE INPUT: true; the input reads as it did. -/
def fnCoveredSpec : ChangeSpec := { name := "fnCovered", fn := fun _ => fun
  | [d] => { results := [.lit (.bool true)], args := [d] }
  | _ => none }
def fnCoveredRow : OpenClaim := { program := "ytnnpmbcamnnfgaa", sum := "1c8249966280fcb128f3c2e584cc20fd35e7c81dec2296f7019ad26b6b37e32e", func := "loop.example/g01030/laws.FnCovered", spec := "fnCovered", unfollowed := true, recurses := true, apart := false }
def FnCoveredSaid : Prop := fnCoveredRow.holds Try.pinned (OpenSpec.ofChange fnCoveredSpec)

/-- ITS FALSE NEIGHBOUR: 'it returns false'. Refute it at one input. -/
def fnCoveredWrong : ChangeSpec := { name := "fnCovered", fn := fun _ => fun
  | [d] => { results := [.lit (.bool false)], args := [d] }
  | _ => none }
def FnCoveredWrongFalsely : Prop := fnCoveredRow.holds Try.pinned (OpenSpec.ofChange fnCoveredWrong)

/-- 'laws.FnExactIsClear': WHATEVER THE INPUT: true; the input reads as it did. -/
def fnExactIsClearSpec : ChangeSpec := { name := "fnExactIsClear", fn := fun _ => fun
  | [d1, d2] => { results := [.lit (.bool true)], args := [d1, d2] }
  | _ => none }
def fnExactIsClearRow : OpenClaim := { program := "ytnnpmbcamnnfgaa", sum := "1c8249966280fcb128f3c2e584cc20fd35e7c81dec2296f7019ad26b6b37e32e", func := "loop.example/g01030/laws.FnExactIsClear", spec := "fnExactIsClear", unfollowed := true, recurses := true, apart := false }
def FnExactIsClearSaid : Prop := fnExactIsClearRow.holds Try.pinned (OpenSpec.ofChange fnExactIsClearSpec)

/-- ITS FALSE NEIGHBOUR: 'it returns false'. Refute it at one input. -/
def fnExactIsClearWrong : ChangeSpec := { name := "fnExactIsClear", fn := fun _ => fun
  | [d1, d2] => { results := [.lit (.bool false)], args := [d1, d2] }
  | _ => none }
def FnExactIsClearWrongFalsely : Prop := fnExactIsClearRow.holds Try.pinned (OpenSpec.ofChange fnExactIsClearWrong)

/-- 'laws.FnExactClashesOf': WHATEVER THE INPUT: true; the input reads as it did. -/
def fnExactClashesOfSpec : ChangeSpec := { name := "fnExactClashesOf", fn := fun _ => fun
  | [d1, d2] => { results := [.lit (.bool true)], args := [d1, d2] }
  | _ => none }
def fnExactClashesOfRow : OpenClaim := { program := "ytnnpmbcamnnfgaa", sum := "1c8249966280fcb128f3c2e584cc20fd35e7c81dec2296f7019ad26b6b37e32e", func := "loop.example/g01030/laws.FnExactClashesOf", spec := "fnExactClashesOf", unfollowed := true, recurses := true, apart := false }
def FnExactClashesOfSaid : Prop := fnExactClashesOfRow.holds Try.pinned (OpenSpec.ofChange fnExactClashesOfSpec)

/-- ITS FALSE NEIGHBOUR: 'it returns false'. Refute it at one input. -/
def fnExactClashesOfWrong : ChangeSpec := { name := "fnExactClashesOf", fn := fun _ => fun
  | [d1, d2] => { results := [.lit (.bool false)], args := [d1, d2] }
  | _ => none }
def FnExactClashesOfWrongFalsely : Prop := fnExactClashesOfRow.holds Try.pinned (OpenSpec.ofChange fnExactClashesOfWrong)

/-- 'laws.FnExactBestPlacement': WHATEVER THE INPUT: true; the input reads as it did. -/
def fnExactBestPlacementSpec : ChangeSpec := { name := "fnExactBestPlacement", fn := fun _ => fun
  | [d] => { results := [.lit (.bool true)], args := [d] }
  | _ => none }
def fnExactBestPlacementRow : OpenClaim := { program := "ytnnpmbcamnnfgaa", sum := "1c8249966280fcb128f3c2e584cc20fd35e7c81dec2296f7019ad26b6b37e32e", func := "loop.example/g01030/laws.FnExactBestPlacement", spec := "fnExactBestPlacement", unfollowed := true, recurses := true, apart := false }
def FnExactBestPlacementSaid : Prop := fnExactBestPlacementRow.holds Try.pinned (OpenSpec.ofChange fnExactBestPlacementSpec)

/-- ITS FALSE NEIGHBOUR: 'it returns false'. Refute it at one input. -/
def fnExactBestPlacementWrong : ChangeSpec := { name := "fnExactBestPlacement", fn := fun _ => fun
  | [d] => { results := [.lit (.bool false)], args := [d] }
  | _ => none }
def FnExactBestPlacementWrongFalsely : Prop := fnExactBestPlacementRow.holds Try.pinned (OpenSpec.ofChange fnExactBestPlacementWrong)

/-- 'laws.FnExactGreedyPlacement': WHATEVER THE INPUT: true; the input reads as it did. -/
def fnExactGreedyPlacementSpec : ChangeSpec := { name := "fnExactGreedyPlacement", fn := fun _ => fun
  | [d] => { results := [.lit (.bool true)], args := [d] }
  | _ => none }
def fnExactGreedyPlacementRow : OpenClaim := { program := "ytnnpmbcamnnfgaa", sum := "1c8249966280fcb128f3c2e584cc20fd35e7c81dec2296f7019ad26b6b37e32e", func := "loop.example/g01030/laws.FnExactGreedyPlacement", spec := "fnExactGreedyPlacement", unfollowed := true, recurses := true, apart := false }
def FnExactGreedyPlacementSaid : Prop := fnExactGreedyPlacementRow.holds Try.pinned (OpenSpec.ofChange fnExactGreedyPlacementSpec)

/-- ITS FALSE NEIGHBOUR: 'it returns false'. Refute it at one input. -/
def fnExactGreedyPlacementWrong : ChangeSpec := { name := "fnExactGreedyPlacement", fn := fun _ => fun
  | [d] => { results := [.lit (.bool false)], args := [d] }
  | _ => none }
def FnExactGreedyPlacementWrongFalsely : Prop := fnExactGreedyPlacementRow.holds Try.pinned (OpenSpec.ofChange fnExactGreedyPlacementWrong)

/-- 'laws.FnLabels': WHATEVER THE INPUT: true; the input reads as it did. -/
def fnLabelsSpec : ChangeSpec := { name := "fnLabels", fn := fun _ => fun
  | [d] => { results := [.lit (.bool true)], args := [d] }
  | _ => none }
def fnLabelsRow : OpenClaim := { program := "ytnnpmbcamnnfgaa", sum := "1c8249966280fcb128f3c2e584cc20fd35e7c81dec2296f7019ad26b6b37e32e", func := "loop.example/g01030/laws.FnLabels", spec := "fnLabels", unfollowed := true, recurses := true, apart := false }
def FnLabelsSaid : Prop := fnLabelsRow.holds Try.pinned (OpenSpec.ofChange fnLabelsSpec)

/-- ITS FALSE NEIGHBOUR: 'it returns false'. Refute it at one input. -/
def fnLabelsWrong : ChangeSpec := { name := "fnLabels", fn := fun _ => fun
  | [d] => { results := [.lit (.bool false)], args := [d] }
  | _ => none }
def FnLabelsWrongFalsely : Prop := fnLabelsRow.holds Try.pinned (OpenSpec.ofChange fnLabelsWrong)

/- THE SECOND FORM. 'bulk': how many values and letters a reading holds, each counted each time it is reached (what is shared counts as often as it is met; a slice's spare places count too). A statement '..UptoSaid' is the law's where the arguments, and the package variables that the reading takes, are together of bulk at most 1048576: NARROWER than '..Said'. Prove '..Said' where nothing that the law and all that it calls make is longer than what came in: it says more and counts as full. Else prove '..UptoSaid'. A law counts once. -/
mutual
def uptoBulk {H : Type} : DataW H → Nat
  | .lit (.string bytes) => bytes.length + 1
  | .lit _ => 1
  | .nil => 1
  | .ptr d => uptoBulk d + 1
  | .slice elems spare => uptoBulkAll elems + uptoBulkAll spare + 1
  | .agg parts => uptoBulkAll parts + 1
  | .iface _ d => uptoBulk d + 1
  | .map entries => uptoBulkEntries entries + 1
  | .held _ => 1
def uptoBulkAll {H : Type} : List (DataW H) → Nat
  | [] => 0
  | d :: r => uptoBulk d + uptoBulkAll r
def uptoBulkEntries {H : Type} : List (Lit × DataW H) → Nat
  | [] => 0
  | x :: r => uptoBulkEntry x + uptoBulkEntries r
def uptoBulkEntry {H : Type} : Lit × DataW H → Nat
  | (.string bytes, d) => bytes.length + uptoBulk d + 1
  | (_, d) => uptoBulk d + 1
 end
def uptoSmall : (H : Type) → List (DataW H) → Bool := fun _ ds => decide (uptoBulkAll ds ≤ 1048576)
def OpenSpec.upto (s : _root_.Go.ChangeSpec) : _root_.Go.OpenSpec := { _root_.Go.OpenSpec.ofChange s with cond := some uptoSmall }

/-- 'laws.FnExactAreLabels', WHERE WHAT IT READS IS OF BULK AT MOST 1048576: true; the input reads as it did. -/
def fnExactAreLabelsUptoRow : OpenClaim := { program := "ytnnpmbcamnnfgaa", sum := "1c8249966280fcb128f3c2e584cc20fd35e7c81dec2296f7019ad26b6b37e32e", func := "loop.example/g01030/laws.FnExactAreLabels", spec := "fnExactAreLabels", unfollowed := true, recurses := true, apart := false, narrowed := true }
def FnExactAreLabelsUptoSaid : Prop := fnExactAreLabelsUptoRow.holds Try.pinned (OpenSpec.upto fnExactAreLabelsSpec)

/-- 'laws.FnExactScoreOf', WHERE WHAT IT READS IS OF BULK AT MOST 1048576: true; the input reads as it did. -/
def fnExactScoreOfUptoRow : OpenClaim := { program := "ytnnpmbcamnnfgaa", sum := "1c8249966280fcb128f3c2e584cc20fd35e7c81dec2296f7019ad26b6b37e32e", func := "loop.example/g01030/laws.FnExactScoreOf", spec := "fnExactScoreOf", unfollowed := true, recurses := true, apart := false, narrowed := true }
def FnExactScoreOfUptoSaid : Prop := fnExactScoreOfUptoRow.holds Try.pinned (OpenSpec.upto fnExactScoreOfSpec)

/-- 'laws.FnExactAllowedPositions', WHERE WHAT IT READS IS OF BULK AT MOST 1048576: true; the input reads as it did. -/
def fnExactAllowedPositionsUptoRow : OpenClaim := { program := "ytnnpmbcamnnfgaa", sum := "1c8249966280fcb128f3c2e584cc20fd35e7c81dec2296f7019ad26b6b37e32e", func := "loop.example/g01030/laws.FnExactAllowedPositions", spec := "fnExactAllowedPositions", unfollowed := true, recurses := true, apart := false, narrowed := true }
def FnExactAllowedPositionsUptoSaid : Prop := fnExactAllowedPositionsUptoRow.holds Try.pinned (OpenSpec.upto fnExactAllowedPositionsSpec)

/-- 'laws.FnExactCoveredBy', WHERE WHAT IT READS IS OF BULK AT MOST 1048576: true; the input reads as it did. -/
def fnExactCoveredByUptoRow : OpenClaim := { program := "ytnnpmbcamnnfgaa", sum := "1c8249966280fcb128f3c2e584cc20fd35e7c81dec2296f7019ad26b6b37e32e", func := "loop.example/g01030/laws.FnExactCoveredBy", spec := "fnExactCoveredBy", unfollowed := true, recurses := true, apart := false, narrowed := true }
def FnExactCoveredByUptoSaid : Prop := fnExactCoveredByUptoRow.holds Try.pinned (OpenSpec.upto fnExactCoveredBySpec)

/-- 'laws.FnCovered', WHERE WHAT IT READS IS OF BULK AT MOST 1048576: true; the input reads as it did. -/
def fnCoveredUptoRow : OpenClaim := { program := "ytnnpmbcamnnfgaa", sum := "1c8249966280fcb128f3c2e584cc20fd35e7c81dec2296f7019ad26b6b37e32e", func := "loop.example/g01030/laws.FnCovered", spec := "fnCovered", unfollowed := true, recurses := true, apart := false, narrowed := true }
def FnCoveredUptoSaid : Prop := fnCoveredUptoRow.holds Try.pinned (OpenSpec.upto fnCoveredSpec)

/-- 'laws.FnExactIsClear', WHERE WHAT IT READS IS OF BULK AT MOST 1048576: true; the input reads as it did. -/
def fnExactIsClearUptoRow : OpenClaim := { program := "ytnnpmbcamnnfgaa", sum := "1c8249966280fcb128f3c2e584cc20fd35e7c81dec2296f7019ad26b6b37e32e", func := "loop.example/g01030/laws.FnExactIsClear", spec := "fnExactIsClear", unfollowed := true, recurses := true, apart := false, narrowed := true }
def FnExactIsClearUptoSaid : Prop := fnExactIsClearUptoRow.holds Try.pinned (OpenSpec.upto fnExactIsClearSpec)

/-- 'laws.FnExactClashesOf', WHERE WHAT IT READS IS OF BULK AT MOST 1048576: true; the input reads as it did. -/
def fnExactClashesOfUptoRow : OpenClaim := { program := "ytnnpmbcamnnfgaa", sum := "1c8249966280fcb128f3c2e584cc20fd35e7c81dec2296f7019ad26b6b37e32e", func := "loop.example/g01030/laws.FnExactClashesOf", spec := "fnExactClashesOf", unfollowed := true, recurses := true, apart := false, narrowed := true }
def FnExactClashesOfUptoSaid : Prop := fnExactClashesOfUptoRow.holds Try.pinned (OpenSpec.upto fnExactClashesOfSpec)

/-- 'laws.FnExactBestPlacement', WHERE WHAT IT READS IS OF BULK AT MOST 1048576: true; the input reads as it did. -/
def fnExactBestPlacementUptoRow : OpenClaim := { program := "ytnnpmbcamnnfgaa", sum := "1c8249966280fcb128f3c2e584cc20fd35e7c81dec2296f7019ad26b6b37e32e", func := "loop.example/g01030/laws.FnExactBestPlacement", spec := "fnExactBestPlacement", unfollowed := true, recurses := true, apart := false, narrowed := true }
def FnExactBestPlacementUptoSaid : Prop := fnExactBestPlacementUptoRow.holds Try.pinned (OpenSpec.upto fnExactBestPlacementSpec)

/-- 'laws.FnExactGreedyPlacement', WHERE WHAT IT READS IS OF BULK AT MOST 1048576: true; the input reads as it did. -/
def fnExactGreedyPlacementUptoRow : OpenClaim := { program := "ytnnpmbcamnnfgaa", sum := "1c8249966280fcb128f3c2e584cc20fd35e7c81dec2296f7019ad26b6b37e32e", func := "loop.example/g01030/laws.FnExactGreedyPlacement", spec := "fnExactGreedyPlacement", unfollowed := true, recurses := true, apart := false, narrowed := true }
def FnExactGreedyPlacementUptoSaid : Prop := fnExactGreedyPlacementUptoRow.holds Try.pinned (OpenSpec.upto fnExactGreedyPlacementSpec)

/-- 'laws.FnLabels', WHERE WHAT IT READS IS OF BULK AT MOST 1048576: true; the input reads as it did. -/
def fnLabelsUptoRow : OpenClaim := { program := "ytnnpmbcamnnfgaa", sum := "1c8249966280fcb128f3c2e584cc20fd35e7c81dec2296f7019ad26b6b37e32e", func := "loop.example/g01030/laws.FnLabels", spec := "fnLabels", unfollowed := true, recurses := true, apart := false, narrowed := true }
def FnLabelsUptoSaid : Prop := fnLabelsUptoRow.holds Try.pinned (OpenSpec.upto fnLabelsSpec)

end Rows
end Go.Proofs.Ytnnpmbcamnnfgaa
