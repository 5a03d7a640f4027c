/-
  NARROWER THAN 'FOR EVERY INPUT', by the rows' own cells (each row's printed sentence says how): FnExactAreTies: laid · FnExactRemoveTie: laid · FnExactAreSound: laid · FnExactMayBeSame: laid · FnExactSplitsBy: laid · FnExactAddTie: laid · FnExactGroupsOf: laid · FnExactRefutation: laid · FnExactProofOf: laid · FnTies: laid · FnLinks: laid.
  DERIVED. THE GIVEN ROWS OF THIS SEAT. 11 by the template 'for every input the law returns true; each argument reads behind the call as it read before'; 0 by the template 'total and deterministic' (their statements: YtmbejkchgdcdhaaDoorTotals.lean).
  GIVEN WITH THE SEED: the statements are not yours to turn. If you find one false, say at which input.
  Laid BY PROGRAM, IN A SANDBOX (cutbox-rows.mjs): the forced cells as the released guide's own fill.sh prints them over the translation bcbe1a23f3c5a02a… (all of the seat's roots in one cut). By AI agents, Wed Nov 11 2026. No macro, syntax, notation, axiom, sorry.
-/
import Derived.Test.YtmbejkchgdcdhaaDoorChecked
import GoSem.PinnedTables
import GoSem.Claim
import GoSem.ClaimJoined
import GoSem.ClaimMapViews
import Derived.JoinedTies
import Derived.KernelRfl
namespace Go.Proofs.YtmbejkchgdcdhaaDoor
/- THE CELL 'sum', in the pinned program and in every row, IS THE sha256 OF THE DUMP (.gsa) THAT YtmbejkchgdcdhaaDoorProg.lean LOADS. Nothing in Lean hashes anything: it is a label: what it is worth is what the hold of that sum in a sandbox is worth. -/
noncomputable def Tryd.pinned : Pinned := { name := "ytmbejkchgdcdhaadoor", sum := "bcbe1a23f3c5a02ac541ab2445de0e017739a05aaa47d18e5d4d01f0e38c0d9a", checked := Tryd.checked }
namespace Rows
def none {H : Type} : Left H := { results := [], args := [] }

/- WHAT THE LISTED PACKAGE-LEVEL VARIABLES READ AS WHEN THE CALL BEGINS. Each datum BY PROGRAM (the guide's laid-datum.mjs) off the statement by which the dump's own 'gosem.cut.vars' lays the variable. In a bare row this is a premise. The card (YtmbejkchgdcdhaaDoorCards.lean) ties it to the program's text. -/
def laid_unicode_utf8_acceptRanges {H : Type} : DataW H := .agg [.agg [.lit (.int .u8 128), .lit (.int .u8 191)], .agg [.lit (.int .u8 160), .lit (.int .u8 191)], .agg [.lit (.int .u8 128), .lit (.int .u8 159)], .agg [.lit (.int .u8 144), .lit (.int .u8 191)], .agg [.lit (.int .u8 128), .lit (.int .u8 143)], .agg [.lit (.int .u8 0), .lit (.int .u8 0)], .agg [.lit (.int .u8 0), .lit (.int .u8 0)], .agg [.lit (.int .u8 0), .lit (.int .u8 0)], .agg [.lit (.int .u8 0), .lit (.int .u8 0)], .agg [.lit (.int .u8 0), .lit (.int .u8 0)], .agg [.lit (.int .u8 0), .lit (.int .u8 0)], .agg [.lit (.int .u8 0), .lit (.int .u8 0)], .agg [.lit (.int .u8 0), .lit (.int .u8 0)], .agg [.lit (.int .u8 0), .lit (.int .u8 0)], .agg [.lit (.int .u8 0), .lit (.int .u8 0)], .agg [.lit (.int .u8 0), .lit (.int .u8 0)]]
/-- One of Go's own tables, pinned by name: the form's constant. -/
def laid_unicode_utf8_first : DataW Unit := Go.Pinned.utf8First

/-- 'laws.FnExactAreTies': WHATEVER THE INPUT: true; the input reads as it did. -/
def fnExactAreTiesSpec : ChangeSpec := { name := "fnExactAreTies", fn := fun _ => fun
  | [d1, d2] => { results := [.lit (.bool true)], args := [d1, d2] }
  | _ => none }
def fnExactAreTiesRow : OpenClaim := { program := "ytmbejkchgdcdhaadoor", sum := "bcbe1a23f3c5a02ac541ab2445de0e017739a05aaa47d18e5d4d01f0e38c0d9a", func := "loop.example/g01030/laws.FnExactAreTies", spec := "fnExactAreTies", inPlace := ["internal/bytealg.IndexByteString", "internal/bytealg.IndexString"], unfollowed := true, recurses := true, named := ["unicode/utf8.first", "unicode/utf8.acceptRanges", "internal/bytealg.MaxLen"], apart := false, laid := [("unicode/utf8.acceptRanges", laid_unicode_utf8_acceptRanges), ("unicode/utf8.first", laid_unicode_utf8_first)] }
def FnExactAreTiesSaid : Prop := fnExactAreTiesRow.holds Tryd.pinned (OpenSpec.ofChange fnExactAreTiesSpec)

/-- ITS FALSE NEIGHBOUR: 'it returns false'. Refute it at one input. -/
def fnExactAreTiesWrong : ChangeSpec := { name := "fnExactAreTies", fn := fun _ => fun
  | [d1, d2] => { results := [.lit (.bool false)], args := [d1, d2] }
  | _ => none }
def FnExactAreTiesWrongFalsely : Prop := fnExactAreTiesRow.holds Tryd.pinned (OpenSpec.ofChange fnExactAreTiesWrong)

/-- 'laws.FnExactRemoveTie': WHATEVER THE INPUT: true; the input reads as it did. -/
def fnExactRemoveTieSpec : ChangeSpec := { name := "fnExactRemoveTie", fn := fun _ => fun
  | [d1, d2, d3] => { results := [.lit (.bool true)], args := [d1, d2, d3] }
  | _ => none }
def fnExactRemoveTieRow : OpenClaim := { program := "ytmbejkchgdcdhaadoor", sum := "bcbe1a23f3c5a02ac541ab2445de0e017739a05aaa47d18e5d4d01f0e38c0d9a", func := "loop.example/g01030/laws.FnExactRemoveTie", spec := "fnExactRemoveTie", inPlace := ["internal/bytealg.IndexByteString", "internal/bytealg.IndexString"], unfollowed := true, recurses := true, named := ["unicode/utf8.first", "unicode/utf8.acceptRanges", "internal/bytealg.MaxLen"], apart := false, laid := [("unicode/utf8.acceptRanges", laid_unicode_utf8_acceptRanges), ("unicode/utf8.first", laid_unicode_utf8_first)] }
def FnExactRemoveTieSaid : Prop := fnExactRemoveTieRow.holds Tryd.pinned (OpenSpec.ofChange fnExactRemoveTieSpec)

/-- ITS FALSE NEIGHBOUR: 'it returns false'. Refute it at one input. -/
def fnExactRemoveTieWrong : ChangeSpec := { name := "fnExactRemoveTie", fn := fun _ => fun
  | [d1, d2, d3] => { results := [.lit (.bool false)], args := [d1, d2, d3] }
  | _ => none }
def FnExactRemoveTieWrongFalsely : Prop := fnExactRemoveTieRow.holds Tryd.pinned (OpenSpec.ofChange fnExactRemoveTieWrong)

/-- 'laws.FnExactAreSound': WHATEVER THE INPUT: true; the input reads as it did. -/
def fnExactAreSoundSpec : ChangeSpec := { name := "fnExactAreSound", fn := fun _ => fun
  | [d1, d2] => { results := [.lit (.bool true)], args := [d1, d2] }
  | _ => none }
def fnExactAreSoundRow : OpenClaim := { program := "ytmbejkchgdcdhaadoor", sum := "bcbe1a23f3c5a02ac541ab2445de0e017739a05aaa47d18e5d4d01f0e38c0d9a", func := "loop.example/g01030/laws.FnExactAreSound", spec := "fnExactAreSound", inPlace := ["internal/bytealg.IndexByteString", "internal/bytealg.IndexString"], unfollowed := true, recurses := true, named := ["unicode/utf8.first", "unicode/utf8.acceptRanges", "internal/bytealg.MaxLen"], apart := false, laid := [("unicode/utf8.acceptRanges", laid_unicode_utf8_acceptRanges), ("unicode/utf8.first", laid_unicode_utf8_first)] }
def FnExactAreSoundSaid : Prop := fnExactAreSoundRow.holds Tryd.pinned (OpenSpec.ofChange fnExactAreSoundSpec)

/-- ITS FALSE NEIGHBOUR: 'it returns false'. Refute it at one input. -/
def fnExactAreSoundWrong : ChangeSpec := { name := "fnExactAreSound", fn := fun _ => fun
  | [d1, d2] => { results := [.lit (.bool false)], args := [d1, d2] }
  | _ => none }
def FnExactAreSoundWrongFalsely : Prop := fnExactAreSoundRow.holds Tryd.pinned (OpenSpec.ofChange fnExactAreSoundWrong)

/-- 'laws.FnExactMayBeSame': WHATEVER THE INPUT: true; the input reads as it did. -/
def fnExactMayBeSameSpec : ChangeSpec := { name := "fnExactMayBeSame", fn := fun _ => fun
  | [d1, d2, d3, d4] => { results := [.lit (.bool true)], args := [d1, d2, d3, d4] }
  | _ => none }
def fnExactMayBeSameRow : OpenClaim := { program := "ytmbejkchgdcdhaadoor", sum := "bcbe1a23f3c5a02ac541ab2445de0e017739a05aaa47d18e5d4d01f0e38c0d9a", func := "loop.example/g01030/laws.FnExactMayBeSame", spec := "fnExactMayBeSame", inPlace := ["internal/bytealg.IndexByteString", "internal/bytealg.IndexString"], unfollowed := true, recurses := true, named := ["unicode/utf8.first", "unicode/utf8.acceptRanges", "internal/bytealg.MaxLen"], apart := false, laid := [("unicode/utf8.acceptRanges", laid_unicode_utf8_acceptRanges), ("unicode/utf8.first", laid_unicode_utf8_first)] }
def FnExactMayBeSameSaid : Prop := fnExactMayBeSameRow.holds Tryd.pinned (OpenSpec.ofChange fnExactMayBeSameSpec)

/-- ITS FALSE NEIGHBOUR: 'it returns false'. Refute it at one input. -/
def fnExactMayBeSameWrong : ChangeSpec := { name := "fnExactMayBeSame", fn := fun _ => fun
  | [d1, d2, d3, d4] => { results := [.lit (.bool false)], args := [d1, d2, d3, d4] }
  | _ => none }
def FnExactMayBeSameWrongFalsely : Prop := fnExactMayBeSameRow.holds Tryd.pinned (OpenSpec.ofChange fnExactMayBeSameWrong)

/-- 'laws.FnExactSplitsBy': WHATEVER THE INPUT: true; the input reads as it did. -/
def fnExactSplitsBySpec : ChangeSpec := { name := "fnExactSplitsBy", fn := fun _ => fun
  | [d1, d2, d3] => { results := [.lit (.bool true)], args := [d1, d2, d3] }
  | _ => none }
def fnExactSplitsByRow : OpenClaim := { program := "ytmbejkchgdcdhaadoor", sum := "bcbe1a23f3c5a02ac541ab2445de0e017739a05aaa47d18e5d4d01f0e38c0d9a", func := "loop.example/g01030/laws.FnExactSplitsBy", spec := "fnExactSplitsBy", inPlace := ["internal/bytealg.IndexByteString", "internal/bytealg.IndexString"], unfollowed := true, recurses := true, named := ["unicode/utf8.first", "unicode/utf8.acceptRanges", "internal/bytealg.MaxLen"], apart := false, laid := [("unicode/utf8.acceptRanges", laid_unicode_utf8_acceptRanges), ("unicode/utf8.first", laid_unicode_utf8_first)] }
def FnExactSplitsBySaid : Prop := fnExactSplitsByRow.holds Tryd.pinned (OpenSpec.ofChange fnExactSplitsBySpec)

/-- ITS FALSE NEIGHBOUR: 'it returns false'. Refute it at one input. -/
def fnExactSplitsByWrong : ChangeSpec := { name := "fnExactSplitsBy", fn := fun _ => fun
  | [d1, d2, d3] => { results := [.lit (.bool false)], args := [d1, d2, d3] }
  | _ => none }
def FnExactSplitsByWrongFalsely : Prop := fnExactSplitsByRow.holds Tryd.pinned (OpenSpec.ofChange fnExactSplitsByWrong)

/-- 'laws.FnExactAddTie': WHATEVER THE INPUT: true; the input reads as it did. -/
def fnExactAddTieSpec : ChangeSpec := { name := "fnExactAddTie", fn := fun _ => fun
  | [d1, d2, d3] => { results := [.lit (.bool true)], args := [d1, d2, d3] }
  | _ => none }
def fnExactAddTieRow : OpenClaim := { program := "ytmbejkchgdcdhaadoor", sum := "bcbe1a23f3c5a02ac541ab2445de0e017739a05aaa47d18e5d4d01f0e38c0d9a", func := "loop.example/g01030/laws.FnExactAddTie", spec := "fnExactAddTie", inPlace := ["internal/bytealg.IndexByteString", "internal/bytealg.IndexString"], unfollowed := true, recurses := true, named := ["unicode/utf8.first", "unicode/utf8.acceptRanges", "internal/bytealg.MaxLen"], apart := false, laid := [("unicode/utf8.acceptRanges", laid_unicode_utf8_acceptRanges), ("unicode/utf8.first", laid_unicode_utf8_first)] }
def FnExactAddTieSaid : Prop := fnExactAddTieRow.holds Tryd.pinned (OpenSpec.ofChange fnExactAddTieSpec)

/-- ITS FALSE NEIGHBOUR: 'it returns false'. Refute it at one input. -/
def fnExactAddTieWrong : ChangeSpec := { name := "fnExactAddTie", fn := fun _ => fun
  | [d1, d2, d3] => { results := [.lit (.bool false)], args := [d1, d2, d3] }
  | _ => none }
def FnExactAddTieWrongFalsely : Prop := fnExactAddTieRow.holds Tryd.pinned (OpenSpec.ofChange fnExactAddTieWrong)

/-- 'laws.FnExactGroupsOf': WHATEVER THE INPUT: true; the input reads as it did. -/
def fnExactGroupsOfSpec : ChangeSpec := { name := "fnExactGroupsOf", fn := fun _ => fun
  | [d1, d2] => { results := [.lit (.bool true)], args := [d1, d2] }
  | _ => none }
def fnExactGroupsOfRow : OpenClaim := { program := "ytmbejkchgdcdhaadoor", sum := "bcbe1a23f3c5a02ac541ab2445de0e017739a05aaa47d18e5d4d01f0e38c0d9a", func := "loop.example/g01030/laws.FnExactGroupsOf", spec := "fnExactGroupsOf", inPlace := ["internal/bytealg.IndexByteString", "internal/bytealg.IndexString"], unfollowed := true, recurses := true, named := ["unicode/utf8.first", "unicode/utf8.acceptRanges", "internal/bytealg.MaxLen"], apart := false, laid := [("unicode/utf8.acceptRanges", laid_unicode_utf8_acceptRanges), ("unicode/utf8.first", laid_unicode_utf8_first)] }
def FnExactGroupsOfSaid : Prop := fnExactGroupsOfRow.holds Tryd.pinned (OpenSpec.ofChange fnExactGroupsOfSpec)

/-- ITS FALSE NEIGHBOUR: 'it returns false'. Refute it at one input. -/
def fnExactGroupsOfWrong : ChangeSpec := { name := "fnExactGroupsOf", fn := fun _ => fun
  | [d1, d2] => { results := [.lit (.bool false)], args := [d1, d2] }
  | _ => none }
def FnExactGroupsOfWrongFalsely : Prop := fnExactGroupsOfRow.holds Tryd.pinned (OpenSpec.ofChange fnExactGroupsOfWrong)

/-- 'laws.FnExactRefutation': WHATEVER THE INPUT: true; the input reads as it did. -/
def fnExactRefutationSpec : ChangeSpec := { name := "fnExactRefutation", fn := fun _ => fun
  | [d1, d2] => { results := [.lit (.bool true)], args := [d1, d2] }
  | _ => none }
def fnExactRefutationRow : OpenClaim := { program := "ytmbejkchgdcdhaadoor", sum := "bcbe1a23f3c5a02ac541ab2445de0e017739a05aaa47d18e5d4d01f0e38c0d9a", func := "loop.example/g01030/laws.FnExactRefutation", spec := "fnExactRefutation", inPlace := ["internal/bytealg.IndexByteString", "internal/bytealg.IndexString"], unfollowed := true, recurses := true, named := ["unicode/utf8.first", "unicode/utf8.acceptRanges", "internal/bytealg.MaxLen"], apart := false, laid := [("unicode/utf8.acceptRanges", laid_unicode_utf8_acceptRanges), ("unicode/utf8.first", laid_unicode_utf8_first)] }
def FnExactRefutationSaid : Prop := fnExactRefutationRow.holds Tryd.pinned (OpenSpec.ofChange fnExactRefutationSpec)

/-- ITS FALSE NEIGHBOUR: 'it returns false'. Refute it at one input. -/
def fnExactRefutationWrong : ChangeSpec := { name := "fnExactRefutation", fn := fun _ => fun
  | [d1, d2] => { results := [.lit (.bool false)], args := [d1, d2] }
  | _ => none }
def FnExactRefutationWrongFalsely : Prop := fnExactRefutationRow.holds Tryd.pinned (OpenSpec.ofChange fnExactRefutationWrong)

/-- 'laws.FnExactProofOf': WHATEVER THE INPUT: true; the input reads as it did. -/
def fnExactProofOfSpec : ChangeSpec := { name := "fnExactProofOf", fn := fun _ => fun
  | [d1, d2, d3, d4] => { results := [.lit (.bool true)], args := [d1, d2, d3, d4] }
  | _ => none }
def fnExactProofOfRow : OpenClaim := { program := "ytmbejkchgdcdhaadoor", sum := "bcbe1a23f3c5a02ac541ab2445de0e017739a05aaa47d18e5d4d01f0e38c0d9a", func := "loop.example/g01030/laws.FnExactProofOf", spec := "fnExactProofOf", inPlace := ["internal/bytealg.IndexByteString", "internal/bytealg.IndexString"], unfollowed := true, recurses := true, named := ["unicode/utf8.first", "unicode/utf8.acceptRanges", "internal/bytealg.MaxLen"], apart := false, laid := [("unicode/utf8.acceptRanges", laid_unicode_utf8_acceptRanges), ("unicode/utf8.first", laid_unicode_utf8_first)] }
def FnExactProofOfSaid : Prop := fnExactProofOfRow.holds Tryd.pinned (OpenSpec.ofChange fnExactProofOfSpec)

/-- ITS FALSE NEIGHBOUR: 'it returns false'. Refute it at one input. -/
def fnExactProofOfWrong : ChangeSpec := { name := "fnExactProofOf", fn := fun _ => fun
  | [d1, d2, d3, d4] => { results := [.lit (.bool false)], args := [d1, d2, d3, d4] }
  | _ => none }
def FnExactProofOfWrongFalsely : Prop := fnExactProofOfRow.holds Tryd.pinned (OpenSpec.ofChange fnExactProofOfWrong)

/-- 'laws.FnTies': WHATEVER THE INPUT: true; the input reads as it did. -/
def fnTiesSpec : ChangeSpec := { name := "fnTies", fn := fun _ => fun
  | [d] => { results := [.lit (.bool true)], args := [d] }
  | _ => none }
def fnTiesRow : OpenClaim := { program := "ytmbejkchgdcdhaadoor", sum := "bcbe1a23f3c5a02ac541ab2445de0e017739a05aaa47d18e5d4d01f0e38c0d9a", func := "loop.example/g01030/laws.FnTies", spec := "fnTies", inPlace := ["internal/bytealg.IndexByteString", "internal/bytealg.IndexString"], unfollowed := true, recurses := true, named := ["unicode/utf8.first", "unicode/utf8.acceptRanges", "internal/bytealg.MaxLen"], apart := false, laid := [("unicode/utf8.acceptRanges", laid_unicode_utf8_acceptRanges), ("unicode/utf8.first", laid_unicode_utf8_first)] }
def FnTiesSaid : Prop := fnTiesRow.holds Tryd.pinned (OpenSpec.ofChange fnTiesSpec)

/-- ITS FALSE NEIGHBOUR: 'it returns false'. Refute it at one input. -/
def fnTiesWrong : ChangeSpec := { name := "fnTies", fn := fun _ => fun
  | [d] => { results := [.lit (.bool false)], args := [d] }
  | _ => none }
def FnTiesWrongFalsely : Prop := fnTiesRow.holds Tryd.pinned (OpenSpec.ofChange fnTiesWrong)

/-- 'laws.FnLinks': WHATEVER THE INPUT: true; the input reads as it did. -/
def fnLinksSpec : ChangeSpec := { name := "fnLinks", fn := fun _ => fun
  | [d] => { results := [.lit (.bool true)], args := [d] }
  | _ => none }
def fnLinksRow : OpenClaim := { program := "ytmbejkchgdcdhaadoor", sum := "bcbe1a23f3c5a02ac541ab2445de0e017739a05aaa47d18e5d4d01f0e38c0d9a", func := "loop.example/g01030/laws.FnLinks", spec := "fnLinks", inPlace := ["internal/bytealg.IndexByteString", "internal/bytealg.IndexString"], unfollowed := true, recurses := true, named := ["unicode/utf8.first", "unicode/utf8.acceptRanges", "internal/bytealg.MaxLen"], apart := false, laid := [("unicode/utf8.acceptRanges", laid_unicode_utf8_acceptRanges), ("unicode/utf8.first", laid_unicode_utf8_first)] }
def FnLinksSaid : Prop := fnLinksRow.holds Tryd.pinned (OpenSpec.ofChange fnLinksSpec)

/-- ITS FALSE NEIGHBOUR: 'it returns false'. Refute it at one input. -/
def fnLinksWrong : ChangeSpec := { name := "fnLinks", fn := fun _ => fun
  | [d] => { results := [.lit (.bool false)], args := [d] }
  | _ => none }
def FnLinksWrongFalsely : Prop := fnLinksRow.holds Tryd.pinned (OpenSpec.ofChange fnLinksWrong)

/- THE SECOND FORM. 'bulk': how many values and letters a reading holds, each counted each time it is reached (what is shared counts as often as it is met; a slice's spare places count too). A statement '..UptoSaid' is the law's where the arguments, and the package variables that the reading takes, are together of bulk at most 1048576: NARROWER than '..Said'. Prove '..Said' where nothing that the law and all that it calls make is longer than what came in: it says more and counts as full. Else prove '..UptoSaid'. A law counts once. -/
mutual
def uptoBulk {H : Type} : DataW H → Nat
  | .lit (.string bytes) => bytes.length + 1
  | .lit _ => 1
  | .nil => 1
  | .ptr d => uptoBulk d + 1
  | .slice elems spare => uptoBulkAll elems + uptoBulkAll spare + 1
  | .agg parts => uptoBulkAll parts + 1
  | .iface _ d => uptoBulk d + 1
  | .map entries => uptoBulkEntries entries + 1
  | .held _ => 1
def uptoBulkAll {H : Type} : List (DataW H) → Nat
  | [] => 0
  | d :: r => uptoBulk d + uptoBulkAll r
def uptoBulkEntries {H : Type} : List (Lit × DataW H) → Nat
  | [] => 0
  | x :: r => uptoBulkEntry x + uptoBulkEntries r
def uptoBulkEntry {H : Type} : Lit × DataW H → Nat
  | (.string bytes, d) => bytes.length + uptoBulk d + 1
  | (_, d) => uptoBulk d + 1
 end
def uptoSmall : (H : Type) → List (DataW H) → Bool := fun _ ds => decide (uptoBulkAll ds ≤ 1048576)
def OpenSpec.upto (s : _root_.Go.ChangeSpec) : _root_.Go.OpenSpec := { _root_.Go.OpenSpec.ofChange s with cond := some uptoSmall }

/-- 'laws.FnExactAreTies', WHERE WHAT IT READS IS OF BULK AT MOST 1048576: true; the input reads as it did. -/
def fnExactAreTiesUptoRow : OpenClaim := { program := "ytmbejkchgdcdhaadoor", sum := "bcbe1a23f3c5a02ac541ab2445de0e017739a05aaa47d18e5d4d01f0e38c0d9a", func := "loop.example/g01030/laws.FnExactAreTies", spec := "fnExactAreTies", inPlace := ["internal/bytealg.IndexByteString", "internal/bytealg.IndexString"], unfollowed := true, recurses := true, named := ["unicode/utf8.first", "unicode/utf8.acceptRanges", "internal/bytealg.MaxLen"], apart := false, laid := [("unicode/utf8.acceptRanges", laid_unicode_utf8_acceptRanges), ("unicode/utf8.first", laid_unicode_utf8_first)], narrowed := true }
def FnExactAreTiesUptoSaid : Prop := fnExactAreTiesUptoRow.holds Tryd.pinned (OpenSpec.upto fnExactAreTiesSpec)

/-- 'laws.FnExactRemoveTie', WHERE WHAT IT READS IS OF BULK AT MOST 1048576: true; the input reads as it did. -/
def fnExactRemoveTieUptoRow : OpenClaim := { program := "ytmbejkchgdcdhaadoor", sum := "bcbe1a23f3c5a02ac541ab2445de0e017739a05aaa47d18e5d4d01f0e38c0d9a", func := "loop.example/g01030/laws.FnExactRemoveTie", spec := "fnExactRemoveTie", inPlace := ["internal/bytealg.IndexByteString", "internal/bytealg.IndexString"], unfollowed := true, recurses := true, named := ["unicode/utf8.first", "unicode/utf8.acceptRanges", "internal/bytealg.MaxLen"], apart := false, laid := [("unicode/utf8.acceptRanges", laid_unicode_utf8_acceptRanges), ("unicode/utf8.first", laid_unicode_utf8_first)], narrowed := true }
def FnExactRemoveTieUptoSaid : Prop := fnExactRemoveTieUptoRow.holds Tryd.pinned (OpenSpec.upto fnExactRemoveTieSpec)

/-- 'laws.FnExactAreSound', WHERE WHAT IT READS IS OF BULK AT MOST 1048576: true; the input reads as it did. -/
def fnExactAreSoundUptoRow : OpenClaim := { program := "ytmbejkchgdcdhaadoor", sum := "bcbe1a23f3c5a02ac541ab2445de0e017739a05aaa47d18e5d4d01f0e38c0d9a", func := "loop.example/g01030/laws.FnExactAreSound", spec := "fnExactAreSound", inPlace := ["internal/bytealg.IndexByteString", "internal/bytealg.IndexString"], unfollowed := true, recurses := true, named := ["unicode/utf8.first", "unicode/utf8.acceptRanges", "internal/bytealg.MaxLen"], apart := false, laid := [("unicode/utf8.acceptRanges", laid_unicode_utf8_acceptRanges), ("unicode/utf8.first", laid_unicode_utf8_first)], narrowed := true }
def FnExactAreSoundUptoSaid : Prop := fnExactAreSoundUptoRow.holds Tryd.pinned (OpenSpec.upto fnExactAreSoundSpec)

/-- 'laws.FnExactMayBeSame', WHERE WHAT IT READS IS OF BULK AT MOST 1048576: true; the input reads as it did. -/
def fnExactMayBeSameUptoRow : OpenClaim := { program := "ytmbejkchgdcdhaadoor", sum := "bcbe1a23f3c5a02ac541ab2445de0e017739a05aaa47d18e5d4d01f0e38c0d9a", func := "loop.example/g01030/laws.FnExactMayBeSame", spec := "fnExactMayBeSame", inPlace := ["internal/bytealg.IndexByteString", "internal/bytealg.IndexString"], unfollowed := true, recurses := true, named := ["unicode/utf8.first", "unicode/utf8.acceptRanges", "internal/bytealg.MaxLen"], apart := false, laid := [("unicode/utf8.acceptRanges", laid_unicode_utf8_acceptRanges), ("unicode/utf8.first", laid_unicode_utf8_first)], narrowed := true }
def FnExactMayBeSameUptoSaid : Prop := fnExactMayBeSameUptoRow.holds Tryd.pinned (OpenSpec.upto fnExactMayBeSameSpec)

/-- 'laws.FnExactSplitsBy', WHERE WHAT IT READS IS OF BULK AT MOST 1048576: true; the input reads as it did. -/
def fnExactSplitsByUptoRow : OpenClaim := { program := "ytmbejkchgdcdhaadoor", sum := "bcbe1a23f3c5a02ac541ab2445de0e017739a05aaa47d18e5d4d01f0e38c0d9a", func := "loop.example/g01030/laws.FnExactSplitsBy", spec := "fnExactSplitsBy", inPlace := ["internal/bytealg.IndexByteString", "internal/bytealg.IndexString"], unfollowed := true, recurses := true, named := ["unicode/utf8.first", "unicode/utf8.acceptRanges", "internal/bytealg.MaxLen"], apart := false, laid := [("unicode/utf8.acceptRanges", laid_unicode_utf8_acceptRanges), ("unicode/utf8.first", laid_unicode_utf8_first)], narrowed := true }
def FnExactSplitsByUptoSaid : Prop := fnExactSplitsByUptoRow.holds Tryd.pinned (OpenSpec.upto fnExactSplitsBySpec)

/-- 'laws.FnExactAddTie', WHERE WHAT IT READS IS OF BULK AT MOST 1048576: true; the input reads as it did. -/
def fnExactAddTieUptoRow : OpenClaim := { program := "ytmbejkchgdcdhaadoor", sum := "bcbe1a23f3c5a02ac541ab2445de0e017739a05aaa47d18e5d4d01f0e38c0d9a", func := "loop.example/g01030/laws.FnExactAddTie", spec := "fnExactAddTie", inPlace := ["internal/bytealg.IndexByteString", "internal/bytealg.IndexString"], unfollowed := true, recurses := true, named := ["unicode/utf8.first", "unicode/utf8.acceptRanges", "internal/bytealg.MaxLen"], apart := false, laid := [("unicode/utf8.acceptRanges", laid_unicode_utf8_acceptRanges), ("unicode/utf8.first", laid_unicode_utf8_first)], narrowed := true }
def FnExactAddTieUptoSaid : Prop := fnExactAddTieUptoRow.holds Tryd.pinned (OpenSpec.upto fnExactAddTieSpec)

/-- 'laws.FnExactGroupsOf', WHERE WHAT IT READS IS OF BULK AT MOST 1048576: true; the input reads as it did. -/
def fnExactGroupsOfUptoRow : OpenClaim := { program := "ytmbejkchgdcdhaadoor", sum := "bcbe1a23f3c5a02ac541ab2445de0e017739a05aaa47d18e5d4d01f0e38c0d9a", func := "loop.example/g01030/laws.FnExactGroupsOf", spec := "fnExactGroupsOf", inPlace := ["internal/bytealg.IndexByteString", "internal/bytealg.IndexString"], unfollowed := true, recurses := true, named := ["unicode/utf8.first", "unicode/utf8.acceptRanges", "internal/bytealg.MaxLen"], apart := false, laid := [("unicode/utf8.acceptRanges", laid_unicode_utf8_acceptRanges), ("unicode/utf8.first", laid_unicode_utf8_first)], narrowed := true }
def FnExactGroupsOfUptoSaid : Prop := fnExactGroupsOfUptoRow.holds Tryd.pinned (OpenSpec.upto fnExactGroupsOfSpec)

/-- 'laws.FnExactRefutation', WHERE WHAT IT READS IS OF BULK AT MOST 1048576: true; the input reads as it did. -/
def fnExactRefutationUptoRow : OpenClaim := { program := "ytmbejkchgdcdhaadoor", sum := "bcbe1a23f3c5a02ac541ab2445de0e017739a05aaa47d18e5d4d01f0e38c0d9a", func := "loop.example/g01030/laws.FnExactRefutation", spec := "fnExactRefutation", inPlace := ["internal/bytealg.IndexByteString", "internal/bytealg.IndexString"], unfollowed := true, recurses := true, named := ["unicode/utf8.first", "unicode/utf8.acceptRanges", "internal/bytealg.MaxLen"], apart := false, laid := [("unicode/utf8.acceptRanges", laid_unicode_utf8_acceptRanges), ("unicode/utf8.first", laid_unicode_utf8_first)], narrowed := true }
def FnExactRefutationUptoSaid : Prop := fnExactRefutationUptoRow.holds Tryd.pinned (OpenSpec.upto fnExactRefutationSpec)

/-- 'laws.FnExactProofOf', WHERE WHAT IT READS IS OF BULK AT MOST 1048576: true; the input reads as it did. -/
def fnExactProofOfUptoRow : OpenClaim := { program := "ytmbejkchgdcdhaadoor", sum := "bcbe1a23f3c5a02ac541ab2445de0e017739a05aaa47d18e5d4d01f0e38c0d9a", func := "loop.example/g01030/laws.FnExactProofOf", spec := "fnExactProofOf", inPlace := ["internal/bytealg.IndexByteString", "internal/bytealg.IndexString"], unfollowed := true, recurses := true, named := ["unicode/utf8.first", "unicode/utf8.acceptRanges", "internal/bytealg.MaxLen"], apart := false, laid := [("unicode/utf8.acceptRanges", laid_unicode_utf8_acceptRanges), ("unicode/utf8.first", laid_unicode_utf8_first)], narrowed := true }
def FnExactProofOfUptoSaid : Prop := fnExactProofOfUptoRow.holds Tryd.pinned (OpenSpec.upto fnExactProofOfSpec)

/-- 'laws.FnTies', WHERE WHAT IT READS IS OF BULK AT MOST 1048576: true; the input reads as it did. -/
def fnTiesUptoRow : OpenClaim := { program := "ytmbejkchgdcdhaadoor", sum := "bcbe1a23f3c5a02ac541ab2445de0e017739a05aaa47d18e5d4d01f0e38c0d9a", func := "loop.example/g01030/laws.FnTies", spec := "fnTies", inPlace := ["internal/bytealg.IndexByteString", "internal/bytealg.IndexString"], unfollowed := true, recurses := true, named := ["unicode/utf8.first", "unicode/utf8.acceptRanges", "internal/bytealg.MaxLen"], apart := false, laid := [("unicode/utf8.acceptRanges", laid_unicode_utf8_acceptRanges), ("unicode/utf8.first", laid_unicode_utf8_first)], narrowed := true }
def FnTiesUptoSaid : Prop := fnTiesUptoRow.holds Tryd.pinned (OpenSpec.upto fnTiesSpec)

/-- 'laws.FnLinks', WHERE WHAT IT READS IS OF BULK AT MOST 1048576: true; the input reads as it did. -/
def fnLinksUptoRow : OpenClaim := { program := "ytmbejkchgdcdhaadoor", sum := "bcbe1a23f3c5a02ac541ab2445de0e017739a05aaa47d18e5d4d01f0e38c0d9a", func := "loop.example/g01030/laws.FnLinks", spec := "fnLinks", inPlace := ["internal/bytealg.IndexByteString", "internal/bytealg.IndexString"], unfollowed := true, recurses := true, named := ["unicode/utf8.first", "unicode/utf8.acceptRanges", "internal/bytealg.MaxLen"], apart := false, laid := [("unicode/utf8.acceptRanges", laid_unicode_utf8_acceptRanges), ("unicode/utf8.first", laid_unicode_utf8_first)], narrowed := true }
def FnLinksUptoSaid : Prop := fnLinksUptoRow.holds Tryd.pinned (OpenSpec.upto fnLinksSpec)

end Rows
end Go.Proofs.YtmbejkchgdcdhaaDoor
