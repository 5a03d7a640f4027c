/-
  NARROWER THAN 'FOR EVERY INPUT', by the rows' own cells (each row's printed sentence says how): FnExactIsLog: laid · FnExactAtOnce: laid · FnExactVectorOf: laid · FnExactMissingFor: laid · FnExactTextOf: laid · FnExactRivalsOf: laid · FnExactMakeOp: laid · FnExactMergeLogs: laid · FnOps: laid.
  DERIVED. THE GIVEN ROWS OF THIS SEAT. 9 by the template 'for every input the law returns true; each argument reads behind the call as it read before'; 0 by the template 'total and deterministic' (their statements: YthfcdicfcepfhaaDoorTotals.lean).
  GIVEN WITH THE SEED: the statements are not yours to turn. If you find one false, say at which input.
  Laid BY PROGRAM, IN A SANDBOX (cutbox-rows.mjs): the forced cells as the released guide's own fill.sh prints them over the translation 4c2e4f53c47baef1… (all of the seat's roots in one cut). By AI agents, Wed Nov 11 2026. No macro, syntax, notation, axiom, sorry.
-/
import Derived.Test.YthfcdicfcepfhaaDoorChecked
import GoSem.PinnedTables
import GoSem.Claim
import GoSem.ClaimJoined
import GoSem.ClaimMapViews
import Derived.JoinedTies
import Derived.KernelRfl
namespace Go.Proofs.YthfcdicfcepfhaaDoor
/- THE CELL 'sum', in the pinned program and in every row, IS THE sha256 OF THE DUMP (.gsa) THAT YthfcdicfcepfhaaDoorProg.lean LOADS. Nothing in Lean hashes anything: it is a label: what it is worth is what the hold of that sum in a sandbox is worth. -/
noncomputable def Tryd.pinned : Pinned := { name := "ythfcdicfcepfhaadoor", sum := "4c2e4f53c47baef10b2290ee09fbebacb6e347ca25b78d75add3ec7f98795232", checked := Tryd.checked }
namespace Rows
def none {H : Type} : Left H := { results := [], args := [] }

/- WHAT THE LISTED PACKAGE-LEVEL VARIABLES READ AS WHEN THE CALL BEGINS. Each datum BY PROGRAM (the guide's laid-datum.mjs) off the statement by which the dump's own 'gosem.cut.vars' lays the variable. In a bare row this is a premise. The card (YthfcdicfcepfhaaDoorCards.lean) ties it to the program's text. -/
def laid_unicode_utf8_acceptRanges {H : Type} : DataW H := .agg [.agg [.lit (.int .u8 128), .lit (.int .u8 191)], .agg [.lit (.int .u8 160), .lit (.int .u8 191)], .agg [.lit (.int .u8 128), .lit (.int .u8 159)], .agg [.lit (.int .u8 144), .lit (.int .u8 191)], .agg [.lit (.int .u8 128), .lit (.int .u8 143)], .agg [.lit (.int .u8 0), .lit (.int .u8 0)], .agg [.lit (.int .u8 0), .lit (.int .u8 0)], .agg [.lit (.int .u8 0), .lit (.int .u8 0)], .agg [.lit (.int .u8 0), .lit (.int .u8 0)], .agg [.lit (.int .u8 0), .lit (.int .u8 0)], .agg [.lit (.int .u8 0), .lit (.int .u8 0)], .agg [.lit (.int .u8 0), .lit (.int .u8 0)], .agg [.lit (.int .u8 0), .lit (.int .u8 0)], .agg [.lit (.int .u8 0), .lit (.int .u8 0)], .agg [.lit (.int .u8 0), .lit (.int .u8 0)], .agg [.lit (.int .u8 0), .lit (.int .u8 0)]]
/-- One of Go's own tables, pinned by name: the form's constant. -/
def laid_unicode_utf8_first : DataW Unit := Go.Pinned.utf8First

/-- 'laws.FnExactIsLog': WHATEVER THE INPUT: true; the input reads as it did. -/
def fnExactIsLogSpec : ChangeSpec := { name := "fnExactIsLog", fn := fun _ => fun
  | [d] => { results := [.lit (.bool true)], args := [d] }
  | _ => none }
def fnExactIsLogRow : OpenClaim := { program := "ythfcdicfcepfhaadoor", sum := "4c2e4f53c47baef10b2290ee09fbebacb6e347ca25b78d75add3ec7f98795232", func := "loop.example/g01030/laws.FnExactIsLog", spec := "fnExactIsLog", inPlace := ["internal/bytealg.IndexByteString", "internal/bytealg.IndexString", "internal/bytealg.CountString"], unfollowed := true, recurses := true, named := ["unicode/utf8.first", "unicode/utf8.acceptRanges", "internal/bytealg.MaxLen"], apart := false, laid := [("unicode/utf8.acceptRanges", laid_unicode_utf8_acceptRanges), ("unicode/utf8.first", laid_unicode_utf8_first)] }
def FnExactIsLogSaid : Prop := fnExactIsLogRow.holds Tryd.pinned (OpenSpec.ofChange fnExactIsLogSpec)

/-- ITS FALSE NEIGHBOUR: 'it returns false'. Refute it at one input. -/
def fnExactIsLogWrong : ChangeSpec := { name := "fnExactIsLog", fn := fun _ => fun
  | [d] => { results := [.lit (.bool false)], args := [d] }
  | _ => none }
def FnExactIsLogWrongFalsely : Prop := fnExactIsLogRow.holds Tryd.pinned (OpenSpec.ofChange fnExactIsLogWrong)

/-- 'laws.FnExactAtOnce': WHATEVER THE INPUT: true; the input reads as it did. -/
def fnExactAtOnceSpec : ChangeSpec := { name := "fnExactAtOnce", fn := fun _ => fun
  | [d1, d2, d3] => { results := [.lit (.bool true)], args := [d1, d2, d3] }
  | _ => none }
def fnExactAtOnceRow : OpenClaim := { program := "ythfcdicfcepfhaadoor", sum := "4c2e4f53c47baef10b2290ee09fbebacb6e347ca25b78d75add3ec7f98795232", func := "loop.example/g01030/laws.FnExactAtOnce", spec := "fnExactAtOnce", inPlace := ["internal/bytealg.IndexByteString", "internal/bytealg.IndexString", "internal/bytealg.CountString"], unfollowed := true, recurses := true, named := ["unicode/utf8.first", "unicode/utf8.acceptRanges", "internal/bytealg.MaxLen"], apart := false, laid := [("unicode/utf8.acceptRanges", laid_unicode_utf8_acceptRanges), ("unicode/utf8.first", laid_unicode_utf8_first)] }
def FnExactAtOnceSaid : Prop := fnExactAtOnceRow.holds Tryd.pinned (OpenSpec.ofChange fnExactAtOnceSpec)

/-- ITS FALSE NEIGHBOUR: 'it returns false'. Refute it at one input. -/
def fnExactAtOnceWrong : ChangeSpec := { name := "fnExactAtOnce", fn := fun _ => fun
  | [d1, d2, d3] => { results := [.lit (.bool false)], args := [d1, d2, d3] }
  | _ => none }
def FnExactAtOnceWrongFalsely : Prop := fnExactAtOnceRow.holds Tryd.pinned (OpenSpec.ofChange fnExactAtOnceWrong)

/-- 'laws.FnExactVectorOf': WHATEVER THE INPUT: true; the input reads as it did. -/
def fnExactVectorOfSpec : ChangeSpec := { name := "fnExactVectorOf", fn := fun _ => fun
  | [d] => { results := [.lit (.bool true)], args := [d] }
  | _ => none }
def fnExactVectorOfRow : OpenClaim := { program := "ythfcdicfcepfhaadoor", sum := "4c2e4f53c47baef10b2290ee09fbebacb6e347ca25b78d75add3ec7f98795232", func := "loop.example/g01030/laws.FnExactVectorOf", spec := "fnExactVectorOf", inPlace := ["internal/bytealg.IndexByteString", "internal/bytealg.IndexString", "internal/bytealg.CountString"], unfollowed := true, recurses := true, named := ["unicode/utf8.first", "unicode/utf8.acceptRanges", "internal/bytealg.MaxLen"], apart := false, laid := [("unicode/utf8.acceptRanges", laid_unicode_utf8_acceptRanges), ("unicode/utf8.first", laid_unicode_utf8_first)] }
def FnExactVectorOfSaid : Prop := fnExactVectorOfRow.holds Tryd.pinned (OpenSpec.ofChange fnExactVectorOfSpec)

/-- ITS FALSE NEIGHBOUR: 'it returns false'. Refute it at one input. -/
def fnExactVectorOfWrong : ChangeSpec := { name := "fnExactVectorOf", fn := fun _ => fun
  | [d] => { results := [.lit (.bool false)], args := [d] }
  | _ => none }
def FnExactVectorOfWrongFalsely : Prop := fnExactVectorOfRow.holds Tryd.pinned (OpenSpec.ofChange fnExactVectorOfWrong)

/-- 'laws.FnExactMissingFor': WHATEVER THE INPUT: true; the input reads as it did. -/
def fnExactMissingForSpec : ChangeSpec := { name := "fnExactMissingFor", fn := fun _ => fun
  | [d1, d2] => { results := [.lit (.bool true)], args := [d1, d2] }
  | _ => none }
def fnExactMissingForRow : OpenClaim := { program := "ythfcdicfcepfhaadoor", sum := "4c2e4f53c47baef10b2290ee09fbebacb6e347ca25b78d75add3ec7f98795232", func := "loop.example/g01030/laws.FnExactMissingFor", spec := "fnExactMissingFor", inPlace := ["internal/bytealg.IndexByteString", "internal/bytealg.IndexString", "internal/bytealg.CountString"], unfollowed := true, recurses := true, named := ["unicode/utf8.first", "unicode/utf8.acceptRanges", "internal/bytealg.MaxLen"], apart := false, laid := [("unicode/utf8.acceptRanges", laid_unicode_utf8_acceptRanges), ("unicode/utf8.first", laid_unicode_utf8_first)] }
def FnExactMissingForSaid : Prop := fnExactMissingForRow.holds Tryd.pinned (OpenSpec.ofChange fnExactMissingForSpec)

/-- ITS FALSE NEIGHBOUR: 'it returns false'. Refute it at one input. -/
def fnExactMissingForWrong : ChangeSpec := { name := "fnExactMissingFor", fn := fun _ => fun
  | [d1, d2] => { results := [.lit (.bool false)], args := [d1, d2] }
  | _ => none }
def FnExactMissingForWrongFalsely : Prop := fnExactMissingForRow.holds Tryd.pinned (OpenSpec.ofChange fnExactMissingForWrong)

/-- 'laws.FnExactTextOf': WHATEVER THE INPUT: true; the input reads as it did. -/
def fnExactTextOfSpec : ChangeSpec := { name := "fnExactTextOf", fn := fun _ => fun
  | [d1, d2] => { results := [.lit (.bool true)], args := [d1, d2] }
  | _ => none }
def fnExactTextOfRow : OpenClaim := { program := "ythfcdicfcepfhaadoor", sum := "4c2e4f53c47baef10b2290ee09fbebacb6e347ca25b78d75add3ec7f98795232", func := "loop.example/g01030/laws.FnExactTextOf", spec := "fnExactTextOf", inPlace := ["internal/bytealg.IndexByteString", "internal/bytealg.IndexString", "internal/bytealg.CountString"], unfollowed := true, recurses := true, named := ["unicode/utf8.first", "unicode/utf8.acceptRanges", "internal/bytealg.MaxLen"], apart := false, laid := [("unicode/utf8.acceptRanges", laid_unicode_utf8_acceptRanges), ("unicode/utf8.first", laid_unicode_utf8_first)] }
def FnExactTextOfSaid : Prop := fnExactTextOfRow.holds Tryd.pinned (OpenSpec.ofChange fnExactTextOfSpec)

/-- ITS FALSE NEIGHBOUR: 'it returns false'. Refute it at one input. -/
def fnExactTextOfWrong : ChangeSpec := { name := "fnExactTextOf", fn := fun _ => fun
  | [d1, d2] => { results := [.lit (.bool false)], args := [d1, d2] }
  | _ => none }
def FnExactTextOfWrongFalsely : Prop := fnExactTextOfRow.holds Tryd.pinned (OpenSpec.ofChange fnExactTextOfWrong)

/-- 'laws.FnExactRivalsOf': WHATEVER THE INPUT: true; the input reads as it did. -/
def fnExactRivalsOfSpec : ChangeSpec := { name := "fnExactRivalsOf", fn := fun _ => fun
  | [d1, d2] => { results := [.lit (.bool true)], args := [d1, d2] }
  | _ => none }
def fnExactRivalsOfRow : OpenClaim := { program := "ythfcdicfcepfhaadoor", sum := "4c2e4f53c47baef10b2290ee09fbebacb6e347ca25b78d75add3ec7f98795232", func := "loop.example/g01030/laws.FnExactRivalsOf", spec := "fnExactRivalsOf", inPlace := ["internal/bytealg.IndexByteString", "internal/bytealg.IndexString", "internal/bytealg.CountString"], unfollowed := true, recurses := true, named := ["unicode/utf8.first", "unicode/utf8.acceptRanges", "internal/bytealg.MaxLen"], apart := false, laid := [("unicode/utf8.acceptRanges", laid_unicode_utf8_acceptRanges), ("unicode/utf8.first", laid_unicode_utf8_first)] }
def FnExactRivalsOfSaid : Prop := fnExactRivalsOfRow.holds Tryd.pinned (OpenSpec.ofChange fnExactRivalsOfSpec)

/-- ITS FALSE NEIGHBOUR: 'it returns false'. Refute it at one input. -/
def fnExactRivalsOfWrong : ChangeSpec := { name := "fnExactRivalsOf", fn := fun _ => fun
  | [d1, d2] => { results := [.lit (.bool false)], args := [d1, d2] }
  | _ => none }
def FnExactRivalsOfWrongFalsely : Prop := fnExactRivalsOfRow.holds Tryd.pinned (OpenSpec.ofChange fnExactRivalsOfWrong)

/-- 'laws.FnExactMakeOp': WHATEVER THE INPUT: true; the input reads as it did. -/
def fnExactMakeOpSpec : ChangeSpec := { name := "fnExactMakeOp", fn := fun _ => fun
  | [d1, d2, d3, d4] => { results := [.lit (.bool true)], args := [d1, d2, d3, d4] }
  | _ => none }
def fnExactMakeOpRow : OpenClaim := { program := "ythfcdicfcepfhaadoor", sum := "4c2e4f53c47baef10b2290ee09fbebacb6e347ca25b78d75add3ec7f98795232", func := "loop.example/g01030/laws.FnExactMakeOp", spec := "fnExactMakeOp", inPlace := ["internal/bytealg.IndexByteString", "internal/bytealg.IndexString", "internal/bytealg.CountString"], unfollowed := true, recurses := true, named := ["unicode/utf8.first", "unicode/utf8.acceptRanges", "internal/bytealg.MaxLen"], apart := false, laid := [("unicode/utf8.acceptRanges", laid_unicode_utf8_acceptRanges), ("unicode/utf8.first", laid_unicode_utf8_first)] }
def FnExactMakeOpSaid : Prop := fnExactMakeOpRow.holds Tryd.pinned (OpenSpec.ofChange fnExactMakeOpSpec)

/-- ITS FALSE NEIGHBOUR: 'it returns false'. Refute it at one input. -/
def fnExactMakeOpWrong : ChangeSpec := { name := "fnExactMakeOp", fn := fun _ => fun
  | [d1, d2, d3, d4] => { results := [.lit (.bool false)], args := [d1, d2, d3, d4] }
  | _ => none }
def FnExactMakeOpWrongFalsely : Prop := fnExactMakeOpRow.holds Tryd.pinned (OpenSpec.ofChange fnExactMakeOpWrong)

/-- 'laws.FnExactMergeLogs': WHATEVER THE INPUT: true; the input reads as it did. -/
def fnExactMergeLogsSpec : ChangeSpec := { name := "fnExactMergeLogs", fn := fun _ => fun
  | [d1, d2] => { results := [.lit (.bool true)], args := [d1, d2] }
  | _ => none }
def fnExactMergeLogsRow : OpenClaim := { program := "ythfcdicfcepfhaadoor", sum := "4c2e4f53c47baef10b2290ee09fbebacb6e347ca25b78d75add3ec7f98795232", func := "loop.example/g01030/laws.FnExactMergeLogs", spec := "fnExactMergeLogs", inPlace := ["internal/bytealg.IndexByteString", "internal/bytealg.IndexString", "internal/bytealg.CountString"], unfollowed := true, recurses := true, named := ["unicode/utf8.first", "unicode/utf8.acceptRanges", "internal/bytealg.MaxLen"], apart := false, laid := [("unicode/utf8.acceptRanges", laid_unicode_utf8_acceptRanges), ("unicode/utf8.first", laid_unicode_utf8_first)] }
def FnExactMergeLogsSaid : Prop := fnExactMergeLogsRow.holds Tryd.pinned (OpenSpec.ofChange fnExactMergeLogsSpec)

/-- ITS FALSE NEIGHBOUR: 'it returns false'. Refute it at one input. -/
def fnExactMergeLogsWrong : ChangeSpec := { name := "fnExactMergeLogs", fn := fun _ => fun
  | [d1, d2] => { results := [.lit (.bool false)], args := [d1, d2] }
  | _ => none }
def FnExactMergeLogsWrongFalsely : Prop := fnExactMergeLogsRow.holds Tryd.pinned (OpenSpec.ofChange fnExactMergeLogsWrong)

/-- 'laws.FnOps': WHATEVER THE INPUT: true; the input reads as it did. -/
def fnOpsSpec : ChangeSpec := { name := "fnOps", fn := fun _ => fun
  | [d] => { results := [.lit (.bool true)], args := [d] }
  | _ => none }
def fnOpsRow : OpenClaim := { program := "ythfcdicfcepfhaadoor", sum := "4c2e4f53c47baef10b2290ee09fbebacb6e347ca25b78d75add3ec7f98795232", func := "loop.example/g01030/laws.FnOps", spec := "fnOps", inPlace := ["internal/bytealg.IndexByteString", "internal/bytealg.IndexString", "internal/bytealg.CountString"], unfollowed := true, recurses := true, named := ["unicode/utf8.first", "unicode/utf8.acceptRanges", "internal/bytealg.MaxLen"], apart := false, laid := [("unicode/utf8.acceptRanges", laid_unicode_utf8_acceptRanges), ("unicode/utf8.first", laid_unicode_utf8_first)] }
def FnOpsSaid : Prop := fnOpsRow.holds Tryd.pinned (OpenSpec.ofChange fnOpsSpec)

/-- ITS FALSE NEIGHBOUR: 'it returns false'. Refute it at one input. -/
def fnOpsWrong : ChangeSpec := { name := "fnOps", fn := fun _ => fun
  | [d] => { results := [.lit (.bool false)], args := [d] }
  | _ => none }
def FnOpsWrongFalsely : Prop := fnOpsRow.holds Tryd.pinned (OpenSpec.ofChange fnOpsWrong)

/- THE SECOND FORM. 'bulk': how many values and letters a reading holds, each counted each time it is reached (what is shared counts as often as it is met; a slice's spare places count too). A statement '..UptoSaid' is the law's where the arguments, and the package variables that the reading takes, are together of bulk at most 1048576: NARROWER than '..Said'. Prove '..Said' where nothing that the law and all that it calls make is longer than what came in: it says more and counts as full. Else prove '..UptoSaid'. A law counts once. -/
mutual
def uptoBulk {H : Type} : DataW H → Nat
  | .lit (.string bytes) => bytes.length + 1
  | .lit _ => 1
  | .nil => 1
  | .ptr d => uptoBulk d + 1
  | .slice elems spare => uptoBulkAll elems + uptoBulkAll spare + 1
  | .agg parts => uptoBulkAll parts + 1
  | .iface _ d => uptoBulk d + 1
  | .map entries => uptoBulkEntries entries + 1
  | .held _ => 1
def uptoBulkAll {H : Type} : List (DataW H) → Nat
  | [] => 0
  | d :: r => uptoBulk d + uptoBulkAll r
def uptoBulkEntries {H : Type} : List (Lit × DataW H) → Nat
  | [] => 0
  | x :: r => uptoBulkEntry x + uptoBulkEntries r
def uptoBulkEntry {H : Type} : Lit × DataW H → Nat
  | (.string bytes, d) => bytes.length + uptoBulk d + 1
  | (_, d) => uptoBulk d + 1
 end
def uptoSmall : (H : Type) → List (DataW H) → Bool := fun _ ds => decide (uptoBulkAll ds ≤ 1048576)
def OpenSpec.upto (s : _root_.Go.ChangeSpec) : _root_.Go.OpenSpec := { _root_.Go.OpenSpec.ofChange s with cond := some uptoSmall }

/-- 'laws.FnExactIsLog', WHERE WHAT IT READS IS OF BULK AT MOST 1048576: true; the input reads as it did. -/
def fnExactIsLogUptoRow : OpenClaim := { program := "ythfcdicfcepfhaadoor", sum := "4c2e4f53c47baef10b2290ee09fbebacb6e347ca25b78d75add3ec7f98795232", func := "loop.example/g01030/laws.FnExactIsLog", spec := "fnExactIsLog", inPlace := ["internal/bytealg.IndexByteString", "internal/bytealg.IndexString", "internal/bytealg.CountString"], unfollowed := true, recurses := true, named := ["unicode/utf8.first", "unicode/utf8.acceptRanges", "internal/bytealg.MaxLen"], apart := false, laid := [("unicode/utf8.acceptRanges", laid_unicode_utf8_acceptRanges), ("unicode/utf8.first", laid_unicode_utf8_first)], narrowed := true }
def FnExactIsLogUptoSaid : Prop := fnExactIsLogUptoRow.holds Tryd.pinned (OpenSpec.upto fnExactIsLogSpec)

/-- 'laws.FnExactAtOnce', WHERE WHAT IT READS IS OF BULK AT MOST 1048576: true; the input reads as it did. -/
def fnExactAtOnceUptoRow : OpenClaim := { program := "ythfcdicfcepfhaadoor", sum := "4c2e4f53c47baef10b2290ee09fbebacb6e347ca25b78d75add3ec7f98795232", func := "loop.example/g01030/laws.FnExactAtOnce", spec := "fnExactAtOnce", inPlace := ["internal/bytealg.IndexByteString", "internal/bytealg.IndexString", "internal/bytealg.CountString"], unfollowed := true, recurses := true, named := ["unicode/utf8.first", "unicode/utf8.acceptRanges", "internal/bytealg.MaxLen"], apart := false, laid := [("unicode/utf8.acceptRanges", laid_unicode_utf8_acceptRanges), ("unicode/utf8.first", laid_unicode_utf8_first)], narrowed := true }
def FnExactAtOnceUptoSaid : Prop := fnExactAtOnceUptoRow.holds Tryd.pinned (OpenSpec.upto fnExactAtOnceSpec)

/-- 'laws.FnExactVectorOf', WHERE WHAT IT READS IS OF BULK AT MOST 1048576: true; the input reads as it did. -/
def fnExactVectorOfUptoRow : OpenClaim := { program := "ythfcdicfcepfhaadoor", sum := "4c2e4f53c47baef10b2290ee09fbebacb6e347ca25b78d75add3ec7f98795232", func := "loop.example/g01030/laws.FnExactVectorOf", spec := "fnExactVectorOf", inPlace := ["internal/bytealg.IndexByteString", "internal/bytealg.IndexString", "internal/bytealg.CountString"], unfollowed := true, recurses := true, named := ["unicode/utf8.first", "unicode/utf8.acceptRanges", "internal/bytealg.MaxLen"], apart := false, laid := [("unicode/utf8.acceptRanges", laid_unicode_utf8_acceptRanges), ("unicode/utf8.first", laid_unicode_utf8_first)], narrowed := true }
def FnExactVectorOfUptoSaid : Prop := fnExactVectorOfUptoRow.holds Tryd.pinned (OpenSpec.upto fnExactVectorOfSpec)

/-- 'laws.FnExactMissingFor', WHERE WHAT IT READS IS OF BULK AT MOST 1048576: true; the input reads as it did. -/
def fnExactMissingForUptoRow : OpenClaim := { program := "ythfcdicfcepfhaadoor", sum := "4c2e4f53c47baef10b2290ee09fbebacb6e347ca25b78d75add3ec7f98795232", func := "loop.example/g01030/laws.FnExactMissingFor", spec := "fnExactMissingFor", inPlace := ["internal/bytealg.IndexByteString", "internal/bytealg.IndexString", "internal/bytealg.CountString"], unfollowed := true, recurses := true, named := ["unicode/utf8.first", "unicode/utf8.acceptRanges", "internal/bytealg.MaxLen"], apart := false, laid := [("unicode/utf8.acceptRanges", laid_unicode_utf8_acceptRanges), ("unicode/utf8.first", laid_unicode_utf8_first)], narrowed := true }
def FnExactMissingForUptoSaid : Prop := fnExactMissingForUptoRow.holds Tryd.pinned (OpenSpec.upto fnExactMissingForSpec)

/-- 'laws.FnExactTextOf', WHERE WHAT IT READS IS OF BULK AT MOST 1048576: true; the input reads as it did. -/
def fnExactTextOfUptoRow : OpenClaim := { program := "ythfcdicfcepfhaadoor", sum := "4c2e4f53c47baef10b2290ee09fbebacb6e347ca25b78d75add3ec7f98795232", func := "loop.example/g01030/laws.FnExactTextOf", spec := "fnExactTextOf", inPlace := ["internal/bytealg.IndexByteString", "internal/bytealg.IndexString", "internal/bytealg.CountString"], unfollowed := true, recurses := true, named := ["unicode/utf8.first", "unicode/utf8.acceptRanges", "internal/bytealg.MaxLen"], apart := false, laid := [("unicode/utf8.acceptRanges", laid_unicode_utf8_acceptRanges), ("unicode/utf8.first", laid_unicode_utf8_first)], narrowed := true }
def FnExactTextOfUptoSaid : Prop := fnExactTextOfUptoRow.holds Tryd.pinned (OpenSpec.upto fnExactTextOfSpec)

/-- 'laws.FnExactRivalsOf', WHERE WHAT IT READS IS OF BULK AT MOST 1048576: true; the input reads as it did. -/
def fnExactRivalsOfUptoRow : OpenClaim := { program := "ythfcdicfcepfhaadoor", sum := "4c2e4f53c47baef10b2290ee09fbebacb6e347ca25b78d75add3ec7f98795232", func := "loop.example/g01030/laws.FnExactRivalsOf", spec := "fnExactRivalsOf", inPlace := ["internal/bytealg.IndexByteString", "internal/bytealg.IndexString", "internal/bytealg.CountString"], unfollowed := true, recurses := true, named := ["unicode/utf8.first", "unicode/utf8.acceptRanges", "internal/bytealg.MaxLen"], apart := false, laid := [("unicode/utf8.acceptRanges", laid_unicode_utf8_acceptRanges), ("unicode/utf8.first", laid_unicode_utf8_first)], narrowed := true }
def FnExactRivalsOfUptoSaid : Prop := fnExactRivalsOfUptoRow.holds Tryd.pinned (OpenSpec.upto fnExactRivalsOfSpec)

/-- 'laws.FnExactMakeOp', WHERE WHAT IT READS IS OF BULK AT MOST 1048576: true; the input reads as it did. -/
def fnExactMakeOpUptoRow : OpenClaim := { program := "ythfcdicfcepfhaadoor", sum := "4c2e4f53c47baef10b2290ee09fbebacb6e347ca25b78d75add3ec7f98795232", func := "loop.example/g01030/laws.FnExactMakeOp", spec := "fnExactMakeOp", inPlace := ["internal/bytealg.IndexByteString", "internal/bytealg.IndexString", "internal/bytealg.CountString"], unfollowed := true, recurses := true, named := ["unicode/utf8.first", "unicode/utf8.acceptRanges", "internal/bytealg.MaxLen"], apart := false, laid := [("unicode/utf8.acceptRanges", laid_unicode_utf8_acceptRanges), ("unicode/utf8.first", laid_unicode_utf8_first)], narrowed := true }
def FnExactMakeOpUptoSaid : Prop := fnExactMakeOpUptoRow.holds Tryd.pinned (OpenSpec.upto fnExactMakeOpSpec)

/-- 'laws.FnExactMergeLogs', WHERE WHAT IT READS IS OF BULK AT MOST 1048576: true; the input reads as it did. -/
def fnExactMergeLogsUptoRow : OpenClaim := { program := "ythfcdicfcepfhaadoor", sum := "4c2e4f53c47baef10b2290ee09fbebacb6e347ca25b78d75add3ec7f98795232", func := "loop.example/g01030/laws.FnExactMergeLogs", spec := "fnExactMergeLogs", inPlace := ["internal/bytealg.IndexByteString", "internal/bytealg.IndexString", "internal/bytealg.CountString"], unfollowed := true, recurses := true, named := ["unicode/utf8.first", "unicode/utf8.acceptRanges", "internal/bytealg.MaxLen"], apart := false, laid := [("unicode/utf8.acceptRanges", laid_unicode_utf8_acceptRanges), ("unicode/utf8.first", laid_unicode_utf8_first)], narrowed := true }
def FnExactMergeLogsUptoSaid : Prop := fnExactMergeLogsUptoRow.holds Tryd.pinned (OpenSpec.upto fnExactMergeLogsSpec)

/-- 'laws.FnOps', WHERE WHAT IT READS IS OF BULK AT MOST 1048576: true; the input reads as it did. -/
def fnOpsUptoRow : OpenClaim := { program := "ythfcdicfcepfhaadoor", sum := "4c2e4f53c47baef10b2290ee09fbebacb6e347ca25b78d75add3ec7f98795232", func := "loop.example/g01030/laws.FnOps", spec := "fnOps", inPlace := ["internal/bytealg.IndexByteString", "internal/bytealg.IndexString", "internal/bytealg.CountString"], unfollowed := true, recurses := true, named := ["unicode/utf8.first", "unicode/utf8.acceptRanges", "internal/bytealg.MaxLen"], apart := false, laid := [("unicode/utf8.acceptRanges", laid_unicode_utf8_acceptRanges), ("unicode/utf8.first", laid_unicode_utf8_first)], narrowed := true }
def FnOpsUptoSaid : Prop := fnOpsUptoRow.holds Tryd.pinned (OpenSpec.upto fnOpsSpec)

end Rows
end Go.Proofs.YthfcdicfcepfhaaDoor
