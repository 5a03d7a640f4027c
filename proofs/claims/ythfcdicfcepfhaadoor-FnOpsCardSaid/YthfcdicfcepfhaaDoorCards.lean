/-
  DERIVED. GIVEN WITH THE SEED: THE CARDS: each row of YthfcdicfcepfhaaDoorRows.lean that lists a variable, with what it lists TIED to the program's text (the seventh form; the later family's looks); each row that meets fmt, with fmt's text TOLD by the authors' own Lean function (tested against real Go, not proved from fmt's source: count such statements apart). THE CARD IS WHAT COUNTS. Prove the row's statement (the work); the ties are given (YthfcdicfcepfhaaDoorTie.lean); close each card by the builder's one call (the guide's Derived/Test/ToyasCard.lean, 'card_holds'). Laid BY PROGRAM, IN A SANDBOX (cutbox-door.mjs). By AI agents, Wed Nov 11 2026. No macro, syntax, notation, axiom, sorry.
-/
import Derived.Test.YthfcdicfcepfhaaDoorRows
import GoSem.ClaimSeven
namespace Go.Proofs.YthfcdicfcepfhaaDoor
namespace Rows

/-- THE TIED CARD OF 'laws.FnExactIsLog'. -/
def fnExactIsLogCard : Claim7 := { stood := { row := fnExactIsLogRow, standIns := [], harness := (true, "b5c291ed0ff0ea5e422ab5d351a4fe0281a18510446be07b9dcdf3222f135825"), looks := false }, kinds := [], alts := [], laidByText := true, laidKinds := [.data, .pinned], laidTests := true, laidLooks := .later }
def FnExactIsLogCardSaid : Prop := Claim7.holds Tryd.pinned (.plain (OpenSpec.ofChange fnExactIsLogSpec)) fnExactIsLogCard

/-- THE TIED CARD OF 'laws.FnExactAtOnce'. -/
def fnExactAtOnceCard : Claim7 := { stood := { row := fnExactAtOnceRow, standIns := [], harness := (true, "b5c291ed0ff0ea5e422ab5d351a4fe0281a18510446be07b9dcdf3222f135825"), looks := false }, kinds := [], alts := [], laidByText := true, laidKinds := [.data, .pinned], laidTests := true, laidLooks := .later }
def FnExactAtOnceCardSaid : Prop := Claim7.holds Tryd.pinned (.plain (OpenSpec.ofChange fnExactAtOnceSpec)) fnExactAtOnceCard

/-- THE TIED CARD OF 'laws.FnExactVectorOf'. -/
def fnExactVectorOfCard : Claim7 := { stood := { row := fnExactVectorOfRow, standIns := [], harness := (true, "b5c291ed0ff0ea5e422ab5d351a4fe0281a18510446be07b9dcdf3222f135825"), looks := false }, kinds := [], alts := [], laidByText := true, laidKinds := [.data, .pinned], laidTests := true, laidLooks := .later }
def FnExactVectorOfCardSaid : Prop := Claim7.holds Tryd.pinned (.plain (OpenSpec.ofChange fnExactVectorOfSpec)) fnExactVectorOfCard

/-- THE TIED CARD OF 'laws.FnExactMissingFor'. -/
def fnExactMissingForCard : Claim7 := { stood := { row := fnExactMissingForRow, standIns := [], harness := (true, "b5c291ed0ff0ea5e422ab5d351a4fe0281a18510446be07b9dcdf3222f135825"), looks := false }, kinds := [], alts := [], laidByText := true, laidKinds := [.data, .pinned], laidTests := true, laidLooks := .later }
def FnExactMissingForCardSaid : Prop := Claim7.holds Tryd.pinned (.plain (OpenSpec.ofChange fnExactMissingForSpec)) fnExactMissingForCard

/-- THE TIED CARD OF 'laws.FnExactTextOf'. -/
def fnExactTextOfCard : Claim7 := { stood := { row := fnExactTextOfRow, standIns := [], harness := (true, "b5c291ed0ff0ea5e422ab5d351a4fe0281a18510446be07b9dcdf3222f135825"), looks := false }, kinds := [], alts := [], laidByText := true, laidKinds := [.data, .pinned], laidTests := true, laidLooks := .later }
def FnExactTextOfCardSaid : Prop := Claim7.holds Tryd.pinned (.plain (OpenSpec.ofChange fnExactTextOfSpec)) fnExactTextOfCard

/-- THE TIED CARD OF 'laws.FnExactRivalsOf'. -/
def fnExactRivalsOfCard : Claim7 := { stood := { row := fnExactRivalsOfRow, standIns := [], harness := (true, "b5c291ed0ff0ea5e422ab5d351a4fe0281a18510446be07b9dcdf3222f135825"), looks := false }, kinds := [], alts := [], laidByText := true, laidKinds := [.data, .pinned], laidTests := true, laidLooks := .later }
def FnExactRivalsOfCardSaid : Prop := Claim7.holds Tryd.pinned (.plain (OpenSpec.ofChange fnExactRivalsOfSpec)) fnExactRivalsOfCard

/-- THE TIED CARD OF 'laws.FnExactMakeOp'. -/
def fnExactMakeOpCard : Claim7 := { stood := { row := fnExactMakeOpRow, standIns := [], harness := (true, "b5c291ed0ff0ea5e422ab5d351a4fe0281a18510446be07b9dcdf3222f135825"), looks := false }, kinds := [], alts := [], laidByText := true, laidKinds := [.data, .pinned], laidTests := true, laidLooks := .later }
def FnExactMakeOpCardSaid : Prop := Claim7.holds Tryd.pinned (.plain (OpenSpec.ofChange fnExactMakeOpSpec)) fnExactMakeOpCard

/-- THE TIED CARD OF 'laws.FnExactMergeLogs'. -/
def fnExactMergeLogsCard : Claim7 := { stood := { row := fnExactMergeLogsRow, standIns := [], harness := (true, "b5c291ed0ff0ea5e422ab5d351a4fe0281a18510446be07b9dcdf3222f135825"), looks := false }, kinds := [], alts := [], laidByText := true, laidKinds := [.data, .pinned], laidTests := true, laidLooks := .later }
def FnExactMergeLogsCardSaid : Prop := Claim7.holds Tryd.pinned (.plain (OpenSpec.ofChange fnExactMergeLogsSpec)) fnExactMergeLogsCard

/-- THE TIED CARD OF 'laws.FnOps'. -/
def fnOpsCard : Claim7 := { stood := { row := fnOpsRow, standIns := [], harness := (true, "b5c291ed0ff0ea5e422ab5d351a4fe0281a18510446be07b9dcdf3222f135825"), looks := false }, kinds := [], alts := [], laidByText := true, laidKinds := [.data, .pinned], laidTests := true, laidLooks := .later }
def FnOpsCardSaid : Prop := Claim7.holds Tryd.pinned (.plain (OpenSpec.ofChange fnOpsSpec)) fnOpsCard

/-- THE SECOND FORM's CARD OF 'laws.FnExactIsLog'. -/
def fnExactIsLogUptoCard : Claim7 := { stood := { row := fnExactIsLogUptoRow, standIns := [], harness := (true, "b5c291ed0ff0ea5e422ab5d351a4fe0281a18510446be07b9dcdf3222f135825"), looks := false }, kinds := [], alts := [], laidByText := true, laidKinds := [.data, .pinned], laidTests := true, laidLooks := .later }
def FnExactIsLogUptoCardSaid : Prop := Claim7.holds Tryd.pinned (.plain (OpenSpec.upto fnExactIsLogSpec)) fnExactIsLogUptoCard

/-- THE SECOND FORM's CARD OF 'laws.FnExactAtOnce'. -/
def fnExactAtOnceUptoCard : Claim7 := { stood := { row := fnExactAtOnceUptoRow, standIns := [], harness := (true, "b5c291ed0ff0ea5e422ab5d351a4fe0281a18510446be07b9dcdf3222f135825"), looks := false }, kinds := [], alts := [], laidByText := true, laidKinds := [.data, .pinned], laidTests := true, laidLooks := .later }
def FnExactAtOnceUptoCardSaid : Prop := Claim7.holds Tryd.pinned (.plain (OpenSpec.upto fnExactAtOnceSpec)) fnExactAtOnceUptoCard

/-- THE SECOND FORM's CARD OF 'laws.FnExactVectorOf'. -/
def fnExactVectorOfUptoCard : Claim7 := { stood := { row := fnExactVectorOfUptoRow, standIns := [], harness := (true, "b5c291ed0ff0ea5e422ab5d351a4fe0281a18510446be07b9dcdf3222f135825"), looks := false }, kinds := [], alts := [], laidByText := true, laidKinds := [.data, .pinned], laidTests := true, laidLooks := .later }
def FnExactVectorOfUptoCardSaid : Prop := Claim7.holds Tryd.pinned (.plain (OpenSpec.upto fnExactVectorOfSpec)) fnExactVectorOfUptoCard

/-- THE SECOND FORM's CARD OF 'laws.FnExactMissingFor'. -/
def fnExactMissingForUptoCard : Claim7 := { stood := { row := fnExactMissingForUptoRow, standIns := [], harness := (true, "b5c291ed0ff0ea5e422ab5d351a4fe0281a18510446be07b9dcdf3222f135825"), looks := false }, kinds := [], alts := [], laidByText := true, laidKinds := [.data, .pinned], laidTests := true, laidLooks := .later }
def FnExactMissingForUptoCardSaid : Prop := Claim7.holds Tryd.pinned (.plain (OpenSpec.upto fnExactMissingForSpec)) fnExactMissingForUptoCard

/-- THE SECOND FORM's CARD OF 'laws.FnExactTextOf'. -/
def fnExactTextOfUptoCard : Claim7 := { stood := { row := fnExactTextOfUptoRow, standIns := [], harness := (true, "b5c291ed0ff0ea5e422ab5d351a4fe0281a18510446be07b9dcdf3222f135825"), looks := false }, kinds := [], alts := [], laidByText := true, laidKinds := [.data, .pinned], laidTests := true, laidLooks := .later }
def FnExactTextOfUptoCardSaid : Prop := Claim7.holds Tryd.pinned (.plain (OpenSpec.upto fnExactTextOfSpec)) fnExactTextOfUptoCard

/-- THE SECOND FORM's CARD OF 'laws.FnExactRivalsOf'. -/
def fnExactRivalsOfUptoCard : Claim7 := { stood := { row := fnExactRivalsOfUptoRow, standIns := [], harness := (true, "b5c291ed0ff0ea5e422ab5d351a4fe0281a18510446be07b9dcdf3222f135825"), looks := false }, kinds := [], alts := [], laidByText := true, laidKinds := [.data, .pinned], laidTests := true, laidLooks := .later }
def FnExactRivalsOfUptoCardSaid : Prop := Claim7.holds Tryd.pinned (.plain (OpenSpec.upto fnExactRivalsOfSpec)) fnExactRivalsOfUptoCard

/-- THE SECOND FORM's CARD OF 'laws.FnExactMakeOp'. -/
def fnExactMakeOpUptoCard : Claim7 := { stood := { row := fnExactMakeOpUptoRow, standIns := [], harness := (true, "b5c291ed0ff0ea5e422ab5d351a4fe0281a18510446be07b9dcdf3222f135825"), looks := false }, kinds := [], alts := [], laidByText := true, laidKinds := [.data, .pinned], laidTests := true, laidLooks := .later }
def FnExactMakeOpUptoCardSaid : Prop := Claim7.holds Tryd.pinned (.plain (OpenSpec.upto fnExactMakeOpSpec)) fnExactMakeOpUptoCard

/-- THE SECOND FORM's CARD OF 'laws.FnExactMergeLogs'. -/
def fnExactMergeLogsUptoCard : Claim7 := { stood := { row := fnExactMergeLogsUptoRow, standIns := [], harness := (true, "b5c291ed0ff0ea5e422ab5d351a4fe0281a18510446be07b9dcdf3222f135825"), looks := false }, kinds := [], alts := [], laidByText := true, laidKinds := [.data, .pinned], laidTests := true, laidLooks := .later }
def FnExactMergeLogsUptoCardSaid : Prop := Claim7.holds Tryd.pinned (.plain (OpenSpec.upto fnExactMergeLogsSpec)) fnExactMergeLogsUptoCard

/-- THE SECOND FORM's CARD OF 'laws.FnOps'. -/
def fnOpsUptoCard : Claim7 := { stood := { row := fnOpsUptoRow, standIns := [], harness := (true, "b5c291ed0ff0ea5e422ab5d351a4fe0281a18510446be07b9dcdf3222f135825"), looks := false }, kinds := [], alts := [], laidByText := true, laidKinds := [.data, .pinned], laidTests := true, laidLooks := .later }
def FnOpsUptoCardSaid : Prop := Claim7.holds Tryd.pinned (.plain (OpenSpec.upto fnOpsSpec)) fnOpsUptoCard
end Rows
end Go.Proofs.YthfcdicfcepfhaaDoor
