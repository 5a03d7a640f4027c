/-
  DERIVED. GIVEN WITH THE SEED: THE CARDS: each row of YtlbfeieehmpldaaDoorRows.lean that lists a variable, with what it lists TIED to the program's text (the seventh form; the later family's looks); each row that meets fmt, with fmt's text TOLD by the authors' own Lean function (tested against real Go, not proved from fmt's source: count such statements apart). THE CARD IS WHAT COUNTS. Prove the row's statement (the work); the ties are given (YtlbfeieehmpldaaDoorTie.lean); close each card by the builder's one call (the guide's Derived/Test/ToyasCard.lean, 'card_holds'). Laid BY PROGRAM, IN A SANDBOX (cutbox-door.mjs). By AI agents, Wed Nov 11 2026. No macro, syntax, notation, axiom, sorry.
-/
import Derived.Test.YtlbfeieehmpldaaDoorRows
import GoSem.ClaimSeven
namespace Go.Proofs.YtlbfeieehmpldaaDoor
namespace Rows

/-- THE TIED CARD OF 'laws.FnExactIsConsoleLine'. -/
def fnExactIsConsoleLineCard : Claim7 := { stood := { row := fnExactIsConsoleLineRow, standIns := [], harness := (true, "58614f9ecf595794ee1c47f8ff9d21660e53bc90cc1c217b655d602a0bdac4b2"), looks := true }, kinds := [], alts := [], laidByText := true, laidKinds := [.data, .data, .data, .data, .sentinel, .sentinel, .pinned], laidTests := true, laidLooks := .later }
def FnExactIsConsoleLineCardSaid : Prop := Claim7.holds Tryd.pinned (.plain (OpenSpec.ofChange fnExactIsConsoleLineSpec)) fnExactIsConsoleLineCard

/-- THE SECOND FORM's CARD OF 'laws.FnExactIsConsoleLine'. -/
def fnExactIsConsoleLineUptoCard : Claim7 := { stood := { row := fnExactIsConsoleLineUptoRow, standIns := [], harness := (true, "58614f9ecf595794ee1c47f8ff9d21660e53bc90cc1c217b655d602a0bdac4b2"), looks := true }, kinds := [], alts := [], laidByText := true, laidKinds := [.data, .data, .data, .data, .sentinel, .sentinel, .pinned], laidTests := true, laidLooks := .later }
def FnExactIsConsoleLineUptoCardSaid : Prop := Claim7.holds Tryd.pinned (.plain (OpenSpec.upto fnExactIsConsoleLineSpec)) fnExactIsConsoleLineUptoCard
end Rows
end Go.Proofs.YtlbfeieehmpldaaDoor
