/-
  DERIVED. GIVEN WITH THE SEED: THE CARDS: each row of YtfllgbokdhhedaaGreatDoorRows.lean that lists a variable, with what it lists TIED to the program's text (the seventh form; the later family's looks); each row that meets fmt, with fmt's text TOLD by the authors' own Lean function (tested against real Go, not proved from fmt's source: count such statements apart). THE CARD IS WHAT COUNTS. Prove the row's statement (the work); the ties are given (YtfllgbokdhhedaaGreatDoorTie.lean); close each card by the builder's one call (the guide's Derived/Test/ToyasCard.lean, 'card_holds'). Laid BY PROGRAM, IN A SANDBOX (cutbox-door.mjs). By AI agents, Wed Nov 11 2026. No macro, syntax, notation, axiom, sorry.
-/
import Derived.Test.YtfllgbokdhhedaaGreatDoorRows
import GoSem.ClaimSeven
namespace Go.Proofs.YtfllgbokdhhedaaGreatDoor
namespace Rows

/-- THE TIED CARD OF 'laws.FnConsistent'. -/
def fnConsistentCard : Claim7 := { stood := { row := fnConsistentRow, standIns := [], harness := (true, "344f1a4c3f5c5a0ea732548e72d69be2787f339a32999847b3ba3acd814142e9"), looks := false }, kinds := [], alts := [], laidByText := true, laidKinds := [.data, .pinned], laidTests := true, laidLooks := .later }
def FnConsistentCardSaid : Prop := Claim7.holds Tryz.pinned (.plain (OpenSpec.ofChange fnConsistentSpec)) fnConsistentCard

/-- THE SECOND FORM's CARD OF 'laws.FnConsistent'. -/
def fnConsistentUptoCard : Claim7 := { stood := { row := fnConsistentUptoRow, standIns := [], harness := (true, "344f1a4c3f5c5a0ea732548e72d69be2787f339a32999847b3ba3acd814142e9"), looks := false }, kinds := [], alts := [], laidByText := true, laidKinds := [.data, .pinned], laidTests := true, laidLooks := .later }
def FnConsistentUptoCardSaid : Prop := Claim7.holds Tryz.pinned (.plain (OpenSpec.upto fnConsistentSpec)) fnConsistentUptoCard
end Rows
end Go.Proofs.YtfllgbokdhhedaaGreatDoor
