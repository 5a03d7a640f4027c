/-
  DERIVED. GIVEN WITH THE SEED: THE CARDS: each row of YtepmfngpdimkhaaGreatDoorRows.lean that lists a variable, with what it lists TIED to the program's text (the seventh form; the later family's looks); each row that meets fmt, with fmt's text TOLD by the authors' own Lean function (tested against real Go, not proved from fmt's source: count such statements apart). THE CARD IS WHAT COUNTS. Prove the row's statement (the work); the ties are given (YtepmfngpdimkhaaGreatDoorTie.lean); close each card by the builder's one call (the guide's Derived/Test/ToyasCard.lean, 'card_holds'). Laid BY PROGRAM, IN A SANDBOX (cutbox-door.mjs). By AI agents, Wed Nov 11 2026. No macro, syntax, notation, axiom, sorry.
-/
import Derived.Test.YtepmfngpdimkhaaGreatDoorRows
import GoSem.ClaimSeven
namespace Go.Proofs.YtepmfngpdimkhaaGreatDoor
namespace Rows

/-- THE TIED CARD OF 'laws.FnExactAnswerFor'. -/
def fnExactAnswerForCard : Claim7 := { stood := { row := fnExactAnswerForRow, standIns := [], harness := (true, "60f374a757abb674e75419def527a4db8586c8f5af4df8b644fbbe5275d2d43e"), looks := false }, kinds := [], alts := [], laidByText := true, laidKinds := [.data, .widerDeep, .pinned], laidTests := true, laidLooks := .later }
def FnExactAnswerForCardSaid : Prop := Claim7.holds Tryz.pinned (.plain (OpenSpec.ofChange fnExactAnswerForSpec)) fnExactAnswerForCard

/-- THE TIED CARD OF 'laws.FnExactAnswersOf'. -/
def fnExactAnswersOfCard : Claim7 := { stood := { row := fnExactAnswersOfRow, standIns := [], harness := (true, "60f374a757abb674e75419def527a4db8586c8f5af4df8b644fbbe5275d2d43e"), looks := false }, kinds := [], alts := [], laidByText := true, laidKinds := [.data, .widerDeep, .pinned], laidTests := true, laidLooks := .later }
def FnExactAnswersOfCardSaid : Prop := Claim7.holds Tryz.pinned (.plain (OpenSpec.ofChange fnExactAnswersOfSpec)) fnExactAnswersOfCard

/-- THE TIED CARD OF 'laws.FnExactRankOf'. -/
def fnExactRankOfCard : Claim7 := { stood := { row := fnExactRankOfRow, standIns := [], harness := (true, "60f374a757abb674e75419def527a4db8586c8f5af4df8b644fbbe5275d2d43e"), looks := false }, kinds := [], alts := [], laidByText := true, laidKinds := [.data, .widerDeep, .pinned], laidTests := true, laidLooks := .later }
def FnExactRankOfCardSaid : Prop := Claim7.holds Tryz.pinned (.plain (OpenSpec.ofChange fnExactRankOfSpec)) fnExactRankOfCard

/-- THE TIED CARD OF 'laws.FnExactLostWithout'. -/
def fnExactLostWithoutCard : Claim7 := { stood := { row := fnExactLostWithoutRow, standIns := [], harness := (true, "60f374a757abb674e75419def527a4db8586c8f5af4df8b644fbbe5275d2d43e"), looks := false }, kinds := [], alts := [], laidByText := true, laidKinds := [.data, .widerDeep, .pinned], laidTests := true, laidLooks := .later }
def FnExactLostWithoutCardSaid : Prop := Claim7.holds Tryz.pinned (.plain (OpenSpec.ofChange fnExactLostWithoutSpec)) fnExactLostWithoutCard

/-- THE SECOND FORM's CARD OF 'laws.FnExactAnswerFor'. -/
def fnExactAnswerForUptoCard : Claim7 := { stood := { row := fnExactAnswerForUptoRow, standIns := [], harness := (true, "60f374a757abb674e75419def527a4db8586c8f5af4df8b644fbbe5275d2d43e"), looks := false }, kinds := [], alts := [], laidByText := true, laidKinds := [.data, .widerDeep, .pinned], laidTests := true, laidLooks := .later }
def FnExactAnswerForUptoCardSaid : Prop := Claim7.holds Tryz.pinned (.plain (OpenSpec.upto fnExactAnswerForSpec)) fnExactAnswerForUptoCard

/-- THE SECOND FORM's CARD OF 'laws.FnExactAnswersOf'. -/
def fnExactAnswersOfUptoCard : Claim7 := { stood := { row := fnExactAnswersOfUptoRow, standIns := [], harness := (true, "60f374a757abb674e75419def527a4db8586c8f5af4df8b644fbbe5275d2d43e"), looks := false }, kinds := [], alts := [], laidByText := true, laidKinds := [.data, .widerDeep, .pinned], laidTests := true, laidLooks := .later }
def FnExactAnswersOfUptoCardSaid : Prop := Claim7.holds Tryz.pinned (.plain (OpenSpec.upto fnExactAnswersOfSpec)) fnExactAnswersOfUptoCard

/-- THE SECOND FORM's CARD OF 'laws.FnExactRankOf'. -/
def fnExactRankOfUptoCard : Claim7 := { stood := { row := fnExactRankOfUptoRow, standIns := [], harness := (true, "60f374a757abb674e75419def527a4db8586c8f5af4df8b644fbbe5275d2d43e"), looks := false }, kinds := [], alts := [], laidByText := true, laidKinds := [.data, .widerDeep, .pinned], laidTests := true, laidLooks := .later }
def FnExactRankOfUptoCardSaid : Prop := Claim7.holds Tryz.pinned (.plain (OpenSpec.upto fnExactRankOfSpec)) fnExactRankOfUptoCard

/-- THE SECOND FORM's CARD OF 'laws.FnExactLostWithout'. -/
def fnExactLostWithoutUptoCard : Claim7 := { stood := { row := fnExactLostWithoutUptoRow, standIns := [], harness := (true, "60f374a757abb674e75419def527a4db8586c8f5af4df8b644fbbe5275d2d43e"), looks := false }, kinds := [], alts := [], laidByText := true, laidKinds := [.data, .widerDeep, .pinned], laidTests := true, laidLooks := .later }
def FnExactLostWithoutUptoCardSaid : Prop := Claim7.holds Tryz.pinned (.plain (OpenSpec.upto fnExactLostWithoutSpec)) fnExactLostWithoutUptoCard
end Rows
end Go.Proofs.YtepmfngpdimkhaaGreatDoor
