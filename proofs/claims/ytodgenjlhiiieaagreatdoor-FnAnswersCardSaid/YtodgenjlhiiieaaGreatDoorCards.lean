/-
  DERIVED. GIVEN WITH THE SEED: THE CARDS: each row of YtodgenjlhiiieaaGreatDoorRows.lean that lists a variable, with what it lists TIED to the program's text (the seventh form; the later family's looks); each row that meets fmt, with fmt's text TOLD by the authors' own Lean function (tested against real Go, not proved from fmt's source: count such statements apart). THE CARD IS WHAT COUNTS. Prove the row's statement (the work); the ties are given (YtodgenjlhiiieaaGreatDoorTie.lean); close each card by the builder's one call (the guide's Derived/Test/ToyasCard.lean, 'card_holds'). Laid BY PROGRAM, IN A SANDBOX (cutbox-door.mjs). By AI agents, Wed Nov 11 2026. No macro, syntax, notation, axiom, sorry.
-/
import Derived.Test.YtodgenjlhiiieaaGreatDoorRows
import GoSem.ClaimSeven
namespace Go.Proofs.YtodgenjlhiiieaaGreatDoor
namespace Rows

/-- THE TIED CARD OF 'laws.FnExactEvidenceFor'. -/
def fnExactEvidenceForCard : Claim7 := { stood := { row := fnExactEvidenceForRow, standIns := [], harness := (true, "e553a1acbc67004ab8924770a9cf2ad8a972452af4dc0237e906c488983aa30a"), looks := false }, kinds := [], alts := [], laidByText := true, laidKinds := [.data, .data, .data, .data, .widerDeep, .pinned], laidTests := true, laidLooks := .later }
def FnExactEvidenceForCardSaid : Prop := Claim7.holds Tryz.pinned (.plain (OpenSpec.ofChange fnExactEvidenceForSpec)) fnExactEvidenceForCard

/-- THE TIED CARD OF 'laws.FnExactExactAnswers'. -/
def fnExactExactAnswersCard : Claim7 := { stood := { row := fnExactExactAnswersRow, standIns := [], harness := (true, "e553a1acbc67004ab8924770a9cf2ad8a972452af4dc0237e906c488983aa30a"), looks := false }, kinds := [], alts := [], laidByText := true, laidKinds := [.data, .widerDeep, .pinned], laidTests := true, laidLooks := .later }
def FnExactExactAnswersCardSaid : Prop := Claim7.holds Tryz.pinned (.plain (OpenSpec.ofChange fnExactExactAnswersSpec)) fnExactExactAnswersCard

/-- THE TIED CARD OF 'laws.FnEvidence'. -/
def fnEvidenceCard : Claim7 := { stood := { row := fnEvidenceRow, standIns := [], harness := (true, "e553a1acbc67004ab8924770a9cf2ad8a972452af4dc0237e906c488983aa30a"), looks := false }, kinds := [], alts := [], laidByText := true, laidKinds := [.data, .data, .data, .data, .widerDeep, .pinned], laidTests := true, laidLooks := .later }
def FnEvidenceCardSaid : Prop := Claim7.holds Tryz.pinned (.plain (OpenSpec.ofChange fnEvidenceSpec)) fnEvidenceCard

/-- THE TIED CARD OF 'laws.FnAnswers'. -/
def fnAnswersCard : Claim7 := { stood := { row := fnAnswersRow, standIns := [], harness := (true, "e553a1acbc67004ab8924770a9cf2ad8a972452af4dc0237e906c488983aa30a"), looks := false }, kinds := [], alts := [], laidByText := true, laidKinds := [.data, .widerDeep, .pinned], laidTests := true, laidLooks := .later }
def FnAnswersCardSaid : Prop := Claim7.holds Tryz.pinned (.plain (OpenSpec.ofChange fnAnswersSpec)) fnAnswersCard

/-- THE SECOND FORM's CARD OF 'laws.FnExactEvidenceFor'. -/
def fnExactEvidenceForUptoCard : Claim7 := { stood := { row := fnExactEvidenceForUptoRow, standIns := [], harness := (true, "e553a1acbc67004ab8924770a9cf2ad8a972452af4dc0237e906c488983aa30a"), looks := false }, kinds := [], alts := [], laidByText := true, laidKinds := [.data, .data, .data, .data, .widerDeep, .pinned], laidTests := true, laidLooks := .later }
def FnExactEvidenceForUptoCardSaid : Prop := Claim7.holds Tryz.pinned (.plain (OpenSpec.upto fnExactEvidenceForSpec)) fnExactEvidenceForUptoCard

/-- THE SECOND FORM's CARD OF 'laws.FnExactExactAnswers'. -/
def fnExactExactAnswersUptoCard : Claim7 := { stood := { row := fnExactExactAnswersUptoRow, standIns := [], harness := (true, "e553a1acbc67004ab8924770a9cf2ad8a972452af4dc0237e906c488983aa30a"), looks := false }, kinds := [], alts := [], laidByText := true, laidKinds := [.data, .widerDeep, .pinned], laidTests := true, laidLooks := .later }
def FnExactExactAnswersUptoCardSaid : Prop := Claim7.holds Tryz.pinned (.plain (OpenSpec.upto fnExactExactAnswersSpec)) fnExactExactAnswersUptoCard

/-- THE SECOND FORM's CARD OF 'laws.FnEvidence'. -/
def fnEvidenceUptoCard : Claim7 := { stood := { row := fnEvidenceUptoRow, standIns := [], harness := (true, "e553a1acbc67004ab8924770a9cf2ad8a972452af4dc0237e906c488983aa30a"), looks := false }, kinds := [], alts := [], laidByText := true, laidKinds := [.data, .data, .data, .data, .widerDeep, .pinned], laidTests := true, laidLooks := .later }
def FnEvidenceUptoCardSaid : Prop := Claim7.holds Tryz.pinned (.plain (OpenSpec.upto fnEvidenceSpec)) fnEvidenceUptoCard

/-- THE SECOND FORM's CARD OF 'laws.FnAnswers'. -/
def fnAnswersUptoCard : Claim7 := { stood := { row := fnAnswersUptoRow, standIns := [], harness := (true, "e553a1acbc67004ab8924770a9cf2ad8a972452af4dc0237e906c488983aa30a"), looks := false }, kinds := [], alts := [], laidByText := true, laidKinds := [.data, .widerDeep, .pinned], laidTests := true, laidLooks := .later }
def FnAnswersUptoCardSaid : Prop := Claim7.holds Tryz.pinned (.plain (OpenSpec.upto fnAnswersSpec)) fnAnswersUptoCard
end Rows
end Go.Proofs.YtodgenjlhiiieaaGreatDoor
