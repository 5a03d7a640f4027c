/-
  DERIVED. GIVEN WITH THE SEED: THE CARDS: each row of YtppehghiiahabaaGreatDoorRows.lean that lists a variable, with what it lists TIED to the program's text (the seventh form; the later family's looks); each row that meets fmt, with fmt's text TOLD by the authors' own Lean function (tested against real Go, not proved from fmt's source: count such statements apart). THE CARD IS WHAT COUNTS. Prove the row's statement (the work); the ties are given (YtppehghiiahabaaGreatDoorTie.lean); close each card by the builder's one call (the guide's Derived/Test/ToyasCard.lean, 'card_holds'). Laid BY PROGRAM, IN A SANDBOX (cutbox-door.mjs). By AI agents, Wed Nov 11 2026. No macro, syntax, notation, axiom, sorry.
-/
import Derived.Test.YtppehghiiahabaaGreatDoorRows
import GoSem.ClaimSeven
namespace Go.Proofs.YtppehghiiahabaaGreatDoor
namespace Rows

/-- THE TIED CARD OF 'laws.FnTop'. -/
def fnTopCard : Claim7 := { stood := { row := fnTopRow, standIns := [], harness := (true, "dd87574762dfba092de8bf6ce37cf948f74360f3cc1702ab861c8aeb2ddf76dd"), looks := false }, kinds := [], alts := [], laidByText := true, laidKinds := [.data, .pinned], laidTests := true, laidLooks := .later }
def FnTopCardSaid : Prop := Claim7.holds Tryz.pinned (.plain (OpenSpec.ofChange fnTopSpec)) fnTopCard

/-- THE TIED CARD OF 'laws.FnExactBestParent'. -/
def fnExactBestParentCard : Claim7 := { stood := { row := fnExactBestParentRow, standIns := [], harness := (true, "dd87574762dfba092de8bf6ce37cf948f74360f3cc1702ab861c8aeb2ddf76dd"), looks := false }, kinds := [], alts := [], laidByText := true, laidKinds := [.data, .pinned], laidTests := true, laidLooks := .later }
def FnExactBestParentCardSaid : Prop := Claim7.holds Tryz.pinned (.plain (OpenSpec.ofChange fnExactBestParentSpec)) fnExactBestParentCard

/-- THE TIED CARD OF 'laws.FnExactBestName'. -/
def fnExactBestNameCard : Claim7 := { stood := { row := fnExactBestNameRow, standIns := [], harness := (true, "dd87574762dfba092de8bf6ce37cf948f74360f3cc1702ab861c8aeb2ddf76dd"), looks := false }, kinds := [], alts := [], laidByText := true, laidKinds := [.data, .pinned], laidTests := true, laidLooks := .later }
def FnExactBestNameCardSaid : Prop := Claim7.holds Tryz.pinned (.plain (OpenSpec.ofChange fnExactBestNameSpec)) fnExactBestNameCard

/-- THE TIED CARD OF 'laws.FnBestNames'. -/
def fnBestNamesCard : Claim7 := { stood := { row := fnBestNamesRow, standIns := [], harness := (true, "dd87574762dfba092de8bf6ce37cf948f74360f3cc1702ab861c8aeb2ddf76dd"), looks := false }, kinds := [], alts := [], laidByText := true, laidKinds := [.data, .pinned], laidTests := true, laidLooks := .later }
def FnBestNamesCardSaid : Prop := Claim7.holds Tryz.pinned (.plain (OpenSpec.ofChange fnBestNamesSpec)) fnBestNamesCard

/-- THE SECOND FORM's CARD OF 'laws.FnTop'. -/
def fnTopUptoCard : Claim7 := { stood := { row := fnTopUptoRow, standIns := [], harness := (true, "dd87574762dfba092de8bf6ce37cf948f74360f3cc1702ab861c8aeb2ddf76dd"), looks := false }, kinds := [], alts := [], laidByText := true, laidKinds := [.data, .pinned], laidTests := true, laidLooks := .later }
def FnTopUptoCardSaid : Prop := Claim7.holds Tryz.pinned (.plain (OpenSpec.upto fnTopSpec)) fnTopUptoCard

/-- THE SECOND FORM's CARD OF 'laws.FnExactBestParent'. -/
def fnExactBestParentUptoCard : Claim7 := { stood := { row := fnExactBestParentUptoRow, standIns := [], harness := (true, "dd87574762dfba092de8bf6ce37cf948f74360f3cc1702ab861c8aeb2ddf76dd"), looks := false }, kinds := [], alts := [], laidByText := true, laidKinds := [.data, .pinned], laidTests := true, laidLooks := .later }
def FnExactBestParentUptoCardSaid : Prop := Claim7.holds Tryz.pinned (.plain (OpenSpec.upto fnExactBestParentSpec)) fnExactBestParentUptoCard

/-- THE SECOND FORM's CARD OF 'laws.FnExactBestName'. -/
def fnExactBestNameUptoCard : Claim7 := { stood := { row := fnExactBestNameUptoRow, standIns := [], harness := (true, "dd87574762dfba092de8bf6ce37cf948f74360f3cc1702ab861c8aeb2ddf76dd"), looks := false }, kinds := [], alts := [], laidByText := true, laidKinds := [.data, .pinned], laidTests := true, laidLooks := .later }
def FnExactBestNameUptoCardSaid : Prop := Claim7.holds Tryz.pinned (.plain (OpenSpec.upto fnExactBestNameSpec)) fnExactBestNameUptoCard

/-- THE SECOND FORM's CARD OF 'laws.FnBestNames'. -/
def fnBestNamesUptoCard : Claim7 := { stood := { row := fnBestNamesUptoRow, standIns := [], harness := (true, "dd87574762dfba092de8bf6ce37cf948f74360f3cc1702ab861c8aeb2ddf76dd"), looks := false }, kinds := [], alts := [], laidByText := true, laidKinds := [.data, .pinned], laidTests := true, laidLooks := .later }
def FnBestNamesUptoCardSaid : Prop := Claim7.holds Tryz.pinned (.plain (OpenSpec.upto fnBestNamesSpec)) fnBestNamesUptoCard
end Rows
end Go.Proofs.YtppehghiiahabaaGreatDoor
