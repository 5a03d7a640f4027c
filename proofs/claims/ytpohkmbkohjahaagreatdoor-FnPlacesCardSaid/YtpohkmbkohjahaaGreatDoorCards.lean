/-
  DERIVED. GIVEN WITH THE SEED: THE CARDS: each row of YtpohkmbkohjahaaGreatDoorRows.lean that lists a variable, with what it lists TIED to the program's text (the seventh form; the later family's looks); each row that meets fmt, with fmt's text TOLD by the authors' own Lean function (tested against real Go, not proved from fmt's source: count such statements apart). THE CARD IS WHAT COUNTS. Prove the row's statement (the work); the ties are given (YtpohkmbkohjahaaGreatDoorTie.lean); close each card by the builder's one call (the guide's Derived/Test/ToyasCard.lean, 'card_holds'). Laid BY PROGRAM, IN A SANDBOX (cutbox-door.mjs). By AI agents, Wed Nov 11 2026. No macro, syntax, notation, axiom, sorry.
-/
import Derived.Test.YtpohkmbkohjahaaGreatDoorRows
import GoSem.ClaimSeven
namespace Go.Proofs.YtpohkmbkohjahaaGreatDoor
namespace Rows

/-- THE TIED CARD OF 'laws.FnExactEndPlace'. -/
def fnExactEndPlaceCard : Claim7 := { stood := { row := fnExactEndPlaceRow, standIns := [], harness := (true, "50f5d5cb4bc5052f4f26ae8484b227f54a55b0e9b696572ae74e8983a058c91d"), looks := false }, kinds := [], alts := [], laidByText := true, laidKinds := [.data, .pinned], laidTests := true, laidLooks := .later }
def FnExactEndPlaceCardSaid : Prop := Claim7.holds Tryz.pinned (.plain (OpenSpec.ofChange fnExactEndPlaceSpec)) fnExactEndPlaceCard

/-- THE TIED CARD OF 'laws.FnExactAddPlace'. -/
def fnExactAddPlaceCard : Claim7 := { stood := { row := fnExactAddPlaceRow, standIns := [], harness := (true, "50f5d5cb4bc5052f4f26ae8484b227f54a55b0e9b696572ae74e8983a058c91d"), looks := false }, kinds := [], alts := [], laidByText := true, laidKinds := [.data, .pinned], laidTests := true, laidLooks := .later }
def FnExactAddPlaceCardSaid : Prop := Claim7.holds Tryz.pinned (.plain (OpenSpec.ofChange fnExactAddPlaceSpec)) fnExactAddPlaceCard

/-- THE TIED CARD OF 'laws.FnPlaces'. -/
def fnPlacesCard : Claim7 := { stood := { row := fnPlacesRow, standIns := [], harness := (true, "50f5d5cb4bc5052f4f26ae8484b227f54a55b0e9b696572ae74e8983a058c91d"), looks := false }, kinds := [], alts := [], laidByText := true, laidKinds := [.data, .pinned], laidTests := true, laidLooks := .later }
def FnPlacesCardSaid : Prop := Claim7.holds Tryz.pinned (.plain (OpenSpec.ofChange fnPlacesSpec)) fnPlacesCard

/-- THE SECOND FORM's CARD OF 'laws.FnExactEndPlace'. -/
def fnExactEndPlaceUptoCard : Claim7 := { stood := { row := fnExactEndPlaceUptoRow, standIns := [], harness := (true, "50f5d5cb4bc5052f4f26ae8484b227f54a55b0e9b696572ae74e8983a058c91d"), looks := false }, kinds := [], alts := [], laidByText := true, laidKinds := [.data, .pinned], laidTests := true, laidLooks := .later }
def FnExactEndPlaceUptoCardSaid : Prop := Claim7.holds Tryz.pinned (.plain (OpenSpec.upto fnExactEndPlaceSpec)) fnExactEndPlaceUptoCard

/-- THE SECOND FORM's CARD OF 'laws.FnExactAddPlace'. -/
def fnExactAddPlaceUptoCard : Claim7 := { stood := { row := fnExactAddPlaceUptoRow, standIns := [], harness := (true, "50f5d5cb4bc5052f4f26ae8484b227f54a55b0e9b696572ae74e8983a058c91d"), looks := false }, kinds := [], alts := [], laidByText := true, laidKinds := [.data, .pinned], laidTests := true, laidLooks := .later }
def FnExactAddPlaceUptoCardSaid : Prop := Claim7.holds Tryz.pinned (.plain (OpenSpec.upto fnExactAddPlaceSpec)) fnExactAddPlaceUptoCard

/-- THE SECOND FORM's CARD OF 'laws.FnPlaces'. -/
def fnPlacesUptoCard : Claim7 := { stood := { row := fnPlacesUptoRow, standIns := [], harness := (true, "50f5d5cb4bc5052f4f26ae8484b227f54a55b0e9b696572ae74e8983a058c91d"), looks := false }, kinds := [], alts := [], laidByText := true, laidKinds := [.data, .pinned], laidTests := true, laidLooks := .later }
def FnPlacesUptoCardSaid : Prop := Claim7.holds Tryz.pinned (.plain (OpenSpec.upto fnPlacesSpec)) fnPlacesUptoCard
end Rows
end Go.Proofs.YtpohkmbkohjahaaGreatDoor
