/-
  DERIVED. GIVEN WITH THE SEED: THE CARDS: each row of YtmbejkchgdcdhaaDoorRows.lean that lists a variable, with what it lists TIED to the program's text (the seventh form; the later family's looks); each row that meets fmt, with fmt's text TOLD by the authors' own Lean function (tested against real Go, not proved from fmt's source: count such statements apart). THE CARD IS WHAT COUNTS. Prove the row's statement (the work); the ties are given (YtmbejkchgdcdhaaDoorTie.lean); close each card by the builder's one call (the guide's Derived/Test/ToyasCard.lean, 'card_holds'). Laid BY PROGRAM, IN A SANDBOX (cutbox-door.mjs). By AI agents, Wed Nov 11 2026. No macro, syntax, notation, axiom, sorry.
-/
import Derived.Test.YtmbejkchgdcdhaaDoorRows
import GoSem.ClaimSeven
namespace Go.Proofs.YtmbejkchgdcdhaaDoor
namespace Rows

/-- THE TIED CARD OF 'laws.FnExactAreTies'. -/
def fnExactAreTiesCard : Claim7 := { stood := { row := fnExactAreTiesRow, standIns := [], harness := (true, "ea31951d14d45824527abfe9aa257298905cee595ab6e7cda6448eca5c7e7bfa"), looks := false }, kinds := [], alts := [], laidByText := true, laidKinds := [.data, .pinned], laidTests := true, laidLooks := .later }
def FnExactAreTiesCardSaid : Prop := Claim7.holds Tryd.pinned (.plain (OpenSpec.ofChange fnExactAreTiesSpec)) fnExactAreTiesCard

/-- THE TIED CARD OF 'laws.FnExactRemoveTie'. -/
def fnExactRemoveTieCard : Claim7 := { stood := { row := fnExactRemoveTieRow, standIns := [], harness := (true, "ea31951d14d45824527abfe9aa257298905cee595ab6e7cda6448eca5c7e7bfa"), looks := false }, kinds := [], alts := [], laidByText := true, laidKinds := [.data, .pinned], laidTests := true, laidLooks := .later }
def FnExactRemoveTieCardSaid : Prop := Claim7.holds Tryd.pinned (.plain (OpenSpec.ofChange fnExactRemoveTieSpec)) fnExactRemoveTieCard

/-- THE TIED CARD OF 'laws.FnExactAreSound'. -/
def fnExactAreSoundCard : Claim7 := { stood := { row := fnExactAreSoundRow, standIns := [], harness := (true, "ea31951d14d45824527abfe9aa257298905cee595ab6e7cda6448eca5c7e7bfa"), looks := false }, kinds := [], alts := [], laidByText := true, laidKinds := [.data, .pinned], laidTests := true, laidLooks := .later }
def FnExactAreSoundCardSaid : Prop := Claim7.holds Tryd.pinned (.plain (OpenSpec.ofChange fnExactAreSoundSpec)) fnExactAreSoundCard

/-- THE TIED CARD OF 'laws.FnExactMayBeSame'. -/
def fnExactMayBeSameCard : Claim7 := { stood := { row := fnExactMayBeSameRow, standIns := [], harness := (true, "ea31951d14d45824527abfe9aa257298905cee595ab6e7cda6448eca5c7e7bfa"), looks := false }, kinds := [], alts := [], laidByText := true, laidKinds := [.data, .pinned], laidTests := true, laidLooks := .later }
def FnExactMayBeSameCardSaid : Prop := Claim7.holds Tryd.pinned (.plain (OpenSpec.ofChange fnExactMayBeSameSpec)) fnExactMayBeSameCard

/-- THE TIED CARD OF 'laws.FnExactSplitsBy'. -/
def fnExactSplitsByCard : Claim7 := { stood := { row := fnExactSplitsByRow, standIns := [], harness := (true, "ea31951d14d45824527abfe9aa257298905cee595ab6e7cda6448eca5c7e7bfa"), looks := false }, kinds := [], alts := [], laidByText := true, laidKinds := [.data, .pinned], laidTests := true, laidLooks := .later }
def FnExactSplitsByCardSaid : Prop := Claim7.holds Tryd.pinned (.plain (OpenSpec.ofChange fnExactSplitsBySpec)) fnExactSplitsByCard

/-- THE TIED CARD OF 'laws.FnExactAddTie'. -/
def fnExactAddTieCard : Claim7 := { stood := { row := fnExactAddTieRow, standIns := [], harness := (true, "ea31951d14d45824527abfe9aa257298905cee595ab6e7cda6448eca5c7e7bfa"), looks := false }, kinds := [], alts := [], laidByText := true, laidKinds := [.data, .pinned], laidTests := true, laidLooks := .later }
def FnExactAddTieCardSaid : Prop := Claim7.holds Tryd.pinned (.plain (OpenSpec.ofChange fnExactAddTieSpec)) fnExactAddTieCard

/-- THE TIED CARD OF 'laws.FnExactGroupsOf'. -/
def fnExactGroupsOfCard : Claim7 := { stood := { row := fnExactGroupsOfRow, standIns := [], harness := (true, "ea31951d14d45824527abfe9aa257298905cee595ab6e7cda6448eca5c7e7bfa"), looks := false }, kinds := [], alts := [], laidByText := true, laidKinds := [.data, .pinned], laidTests := true, laidLooks := .later }
def FnExactGroupsOfCardSaid : Prop := Claim7.holds Tryd.pinned (.plain (OpenSpec.ofChange fnExactGroupsOfSpec)) fnExactGroupsOfCard

/-- THE TIED CARD OF 'laws.FnExactRefutation'. -/
def fnExactRefutationCard : Claim7 := { stood := { row := fnExactRefutationRow, standIns := [], harness := (true, "ea31951d14d45824527abfe9aa257298905cee595ab6e7cda6448eca5c7e7bfa"), looks := false }, kinds := [], alts := [], laidByText := true, laidKinds := [.data, .pinned], laidTests := true, laidLooks := .later }
def FnExactRefutationCardSaid : Prop := Claim7.holds Tryd.pinned (.plain (OpenSpec.ofChange fnExactRefutationSpec)) fnExactRefutationCard

/-- THE TIED CARD OF 'laws.FnExactProofOf'. -/
def fnExactProofOfCard : Claim7 := { stood := { row := fnExactProofOfRow, standIns := [], harness := (true, "ea31951d14d45824527abfe9aa257298905cee595ab6e7cda6448eca5c7e7bfa"), looks := false }, kinds := [], alts := [], laidByText := true, laidKinds := [.data, .pinned], laidTests := true, laidLooks := .later }
def FnExactProofOfCardSaid : Prop := Claim7.holds Tryd.pinned (.plain (OpenSpec.ofChange fnExactProofOfSpec)) fnExactProofOfCard

/-- THE TIED CARD OF 'laws.FnTies'. -/
def fnTiesCard : Claim7 := { stood := { row := fnTiesRow, standIns := [], harness := (true, "ea31951d14d45824527abfe9aa257298905cee595ab6e7cda6448eca5c7e7bfa"), looks := false }, kinds := [], alts := [], laidByText := true, laidKinds := [.data, .pinned], laidTests := true, laidLooks := .later }
def FnTiesCardSaid : Prop := Claim7.holds Tryd.pinned (.plain (OpenSpec.ofChange fnTiesSpec)) fnTiesCard

/-- THE TIED CARD OF 'laws.FnLinks'. -/
def fnLinksCard : Claim7 := { stood := { row := fnLinksRow, standIns := [], harness := (true, "ea31951d14d45824527abfe9aa257298905cee595ab6e7cda6448eca5c7e7bfa"), looks := false }, kinds := [], alts := [], laidByText := true, laidKinds := [.data, .pinned], laidTests := true, laidLooks := .later }
def FnLinksCardSaid : Prop := Claim7.holds Tryd.pinned (.plain (OpenSpec.ofChange fnLinksSpec)) fnLinksCard

/-- THE SECOND FORM's CARD OF 'laws.FnExactAreTies'. -/
def fnExactAreTiesUptoCard : Claim7 := { stood := { row := fnExactAreTiesUptoRow, standIns := [], harness := (true, "ea31951d14d45824527abfe9aa257298905cee595ab6e7cda6448eca5c7e7bfa"), looks := false }, kinds := [], alts := [], laidByText := true, laidKinds := [.data, .pinned], laidTests := true, laidLooks := .later }
def FnExactAreTiesUptoCardSaid : Prop := Claim7.holds Tryd.pinned (.plain (OpenSpec.upto fnExactAreTiesSpec)) fnExactAreTiesUptoCard

/-- THE SECOND FORM's CARD OF 'laws.FnExactRemoveTie'. -/
def fnExactRemoveTieUptoCard : Claim7 := { stood := { row := fnExactRemoveTieUptoRow, standIns := [], harness := (true, "ea31951d14d45824527abfe9aa257298905cee595ab6e7cda6448eca5c7e7bfa"), looks := false }, kinds := [], alts := [], laidByText := true, laidKinds := [.data, .pinned], laidTests := true, laidLooks := .later }
def FnExactRemoveTieUptoCardSaid : Prop := Claim7.holds Tryd.pinned (.plain (OpenSpec.upto fnExactRemoveTieSpec)) fnExactRemoveTieUptoCard

/-- THE SECOND FORM's CARD OF 'laws.FnExactAreSound'. -/
def fnExactAreSoundUptoCard : Claim7 := { stood := { row := fnExactAreSoundUptoRow, standIns := [], harness := (true, "ea31951d14d45824527abfe9aa257298905cee595ab6e7cda6448eca5c7e7bfa"), looks := false }, kinds := [], alts := [], laidByText := true, laidKinds := [.data, .pinned], laidTests := true, laidLooks := .later }
def FnExactAreSoundUptoCardSaid : Prop := Claim7.holds Tryd.pinned (.plain (OpenSpec.upto fnExactAreSoundSpec)) fnExactAreSoundUptoCard

/-- THE SECOND FORM's CARD OF 'laws.FnExactMayBeSame'. -/
def fnExactMayBeSameUptoCard : Claim7 := { stood := { row := fnExactMayBeSameUptoRow, standIns := [], harness := (true, "ea31951d14d45824527abfe9aa257298905cee595ab6e7cda6448eca5c7e7bfa"), looks := false }, kinds := [], alts := [], laidByText := true, laidKinds := [.data, .pinned], laidTests := true, laidLooks := .later }
def FnExactMayBeSameUptoCardSaid : Prop := Claim7.holds Tryd.pinned (.plain (OpenSpec.upto fnExactMayBeSameSpec)) fnExactMayBeSameUptoCard

/-- THE SECOND FORM's CARD OF 'laws.FnExactSplitsBy'. -/
def fnExactSplitsByUptoCard : Claim7 := { stood := { row := fnExactSplitsByUptoRow, standIns := [], harness := (true, "ea31951d14d45824527abfe9aa257298905cee595ab6e7cda6448eca5c7e7bfa"), looks := false }, kinds := [], alts := [], laidByText := true, laidKinds := [.data, .pinned], laidTests := true, laidLooks := .later }
def FnExactSplitsByUptoCardSaid : Prop := Claim7.holds Tryd.pinned (.plain (OpenSpec.upto fnExactSplitsBySpec)) fnExactSplitsByUptoCard

/-- THE SECOND FORM's CARD OF 'laws.FnExactAddTie'. -/
def fnExactAddTieUptoCard : Claim7 := { stood := { row := fnExactAddTieUptoRow, standIns := [], harness := (true, "ea31951d14d45824527abfe9aa257298905cee595ab6e7cda6448eca5c7e7bfa"), looks := false }, kinds := [], alts := [], laidByText := true, laidKinds := [.data, .pinned], laidTests := true, laidLooks := .later }
def FnExactAddTieUptoCardSaid : Prop := Claim7.holds Tryd.pinned (.plain (OpenSpec.upto fnExactAddTieSpec)) fnExactAddTieUptoCard

/-- THE SECOND FORM's CARD OF 'laws.FnExactGroupsOf'. -/
def fnExactGroupsOfUptoCard : Claim7 := { stood := { row := fnExactGroupsOfUptoRow, standIns := [], harness := (true, "ea31951d14d45824527abfe9aa257298905cee595ab6e7cda6448eca5c7e7bfa"), looks := false }, kinds := [], alts := [], laidByText := true, laidKinds := [.data, .pinned], laidTests := true, laidLooks := .later }
def FnExactGroupsOfUptoCardSaid : Prop := Claim7.holds Tryd.pinned (.plain (OpenSpec.upto fnExactGroupsOfSpec)) fnExactGroupsOfUptoCard

/-- THE SECOND FORM's CARD OF 'laws.FnExactRefutation'. -/
def fnExactRefutationUptoCard : Claim7 := { stood := { row := fnExactRefutationUptoRow, standIns := [], harness := (true, "ea31951d14d45824527abfe9aa257298905cee595ab6e7cda6448eca5c7e7bfa"), looks := false }, kinds := [], alts := [], laidByText := true, laidKinds := [.data, .pinned], laidTests := true, laidLooks := .later }
def FnExactRefutationUptoCardSaid : Prop := Claim7.holds Tryd.pinned (.plain (OpenSpec.upto fnExactRefutationSpec)) fnExactRefutationUptoCard

/-- THE SECOND FORM's CARD OF 'laws.FnExactProofOf'. -/
def fnExactProofOfUptoCard : Claim7 := { stood := { row := fnExactProofOfUptoRow, standIns := [], harness := (true, "ea31951d14d45824527abfe9aa257298905cee595ab6e7cda6448eca5c7e7bfa"), looks := false }, kinds := [], alts := [], laidByText := true, laidKinds := [.data, .pinned], laidTests := true, laidLooks := .later }
def FnExactProofOfUptoCardSaid : Prop := Claim7.holds Tryd.pinned (.plain (OpenSpec.upto fnExactProofOfSpec)) fnExactProofOfUptoCard

/-- THE SECOND FORM's CARD OF 'laws.FnTies'. -/
def fnTiesUptoCard : Claim7 := { stood := { row := fnTiesUptoRow, standIns := [], harness := (true, "ea31951d14d45824527abfe9aa257298905cee595ab6e7cda6448eca5c7e7bfa"), looks := false }, kinds := [], alts := [], laidByText := true, laidKinds := [.data, .pinned], laidTests := true, laidLooks := .later }
def FnTiesUptoCardSaid : Prop := Claim7.holds Tryd.pinned (.plain (OpenSpec.upto fnTiesSpec)) fnTiesUptoCard

/-- THE SECOND FORM's CARD OF 'laws.FnLinks'. -/
def fnLinksUptoCard : Claim7 := { stood := { row := fnLinksUptoRow, standIns := [], harness := (true, "ea31951d14d45824527abfe9aa257298905cee595ab6e7cda6448eca5c7e7bfa"), looks := false }, kinds := [], alts := [], laidByText := true, laidKinds := [.data, .pinned], laidTests := true, laidLooks := .later }
def FnLinksUptoCardSaid : Prop := Claim7.holds Tryd.pinned (.plain (OpenSpec.upto fnLinksSpec)) fnLinksUptoCard
end Rows
end Go.Proofs.YtmbejkchgdcdhaaDoor
