/-
  DERIVED. GIVEN WITH THE SEED: THE CARDS: each row of YtojhgfkohbfhhaaDoorRows.lean that lists a variable, with what it lists TIED to the program's text (the seventh form; the later family's looks); each row that meets fmt, with fmt's text TOLD by the authors' own Lean function (tested against real Go, not proved from fmt's source: count such statements apart). THE CARD IS WHAT COUNTS. Prove the row's statement (the work); the ties are given (YtojhgfkohbfhhaaDoorTie.lean); close each card by the builder's one call (the guide's Derived/Test/ToyasCard.lean, 'card_holds'). Laid BY PROGRAM, IN A SANDBOX (cutbox-door.mjs). By AI agents, Wed Nov 11 2026. No macro, syntax, notation, axiom, sorry.
-/
import Derived.Test.YtojhgfkohbfhhaaDoorRows
import GoSem.ClaimSeven
namespace Go.Proofs.YtojhgfkohbfhhaaDoor
namespace Rows

/-- THE TIED CARD OF 'laws.FnExactGroupsOf'. -/
def fnExactGroupsOfCard : Claim7 := { stood := { row := fnExactGroupsOfRow, standIns := [], harness := (true, "64d80f9425e66e35347faac15a81a15021a2e565416f4c8624adbd7623c66fa1"), looks := true }, kinds := [], alts := [], laidByText := true, laidKinds := [.data, .pinned], laidTests := true, laidLooks := .later }
def FnExactGroupsOfCardSaid : Prop := Claim7.holds Tryd.pinned (.plain (OpenSpec.ofChange fnExactGroupsOfSpec)) fnExactGroupsOfCard

/-- THE TIED CARD OF 'laws.FnExactAreCandidates'. -/
def fnExactAreCandidatesCard : Claim7 := { stood := { row := fnExactAreCandidatesRow, standIns := [], harness := (true, "64d80f9425e66e35347faac15a81a15021a2e565416f4c8624adbd7623c66fa1"), looks := true }, kinds := [], alts := [], laidByText := true, laidKinds := [.data, .pinned], laidTests := true, laidLooks := .later }
def FnExactAreCandidatesCardSaid : Prop := Claim7.holds Tryd.pinned (.plain (OpenSpec.ofChange fnExactAreCandidatesSpec)) fnExactAreCandidatesCard

/-- THE TIED CARD OF 'laws.FnExactIsConsoleLine'. -/
def fnExactIsConsoleLineCard : Claim7 := { stood := { row := fnExactIsConsoleLineRow, standIns := [], harness := (true, "64d80f9425e66e35347faac15a81a15021a2e565416f4c8624adbd7623c66fa1"), looks := true }, kinds := [], alts := [], laidByText := true, laidKinds := [.data, .data, .data, .data, .sentinel, .sentinel, .pinned], laidTests := true, laidLooks := .later }
def FnExactIsConsoleLineCardSaid : Prop := Claim7.holds Tryd.pinned (.plain (OpenSpec.ofChange fnExactIsConsoleLineSpec)) fnExactIsConsoleLineCard

/-- THE SECOND FORM's CARD OF 'laws.FnExactGroupsOf'. -/
def fnExactGroupsOfUptoCard : Claim7 := { stood := { row := fnExactGroupsOfUptoRow, standIns := [], harness := (true, "64d80f9425e66e35347faac15a81a15021a2e565416f4c8624adbd7623c66fa1"), looks := true }, kinds := [], alts := [], laidByText := true, laidKinds := [.data, .pinned], laidTests := true, laidLooks := .later }
def FnExactGroupsOfUptoCardSaid : Prop := Claim7.holds Tryd.pinned (.plain (OpenSpec.upto fnExactGroupsOfSpec)) fnExactGroupsOfUptoCard

/-- THE SECOND FORM's CARD OF 'laws.FnExactAreCandidates'. -/
def fnExactAreCandidatesUptoCard : Claim7 := { stood := { row := fnExactAreCandidatesUptoRow, standIns := [], harness := (true, "64d80f9425e66e35347faac15a81a15021a2e565416f4c8624adbd7623c66fa1"), looks := true }, kinds := [], alts := [], laidByText := true, laidKinds := [.data, .pinned], laidTests := true, laidLooks := .later }
def FnExactAreCandidatesUptoCardSaid : Prop := Claim7.holds Tryd.pinned (.plain (OpenSpec.upto fnExactAreCandidatesSpec)) fnExactAreCandidatesUptoCard

/-- THE SECOND FORM's CARD OF 'laws.FnExactIsConsoleLine'. -/
def fnExactIsConsoleLineUptoCard : Claim7 := { stood := { row := fnExactIsConsoleLineUptoRow, standIns := [], harness := (true, "64d80f9425e66e35347faac15a81a15021a2e565416f4c8624adbd7623c66fa1"), looks := true }, kinds := [], alts := [], laidByText := true, laidKinds := [.data, .data, .data, .data, .sentinel, .sentinel, .pinned], laidTests := true, laidLooks := .later }
def FnExactIsConsoleLineUptoCardSaid : Prop := Claim7.holds Tryd.pinned (.plain (OpenSpec.upto fnExactIsConsoleLineSpec)) fnExactIsConsoleLineUptoCard
end Rows
end Go.Proofs.YtojhgfkohbfhhaaDoor
