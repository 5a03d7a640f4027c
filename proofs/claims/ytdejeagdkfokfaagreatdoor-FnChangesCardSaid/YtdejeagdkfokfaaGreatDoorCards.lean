/-
  DERIVED. GIVEN WITH THE SEED: THE CARDS: each row of YtdejeagdkfokfaaGreatDoorRows.lean that lists a variable, with what it lists TIED to the program's text (the seventh form; the later family's looks); each row that meets fmt, with fmt's text TOLD by the authors' own Lean function (tested against real Go, not proved from fmt's source: count such statements apart). THE CARD IS WHAT COUNTS. Prove the row's statement (the work); the ties are given (YtdejeagdkfokfaaGreatDoorTie.lean); close each card by the builder's one call (the guide's Derived/Test/ToyasCard.lean, 'card_holds'). Laid BY PROGRAM, IN A SANDBOX (cutbox-door.mjs). By AI agents, Wed Nov 11 2026. No macro, syntax, notation, axiom, sorry.
-/
import Derived.Test.YtdejeagdkfokfaaGreatDoorRows
import GoSem.ClaimSeven
namespace Go.Proofs.YtdejeagdkfokfaaGreatDoor
namespace Rows

/-- THE TIED CARD OF 'laws.FnExactCanApply'. -/
def fnExactCanApplyCard : Claim7 := { stood := { row := fnExactCanApplyRow, standIns := [], harness := (true, "c127e06505f4effcc2a10753bab3c882dc9f6caef53b34b2e926115e1925ceb2"), looks := false }, kinds := [], alts := [], laidByText := true, laidKinds := [.data, .pinned], laidTests := true, laidLooks := .later }
def FnExactCanApplyCardSaid : Prop := Claim7.holds Tryz.pinned (.plain (OpenSpec.ofChange fnExactCanApplySpec)) fnExactCanApplyCard

/-- THE TIED CARD OF 'laws.FnExactApplyChange'. -/
def fnExactApplyChangeCard : Claim7 := { stood := { row := fnExactApplyChangeRow, standIns := [], harness := (true, "c127e06505f4effcc2a10753bab3c882dc9f6caef53b34b2e926115e1925ceb2"), looks := false }, kinds := [], alts := [], laidByText := true, laidKinds := [.data, .pinned], laidTests := true, laidLooks := .later }
def FnExactApplyChangeCardSaid : Prop := Claim7.holds Tryz.pinned (.plain (OpenSpec.ofChange fnExactApplyChangeSpec)) fnExactApplyChangeCard

/-- THE TIED CARD OF 'laws.FnChanges'. -/
def fnChangesCard : Claim7 := { stood := { row := fnChangesRow, standIns := [], harness := (true, "c127e06505f4effcc2a10753bab3c882dc9f6caef53b34b2e926115e1925ceb2"), looks := false }, kinds := [], alts := [], laidByText := true, laidKinds := [.data, .pinned], laidTests := true, laidLooks := .later }
def FnChangesCardSaid : Prop := Claim7.holds Tryz.pinned (.plain (OpenSpec.ofChange fnChangesSpec)) fnChangesCard

/-- THE TIED CARD OF 'laws.FnExactApplyChanges'. -/
def fnExactApplyChangesCard : Claim7 := { stood := { row := fnExactApplyChangesRow, standIns := [], harness := (true, "c127e06505f4effcc2a10753bab3c882dc9f6caef53b34b2e926115e1925ceb2"), looks := false }, kinds := [], alts := [], laidByText := true, laidKinds := [.data, .pinned], laidTests := true, laidLooks := .later }
def FnExactApplyChangesCardSaid : Prop := Claim7.holds Tryz.pinned (.plain (OpenSpec.ofChange fnExactApplyChangesSpec)) fnExactApplyChangesCard

/-- THE SECOND FORM's CARD OF 'laws.FnExactCanApply'. -/
def fnExactCanApplyUptoCard : Claim7 := { stood := { row := fnExactCanApplyUptoRow, standIns := [], harness := (true, "c127e06505f4effcc2a10753bab3c882dc9f6caef53b34b2e926115e1925ceb2"), looks := false }, kinds := [], alts := [], laidByText := true, laidKinds := [.data, .pinned], laidTests := true, laidLooks := .later }
def FnExactCanApplyUptoCardSaid : Prop := Claim7.holds Tryz.pinned (.plain (OpenSpec.upto fnExactCanApplySpec)) fnExactCanApplyUptoCard

/-- THE SECOND FORM's CARD OF 'laws.FnExactApplyChange'. -/
def fnExactApplyChangeUptoCard : Claim7 := { stood := { row := fnExactApplyChangeUptoRow, standIns := [], harness := (true, "c127e06505f4effcc2a10753bab3c882dc9f6caef53b34b2e926115e1925ceb2"), looks := false }, kinds := [], alts := [], laidByText := true, laidKinds := [.data, .pinned], laidTests := true, laidLooks := .later }
def FnExactApplyChangeUptoCardSaid : Prop := Claim7.holds Tryz.pinned (.plain (OpenSpec.upto fnExactApplyChangeSpec)) fnExactApplyChangeUptoCard

/-- THE SECOND FORM's CARD OF 'laws.FnChanges'. -/
def fnChangesUptoCard : Claim7 := { stood := { row := fnChangesUptoRow, standIns := [], harness := (true, "c127e06505f4effcc2a10753bab3c882dc9f6caef53b34b2e926115e1925ceb2"), looks := false }, kinds := [], alts := [], laidByText := true, laidKinds := [.data, .pinned], laidTests := true, laidLooks := .later }
def FnChangesUptoCardSaid : Prop := Claim7.holds Tryz.pinned (.plain (OpenSpec.upto fnChangesSpec)) fnChangesUptoCard

/-- THE SECOND FORM's CARD OF 'laws.FnExactApplyChanges'. -/
def fnExactApplyChangesUptoCard : Claim7 := { stood := { row := fnExactApplyChangesUptoRow, standIns := [], harness := (true, "c127e06505f4effcc2a10753bab3c882dc9f6caef53b34b2e926115e1925ceb2"), looks := false }, kinds := [], alts := [], laidByText := true, laidKinds := [.data, .pinned], laidTests := true, laidLooks := .later }
def FnExactApplyChangesUptoCardSaid : Prop := Claim7.holds Tryz.pinned (.plain (OpenSpec.upto fnExactApplyChangesSpec)) fnExactApplyChangesUptoCard
end Rows
end Go.Proofs.YtdejeagdkfokfaaGreatDoor
