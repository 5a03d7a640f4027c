/-
  DERIVED. GIVEN WITH THE SEED: THE CARDS: each row of YtdfkbjnbllmllaaDoorRows.lean that lists a variable, with what it lists TIED to the program's text (the seventh form; the later family's looks); each row that meets fmt, with fmt's text TOLD by the authors' own Lean function (tested against real Go, not proved from fmt's source: count such statements apart). THE CARD IS WHAT COUNTS. Prove the row's statement (the work); the ties are given (YtdfkbjnbllmllaaDoorTie.lean); close each card by the builder's one call (the guide's Derived/Test/ToyasCard.lean, 'card_holds'). Laid BY PROGRAM, IN A SANDBOX (cutbox-door.mjs). By AI agents, Wed Nov 11 2026. No macro, syntax, notation, axiom, sorry.
-/
import Derived.Test.YtdfkbjnbllmllaaDoorRows
import GoSem.ClaimSeven
namespace Go.Proofs.YtdfkbjnbllmllaaDoor
namespace Rows

/-- THE TIED CARD OF 'laws.FnExactIsDesk'. -/
def fnExactIsDeskCard : Claim7 := { stood := { row := fnExactIsDeskRow, standIns := [], harness := (true, "5805b229e623c20e4db67c4e2f1d5c6e69ce4f1016364e5dfcff4a20e3abd9fc"), looks := false }, kinds := [], alts := [], laidByText := true, laidKinds := [.data, .widerDeep, .pinned], laidTests := true, laidLooks := .later }
def FnExactIsDeskCardSaid : Prop := Claim7.holds Tryd.pinned (.plain (OpenSpec.ofChange fnExactIsDeskSpec)) fnExactIsDeskCard

/-- THE SECOND FORM's CARD OF 'laws.FnExactIsDesk'. -/
def fnExactIsDeskUptoCard : Claim7 := { stood := { row := fnExactIsDeskUptoRow, standIns := [], harness := (true, "5805b229e623c20e4db67c4e2f1d5c6e69ce4f1016364e5dfcff4a20e3abd9fc"), looks := false }, kinds := [], alts := [], laidByText := true, laidKinds := [.data, .widerDeep, .pinned], laidTests := true, laidLooks := .later }
def FnExactIsDeskUptoCardSaid : Prop := Claim7.holds Tryd.pinned (.plain (OpenSpec.upto fnExactIsDeskSpec)) fnExactIsDeskUptoCard
end Rows
end Go.Proofs.YtdfkbjnbllmllaaDoor
