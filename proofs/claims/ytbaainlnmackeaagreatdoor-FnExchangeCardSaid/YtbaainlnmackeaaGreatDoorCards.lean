/-
  DERIVED. GIVEN WITH THE SEED: THE CARDS: each row of YtbaainlnmackeaaGreatDoorRows.lean that lists a variable, with what it lists TIED to the program's text (the seventh form; the later family's looks); each row that meets fmt, with fmt's text TOLD by the authors' own Lean function (tested against real Go, not proved from fmt's source: count such statements apart). THE CARD IS WHAT COUNTS. Prove the row's statement (the work); the ties are given (YtbaainlnmackeaaGreatDoorTie.lean); close each card by the builder's one call (the guide's Derived/Test/ToyasCard.lean, 'card_holds'). Laid BY PROGRAM, IN A SANDBOX (cutbox-door.mjs). By AI agents, Wed Nov 11 2026. No macro, syntax, notation, axiom, sorry.
-/
import Derived.Test.YtbaainlnmackeaaGreatDoorRows
import GoSem.ClaimSeven
namespace Go.Proofs.YtbaainlnmackeaaGreatDoor
namespace Rows

/-- THE TIED CARD OF 'laws.FnExactStateOfLog'. -/
def fnExactStateOfLogCard : Claim7 := { stood := { row := fnExactStateOfLogRow, standIns := [], harness := (true, "6a0f8f1983da7e10d7b41a813ea466761cc8c4beda80bc5bc1545429df282318"), looks := false }, kinds := [], alts := [], laidByText := true, laidKinds := [.data, .pinned], laidTests := true, laidLooks := .later }
def FnExactStateOfLogCardSaid : Prop := Claim7.holds Tryz.pinned (.plain (OpenSpec.ofChange fnExactStateOfLogSpec)) fnExactStateOfLogCard

/-- THE TIED CARD OF 'laws.FnExchange'. -/
def fnExchangeCard : Claim7 := { stood := { row := fnExchangeRow, standIns := [], harness := (true, "6a0f8f1983da7e10d7b41a813ea466761cc8c4beda80bc5bc1545429df282318"), looks := false }, kinds := [], alts := [], laidByText := true, laidKinds := [.data, .pinned], laidTests := true, laidLooks := .later }
def FnExchangeCardSaid : Prop := Claim7.holds Tryz.pinned (.plain (OpenSpec.ofChange fnExchangeSpec)) fnExchangeCard

/-- THE SECOND FORM's CARD OF 'laws.FnExactStateOfLog'. -/
def fnExactStateOfLogUptoCard : Claim7 := { stood := { row := fnExactStateOfLogUptoRow, standIns := [], harness := (true, "6a0f8f1983da7e10d7b41a813ea466761cc8c4beda80bc5bc1545429df282318"), looks := false }, kinds := [], alts := [], laidByText := true, laidKinds := [.data, .pinned], laidTests := true, laidLooks := .later }
def FnExactStateOfLogUptoCardSaid : Prop := Claim7.holds Tryz.pinned (.plain (OpenSpec.upto fnExactStateOfLogSpec)) fnExactStateOfLogUptoCard

/-- THE SECOND FORM's CARD OF 'laws.FnExchange'. -/
def fnExchangeUptoCard : Claim7 := { stood := { row := fnExchangeUptoRow, standIns := [], harness := (true, "6a0f8f1983da7e10d7b41a813ea466761cc8c4beda80bc5bc1545429df282318"), looks := false }, kinds := [], alts := [], laidByText := true, laidKinds := [.data, .pinned], laidTests := true, laidLooks := .later }
def FnExchangeUptoCardSaid : Prop := Claim7.holds Tryz.pinned (.plain (OpenSpec.upto fnExchangeSpec)) fnExchangeUptoCard
end Rows
end Go.Proofs.YtbaainlnmackeaaGreatDoor
