/-
  DERIVED. GIVEN WITH THE SEED: THE CARDS: each row of YtjkibihkmgkmpaaDoorRows.lean that lists a variable, with what it lists TIED to the program's text (the seventh form; the later family's looks); each row that meets fmt, with fmt's text TOLD by the authors' own Lean function (tested against real Go, not proved from fmt's source: count such statements apart). THE CARD IS WHAT COUNTS. Prove the row's statement (the work); the ties are given (YtjkibihkmgkmpaaDoorTie.lean); close each card by the builder's one call (the guide's Derived/Test/ToyasCard.lean, 'card_holds'). Laid BY PROGRAM, IN A SANDBOX (cutbox-door.mjs). By AI agents, Wed Nov 11 2026. No macro, syntax, notation, axiom, sorry.
-/
import Derived.Test.YtjkibihkmgkmpaaDoorRows
import GoSem.ClaimSeven
namespace Go.Proofs.YtjkibihkmgkmpaaDoor
namespace Rows

/-- THE TIED CARD OF 'laws.FnExactParentBy'. -/
def fnExactParentByCard : Claim7 := { stood := { row := fnExactParentByRow, standIns := [], harness := (true, "638bf0c32cc7ebeecaf23f445c7ec72885fc17b1d6807f4a844482e14456bb1a"), looks := false }, kinds := [], alts := [], laidByText := true, laidKinds := [.data, .pinned], laidTests := true, laidLooks := .later }
def FnExactParentByCardSaid : Prop := Claim7.holds Tryd.pinned (.plain (OpenSpec.ofChange fnExactParentBySpec)) fnExactParentByCard

/-- THE TIED CARD OF 'laws.FnExactNameBy'. -/
def fnExactNameByCard : Claim7 := { stood := { row := fnExactNameByRow, standIns := [], harness := (true, "638bf0c32cc7ebeecaf23f445c7ec72885fc17b1d6807f4a844482e14456bb1a"), looks := false }, kinds := [], alts := [], laidByText := true, laidKinds := [.data, .pinned], laidTests := true, laidLooks := .later }
def FnExactNameByCardSaid : Prop := Claim7.holds Tryd.pinned (.plain (OpenSpec.ofChange fnExactNameBySpec)) fnExactNameByCard

/-- THE SECOND FORM's CARD OF 'laws.FnExactParentBy'. -/
def fnExactParentByUptoCard : Claim7 := { stood := { row := fnExactParentByUptoRow, standIns := [], harness := (true, "638bf0c32cc7ebeecaf23f445c7ec72885fc17b1d6807f4a844482e14456bb1a"), looks := false }, kinds := [], alts := [], laidByText := true, laidKinds := [.data, .pinned], laidTests := true, laidLooks := .later }
def FnExactParentByUptoCardSaid : Prop := Claim7.holds Tryd.pinned (.plain (OpenSpec.upto fnExactParentBySpec)) fnExactParentByUptoCard

/-- THE SECOND FORM's CARD OF 'laws.FnExactNameBy'. -/
def fnExactNameByUptoCard : Claim7 := { stood := { row := fnExactNameByUptoRow, standIns := [], harness := (true, "638bf0c32cc7ebeecaf23f445c7ec72885fc17b1d6807f4a844482e14456bb1a"), looks := false }, kinds := [], alts := [], laidByText := true, laidKinds := [.data, .pinned], laidTests := true, laidLooks := .later }
def FnExactNameByUptoCardSaid : Prop := Claim7.holds Tryd.pinned (.plain (OpenSpec.upto fnExactNameBySpec)) fnExactNameByUptoCard
end Rows
end Go.Proofs.YtjkibihkmgkmpaaDoor
