/-
  DERIVED. GIVEN WITH THE SEED: THE CARDS: each row of YtgdldhogfmambaaGreatDoorRows.lean that lists a variable, with what it lists TIED to the program's text (the seventh form; the later family's looks); each row that meets fmt, with fmt's text TOLD by the authors' own Lean function (tested against real Go, not proved from fmt's source: count such statements apart). THE CARD IS WHAT COUNTS. Prove the row's statement (the work); the ties are given (YtgdldhogfmambaaGreatDoorTie.lean); close each card by the builder's one call (the guide's Derived/Test/ToyasCard.lean, 'card_holds'). Laid BY PROGRAM, IN A SANDBOX (cutbox-door.mjs). By AI agents, Wed Nov 11 2026. No macro, syntax, notation, axiom, sorry.
-/
import Derived.Test.YtgdldhogfmambaaGreatDoorRows
import GoSem.ClaimSeven
namespace Go.Proofs.YtgdldhogfmambaaGreatDoor
namespace Rows

/-- THE TIED CARD OF 'partywalllaw30.QueryMakes'. -/
def queryMakesCard : Claim7 := { stood := { row := queryMakesRow, standIns := [], harness := (true, "81103160817741a566b71d473f7f54956a45e20bffcea4ce791e7b82381306f7"), looks := false }, kinds := [], alts := [], laidByText := true, laidKinds := [.widerDeep], laidTests := true, laidLooks := .later }
def QueryMakesCardSaid : Prop := Claim7.holds Tryz.pinned (.plain (OpenSpec.ofChange queryMakesSpec)) queryMakesCard

/-- THE SECOND FORM's CARD OF 'partywalllaw30.QueryMakes'. -/
def queryMakesUptoCard : Claim7 := { stood := { row := queryMakesUptoRow, standIns := [], harness := (true, "81103160817741a566b71d473f7f54956a45e20bffcea4ce791e7b82381306f7"), looks := false }, kinds := [], alts := [], laidByText := true, laidKinds := [.widerDeep], laidTests := true, laidLooks := .later }
def QueryMakesUptoCardSaid : Prop := Claim7.holds Tryz.pinned (.plain (OpenSpec.upto queryMakesSpec)) queryMakesUptoCard
end Rows
end Go.Proofs.YtgdldhogfmambaaGreatDoor
