/-
  DERIVED. GIVEN WITH THE SEED: THE CARDS: each row of YtbaemihamlopbaaGreatDoorRows.lean that lists a variable, with what it lists TIED to the program's text (the seventh form; the later family's looks); each row that meets fmt, with fmt's text TOLD by the authors' own Lean function (tested against real Go, not proved from fmt's source: count such statements apart). THE CARD IS WHAT COUNTS. Prove the row's statement (the work); the ties are given (YtbaemihamlopbaaGreatDoorTie.lean); close each card by the builder's one call (the guide's Derived/Test/ToyasCard.lean, 'card_holds'). Laid BY PROGRAM, IN A SANDBOX (cutbox-door.mjs). By AI agents, Wed Nov 11 2026. No macro, syntax, notation, axiom, sorry.
-/
import Derived.Test.YtbaemihamlopbaaGreatDoorRows
import GoSem.ClaimSeven
namespace Go.Proofs.YtbaemihamlopbaaGreatDoor
namespace Rows

/-- THE TIED CARD OF 'partywalllaw34.SchedKnown'. -/
def schedKnownCard : Claim7 := { stood := { row := schedKnownRow, standIns := [], harness := (true, "d04c3941c3c521d39531077c15177f88e7d562129648b8a42d186412cbeb9245"), looks := false }, kinds := [], alts := [], laidByText := true, laidKinds := [.widerDeep], laidTests := true, laidLooks := .later }
def SchedKnownCardSaid : Prop := Claim7.holds Tryz.pinned (.plain (OpenSpec.ofChange schedKnownSpec)) schedKnownCard

/-- THE SECOND FORM's CARD OF 'partywalllaw34.SchedKnown'. -/
def schedKnownUptoCard : Claim7 := { stood := { row := schedKnownUptoRow, standIns := [], harness := (true, "d04c3941c3c521d39531077c15177f88e7d562129648b8a42d186412cbeb9245"), looks := false }, kinds := [], alts := [], laidByText := true, laidKinds := [.widerDeep], laidTests := true, laidLooks := .later }
def SchedKnownUptoCardSaid : Prop := Claim7.holds Tryz.pinned (.plain (OpenSpec.upto schedKnownSpec)) schedKnownUptoCard
end Rows
end Go.Proofs.YtbaemihamlopbaaGreatDoor
