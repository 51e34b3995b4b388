/-
  DERIVED. GIVEN WITH THE SEED: THE CARDS: each row of YtahgmmbmmcaejaaGreatDoorRows.lean that lists a variable, with what it lists TIED to the program's text (the seventh form; the later family's looks); each row that meets fmt, with fmt's text TOLD by the authors' own Lean function (tested against real Go, not proved from fmt's source: count such statements apart). THE CARD IS WHAT COUNTS. Prove the row's statement (the work); the ties are given (YtahgmmbmmcaejaaGreatDoorTie.lean); close each card by the builder's one call (the guide's Derived/Test/ToyasCard.lean, 'card_holds'). Laid BY PROGRAM, IN A SANDBOX (cutbox-door.mjs). By AI agents, Wed Nov 11 2026. No macro, syntax, notation, axiom, sorry.
-/
import Derived.Test.YtahgmmbmmcaejaaGreatDoorRows
import GoSem.ClaimSeven
namespace Go.Proofs.YtahgmmbmmcaejaaGreatDoor
namespace Rows

/-- THE TIED CARD OF 'partywalllaw41.RunReads'. -/
def runReadsCard : Claim7 := { stood := { row := runReadsRow, standIns := [], harness := (true, "afd62e6d55ab5d1ab8675fce8aa694ffa5e36712b35e351973498b1bd4750819"), looks := true }, kinds := [], alts := [], laidByText := true, laidKinds := [.data, .pinned], laidTests := true, laidLooks := .later }
def RunReadsCardSaid : Prop := Claim7.holds Tryz.pinned (.plain (OpenSpec.ofChange runReadsSpec)) runReadsCard

/-- THE SECOND FORM's CARD OF 'partywalllaw41.RunReads'. -/
def runReadsUptoCard : Claim7 := { stood := { row := runReadsUptoRow, standIns := [], harness := (true, "afd62e6d55ab5d1ab8675fce8aa694ffa5e36712b35e351973498b1bd4750819"), looks := true }, kinds := [], alts := [], laidByText := true, laidKinds := [.data, .pinned], laidTests := true, laidLooks := .later }
def RunReadsUptoCardSaid : Prop := Claim7.holds Tryz.pinned (.plain (OpenSpec.upto runReadsSpec)) runReadsUptoCard
end Rows
end Go.Proofs.YtahgmmbmmcaejaaGreatDoor
