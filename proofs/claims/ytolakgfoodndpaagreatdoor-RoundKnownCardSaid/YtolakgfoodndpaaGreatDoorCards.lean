/-
  DERIVED. GIVEN WITH THE SEED: THE CARDS: each row of YtolakgfoodndpaaGreatDoorRows.lean that lists a variable, with what it lists TIED to the program's text (the seventh form; the later family's looks); each row that meets fmt, with fmt's text TOLD by the authors' own Lean function (tested against real Go, not proved from fmt's source: count such statements apart). THE CARD IS WHAT COUNTS. Prove the row's statement (the work); the ties are given (YtolakgfoodndpaaGreatDoorTie.lean); close each card by the builder's one call (the guide's Derived/Test/ToyasCard.lean, 'card_holds'). Laid BY PROGRAM, IN A SANDBOX (cutbox-door.mjs). By AI agents, Wed Nov 11 2026. No macro, syntax, notation, axiom, sorry.
-/
import Derived.Test.YtolakgfoodndpaaGreatDoorRows
import GoSem.ClaimSeven
namespace Go.Proofs.YtolakgfoodndpaaGreatDoor
namespace Rows

/-- THE TIED CARD OF 'partywalllaw33.RoundKnown'. -/
def roundKnownCard : Claim7 := { stood := { row := roundKnownRow, standIns := [], harness := (true, "1f58381f1d73f8b7332baae14efae7165695a3adfc73a834d7c3085004c70b0a"), looks := true }, kinds := [], alts := [], laidByText := true, laidKinds := [.data, .data, .data, .sentinel, .sentinel, .widerDeep], laidTests := true, laidLooks := .later }
def RoundKnownCardSaid : Prop := Claim7.holds Tryz.pinned (.plain (OpenSpec.ofChange roundKnownSpec)) roundKnownCard

/-- THE SECOND FORM's CARD OF 'partywalllaw33.RoundKnown'. -/
def roundKnownUptoCard : Claim7 := { stood := { row := roundKnownUptoRow, standIns := [], harness := (true, "1f58381f1d73f8b7332baae14efae7165695a3adfc73a834d7c3085004c70b0a"), looks := true }, kinds := [], alts := [], laidByText := true, laidKinds := [.data, .data, .data, .sentinel, .sentinel, .widerDeep], laidTests := true, laidLooks := .later }
def RoundKnownUptoCardSaid : Prop := Claim7.holds Tryz.pinned (.plain (OpenSpec.upto roundKnownSpec)) roundKnownUptoCard
end Rows
end Go.Proofs.YtolakgfoodndpaaGreatDoor
