/-
  DERIVED. GIVEN WITH THE SEED: THE CARDS: each row of YtcagafocgagnjaaGreatDoorRows.lean that lists a variable, with what it lists TIED to the program's text (the seventh form; the later family's looks); each row that meets fmt, with fmt's text TOLD by the authors' own Lean function (tested against real Go, not proved from fmt's source: count such statements apart). THE CARD IS WHAT COUNTS. Prove the row's statement (the work); the ties are given (YtcagafocgagnjaaGreatDoorTie.lean); close each card by the builder's one call (the guide's Derived/Test/ToyasCard.lean, 'card_holds'). Laid BY PROGRAM, IN A SANDBOX (cutbox-door.mjs). By AI agents, Wed Nov 11 2026. No macro, syntax, notation, axiom, sorry.
-/
import Derived.Test.YtcagafocgagnjaaGreatDoorRows
import GoSem.ClaimSeven
namespace Go.Proofs.YtcagafocgagnjaaGreatDoor
namespace Rows

/-- THE TIED CARD OF 'partywalllaw31.TenantKnown'. -/
def tenantKnownCard : Claim7 := { stood := { row := tenantKnownRow, standIns := [], harness := (true, "d41a83099d9574d4c0321f2860b8993db134c6a29a461c22d2ab1297a5f006b9"), looks := true }, kinds := [], alts := [], laidByText := true, laidKinds := [.data, .data, .data, .sentinel, .sentinel, .widerDeep], laidTests := true, laidLooks := .later }
def TenantKnownCardSaid : Prop := Claim7.holds Tryz.pinned (.plain (OpenSpec.ofChange tenantKnownSpec)) tenantKnownCard

/-- THE SECOND FORM's CARD OF 'partywalllaw31.TenantKnown'. -/
def tenantKnownUptoCard : Claim7 := { stood := { row := tenantKnownUptoRow, standIns := [], harness := (true, "d41a83099d9574d4c0321f2860b8993db134c6a29a461c22d2ab1297a5f006b9"), looks := true }, kinds := [], alts := [], laidByText := true, laidKinds := [.data, .data, .data, .sentinel, .sentinel, .widerDeep], laidTests := true, laidLooks := .later }
def TenantKnownUptoCardSaid : Prop := Claim7.holds Tryz.pinned (.plain (OpenSpec.upto tenantKnownSpec)) tenantKnownUptoCard
end Rows
end Go.Proofs.YtcagafocgagnjaaGreatDoor
