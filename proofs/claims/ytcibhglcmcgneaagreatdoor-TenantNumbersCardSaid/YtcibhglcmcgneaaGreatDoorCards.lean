/-
  DERIVED. GIVEN WITH THE SEED: THE CARDS: each row of YtcibhglcmcgneaaGreatDoorRows.lean that lists a variable, with what it lists TIED to the program's text (the seventh form; the later family's looks); each row that meets fmt, with fmt's text TOLD by the authors' own Lean function (tested against real Go, not proved from fmt's source: count such statements apart). THE CARD IS WHAT COUNTS. Prove the row's statement (the work); the ties are given (YtcibhglcmcgneaaGreatDoorTie.lean); close each card by the builder's one call (the guide's Derived/Test/ToyasCard.lean, 'card_holds'). Laid BY PROGRAM, IN A SANDBOX (cutbox-door.mjs). By AI agents, Wed Nov 11 2026. No macro, syntax, notation, axiom, sorry.
-/
import Derived.Test.YtcibhglcmcgneaaGreatDoorRows
import GoSem.ClaimSeven
namespace Go.Proofs.YtcibhglcmcgneaaGreatDoor
namespace Rows

/-- THE TIED CARD OF 'partywalllaw31.TenantNumbers'. -/
def tenantNumbersCard : Claim7 := { stood := { row := tenantNumbersRow, standIns := [], harness := (true, "12262e25bcbe45a2696272de0ecdbc84d306229066b28bbd96b3cd8751bbb885"), looks := true }, kinds := [], alts := [], laidByText := true, laidKinds := [.data, .data, .data, .sentinel, .sentinel, .widerDeep], laidTests := true, laidLooks := .later }
def TenantNumbersCardSaid : Prop := Claim7.holds Tryz.pinned (.plain (OpenSpec.ofChange tenantNumbersSpec)) tenantNumbersCard

/-- THE SECOND FORM's CARD OF 'partywalllaw31.TenantNumbers'. -/
def tenantNumbersUptoCard : Claim7 := { stood := { row := tenantNumbersUptoRow, standIns := [], harness := (true, "12262e25bcbe45a2696272de0ecdbc84d306229066b28bbd96b3cd8751bbb885"), looks := true }, kinds := [], alts := [], laidByText := true, laidKinds := [.data, .data, .data, .sentinel, .sentinel, .widerDeep], laidTests := true, laidLooks := .later }
def TenantNumbersUptoCardSaid : Prop := Claim7.holds Tryz.pinned (.plain (OpenSpec.upto tenantNumbersSpec)) tenantNumbersUptoCard
end Rows
end Go.Proofs.YtcibhglcmcgneaaGreatDoor
