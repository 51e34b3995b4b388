/-
  DERIVED. GIVEN WITH THE SEED: THE CARDS: each row of YtkpkmjanikkpoaaGreatDoorRows.lean that lists a variable, with what it lists TIED to the program's text (the seventh form; the later family's looks); each row that meets fmt, with fmt's text TOLD by the authors' own Lean function (tested against real Go, not proved from fmt's source: count such statements apart). THE CARD IS WHAT COUNTS. Prove the row's statement (the work); the ties are given (YtkpkmjanikkpoaaGreatDoorTie.lean); close each card by the builder's one call (the guide's Derived/Test/ToyasCard.lean, 'card_holds'). Laid BY PROGRAM, IN A SANDBOX (cutbox-door.mjs). By AI agents, Wed Nov 11 2026. No macro, syntax, notation, axiom, sorry.
-/
import Derived.Test.YtkpkmjanikkpoaaGreatDoorRows
import GoSem.ClaimSeven
namespace Go.Proofs.YtkpkmjanikkpoaaGreatDoor
namespace Rows

/-- THE TIED CARD OF 'partywalllaw31.TenantPolls'. -/
def tenantPollsCard : Claim7 := { stood := { row := tenantPollsRow, standIns := [], harness := (true, "e5897cb358f52a994fa8f413dd2527918d4d2ba1f29f8e8822de7b92338986c0"), looks := true }, kinds := [], alts := [], laidByText := true, laidKinds := [.data, .data, .data, .sentinel, .sentinel, .widerDeep], laidTests := true, laidLooks := .later }
def TenantPollsCardSaid : Prop := Claim7.holds Tryz.pinned (.plain (OpenSpec.ofChange tenantPollsSpec)) tenantPollsCard

/-- THE SECOND FORM's CARD OF 'partywalllaw31.TenantPolls'. -/
def tenantPollsUptoCard : Claim7 := { stood := { row := tenantPollsUptoRow, standIns := [], harness := (true, "e5897cb358f52a994fa8f413dd2527918d4d2ba1f29f8e8822de7b92338986c0"), looks := true }, kinds := [], alts := [], laidByText := true, laidKinds := [.data, .data, .data, .sentinel, .sentinel, .widerDeep], laidTests := true, laidLooks := .later }
def TenantPollsUptoCardSaid : Prop := Claim7.holds Tryz.pinned (.plain (OpenSpec.upto tenantPollsSpec)) tenantPollsUptoCard
end Rows
end Go.Proofs.YtkpkmjanikkpoaaGreatDoor
