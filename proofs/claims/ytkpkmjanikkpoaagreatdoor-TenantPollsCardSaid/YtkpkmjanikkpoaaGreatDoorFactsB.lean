/-
  The closed facts of the card, one by one. No condition.
-/
import Derived.Test.YtkpkmjanikkpoaaGreatDoorRows
import Derived.SevenTiedAt
import Derived.KernelRfl
namespace Go.Proofs.YtkpkmjanikkpoaaGreatDoor
open Go
set_option maxRecDepth 100000
theorem cardWf : Rows.tenantPollsRow.wfByText (OpenSpec.ofChange Rows.tenantPollsSpec) = true := by kernel_rfl
theorem cardMain : Tryz.pinned.checked.prog.mainIs = some (true, "e5897cb358f52a994fa8f413dd2527918d4d2ba1f29f8e8822de7b92338986c0".toList) := by kernel_rfl
theorem cardLooks : true = Tryz.prog.looks [] := by kernel_rfl
theorem cardFunc : Tryz.prog.funcNamed Rows.tenantPollsRow.func = some 3 := by kernel_rfl
end Go.Proofs.YtkpkmjanikkpoaaGreatDoor
