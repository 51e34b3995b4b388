/-
  The closed facts of the card, one by one. No condition.
-/
import Derived.Test.YtcibhglcmcgneaaGreatDoorRows
import Derived.SevenTiedAt
import Derived.KernelRfl
namespace Go.Proofs.YtcibhglcmcgneaaGreatDoor
open Go
set_option maxRecDepth 100000
theorem cardWf : Rows.tenantNumbersRow.wfByText (OpenSpec.ofChange Rows.tenantNumbersSpec) = true := by kernel_rfl
theorem cardMain : Tryz.pinned.checked.prog.mainIs = some (true, "12262e25bcbe45a2696272de0ecdbc84d306229066b28bbd96b3cd8751bbb885".toList) := by kernel_rfl
theorem cardLooks : true = Tryz.prog.looks [] := by kernel_rfl
theorem cardFunc : Tryz.prog.funcNamed Rows.tenantNumbersRow.func = some 3 := by kernel_rfl
end Go.Proofs.YtcibhglcmcgneaaGreatDoor
