/-
  The closed facts of the card, one by one. No condition.
-/
import Derived.Test.YtcagafocgagnjaaGreatDoorRows
import Derived.SevenTiedAt
import Derived.KernelRfl
namespace Go.Proofs.YtcagafocgagnjaaGreatDoor
open Go
set_option maxRecDepth 100000
theorem cardWf : Rows.tenantKnownRow.wfByText (OpenSpec.ofChange Rows.tenantKnownSpec) = true := by kernel_rfl
theorem cardMain : Tryz.pinned.checked.prog.mainIs = some (true, "d41a83099d9574d4c0321f2860b8993db134c6a29a461c22d2ab1297a5f006b9".toList) := by kernel_rfl
theorem cardLooks : true = Tryz.prog.looks [] := by kernel_rfl
theorem cardGoes : false = Rows.tenantKnownRow.goesBy Tryz.prog := by kernel_rfl
theorem cardFunc : Tryz.prog.funcNamed Rows.tenantKnownRow.func = some 3 := by kernel_rfl
end Go.Proofs.YtcagafocgagnjaaGreatDoor
