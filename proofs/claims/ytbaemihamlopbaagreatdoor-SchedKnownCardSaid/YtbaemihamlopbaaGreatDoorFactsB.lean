/-
  The closed facts of the card, one by one. No condition.
-/
import Derived.Test.YtbaemihamlopbaaGreatDoorRows
import Derived.SevenTiedAt
import Derived.KernelRfl
namespace Go.Proofs.YtbaemihamlopbaaGreatDoor
open Go
set_option maxRecDepth 100000
theorem cardWf : Rows.schedKnownRow.wfByText (OpenSpec.ofChange Rows.schedKnownSpec) = true := by kernel_rfl
theorem cardMain : Tryz.pinned.checked.prog.mainIs = some (true, "d04c3941c3c521d39531077c15177f88e7d562129648b8a42d186412cbeb9245".toList) := by kernel_rfl
theorem cardLooks : false = Tryz.prog.looks [] := by kernel_rfl
theorem cardFunc : Tryz.prog.funcNamed Rows.schedKnownRow.func = some 3 := by kernel_rfl
end Go.Proofs.YtbaemihamlopbaaGreatDoor
