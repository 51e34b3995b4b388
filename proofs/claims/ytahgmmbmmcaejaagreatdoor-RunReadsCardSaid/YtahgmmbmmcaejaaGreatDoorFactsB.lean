/-
  The closed facts of the card, one by one. No condition.
-/
import Derived.Test.YtahgmmbmmcaejaaGreatDoorRows
import Derived.SevenTiedAt
import Derived.KernelRfl
namespace Go.Proofs.YtahgmmbmmcaejaaGreatDoor
open Go
set_option maxRecDepth 100000
theorem cardWf : Rows.runReadsRow.wfByText (OpenSpec.ofChange Rows.runReadsSpec) = true := by kernel_rfl
theorem cardMain : Tryz.pinned.checked.prog.mainIs = some (true, "afd62e6d55ab5d1ab8675fce8aa694ffa5e36712b35e351973498b1bd4750819".toList) := by kernel_rfl
theorem cardLooks : true = Tryz.prog.looks [] := by kernel_rfl
theorem cardFunc : Tryz.prog.funcNamed Rows.runReadsRow.func = some 3 := by kernel_rfl
end Go.Proofs.YtahgmmbmmcaejaaGreatDoor
