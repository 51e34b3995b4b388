/-
  The closed facts of the card, one by one. No condition.
-/
import Derived.Test.YtolakgfoodndpaaGreatDoorRows
import Derived.SevenTiedAt
import Derived.KernelRfl
namespace Go.Proofs.YtolakgfoodndpaaGreatDoor
open Go
set_option maxRecDepth 100000
theorem cardWf : Rows.roundKnownRow.wfByText (OpenSpec.ofChange Rows.roundKnownSpec) = true := by kernel_rfl
theorem cardMain : Tryz.pinned.checked.prog.mainIs = some (true, "1f58381f1d73f8b7332baae14efae7165695a3adfc73a834d7c3085004c70b0a".toList) := by kernel_rfl
theorem cardLooks : true = Tryz.prog.looks [] := by kernel_rfl
theorem cardFunc : Tryz.prog.funcNamed Rows.roundKnownRow.func = some 3 := by kernel_rfl
end Go.Proofs.YtolakgfoodndpaaGreatDoor
