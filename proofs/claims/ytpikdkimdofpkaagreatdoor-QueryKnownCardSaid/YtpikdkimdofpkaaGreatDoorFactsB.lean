/-
  The closed facts of the card, one by one. No condition.
-/
import Derived.Test.YtpikdkimdofpkaaGreatDoorRows
import Derived.SevenTiedAt
import Derived.KernelRfl
namespace Go.Proofs.YtpikdkimdofpkaaGreatDoor
open Go
set_option maxRecDepth 100000
theorem cardWf : Rows.queryKnownRow.wfByText (OpenSpec.ofChange Rows.queryKnownSpec) = true := by kernel_rfl
theorem cardMain : Tryz.pinned.checked.prog.mainIs = some (true, "d705eda3ec02f686383ecd6471824e6498fd5223a9096f820f45aee96ac7b77f".toList) := by kernel_rfl
theorem cardLooks : false = Tryz.prog.looks [] := by kernel_rfl
theorem cardGoes : false = Rows.queryKnownRow.goesBy Tryz.prog := by kernel_rfl
theorem cardFunc : Tryz.prog.funcNamed Rows.queryKnownRow.func = some 3 := by kernel_rfl
end Go.Proofs.YtpikdkimdofpkaaGreatDoor
