/-
  The law's own call, run by the kernel. No condition.
-/
import Derived.Test.YtolakgfoodndpaaGreatDoorTab
namespace Go.Proofs.YtolakgfoodndpaaGreatDoor
open Go Go.Dt
theorem run_mem : ∀ x, MTree.mem x .e → tab.memo x := mem_e
theorem run_root : okT ((fnsS tab 20000).call 3 [] (freshSt tab .e)) = true := by kernel_rfl
end Go.Proofs.YtolakgfoodndpaaGreatDoor
