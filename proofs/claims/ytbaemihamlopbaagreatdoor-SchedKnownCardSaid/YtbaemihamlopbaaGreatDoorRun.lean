/-
  The law's own call, run by the kernel. No condition.
-/
import Derived.Test.YtbaemihamlopbaaGreatDoorChB
namespace Go.Proofs.YtbaemihamlopbaaGreatDoor
open Go Go.Dt
theorem run_mem : ∀ x, MTree.mem x (MTree.add memo1 (pth 6) (MTree.add memo0 (pth 4) .e)) → tab.memo x := (mem_add' (mem_add' mem_e mem0) mem1)
theorem run_root : okT ((fnsS tab 20000).call 3 [] (freshSt tab (MTree.add memo1 (pth 6) (MTree.add memo0 (pth 4) .e)))) = true := by kernel_rfl
end Go.Proofs.YtbaemihamlopbaaGreatDoor
