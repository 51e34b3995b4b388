import Derived.Test.YtpikdkimdofpkaaGreatDoorTab
namespace Go.Proofs.YtpikdkimdofpkaaGreatDoor
open Go Go.Dt
theorem run_mem : ∀ x, MTree.e.mem x → tab.memo x := mem_e
theorem run_root : okT ((fnsS tab 20000).call 3 [] (freshSt tab .e)) = true := by kernel_rfl
end Go.Proofs.YtpikdkimdofpkaaGreatDoor
