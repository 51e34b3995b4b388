/-
  Closed runs: what is known of the pure functions at closed values. No statement of this seat stands here.
-/
import Derived.Test.YtcibhglcmcgneaaGreatDoorP06
namespace Go.Proofs.YtcibhglcmcgneaaGreatDoor
open Go Go.Dt
set_option maxRecDepth 100000
theorem v38_0 : runs Mb (m38.take 30) = true := by kernel_rfl
theorem v38_1 : runs Mb ((m38.drop 30).take 30) = true := by kernel_rfl
end Go.Proofs.YtcibhglcmcgneaaGreatDoor
