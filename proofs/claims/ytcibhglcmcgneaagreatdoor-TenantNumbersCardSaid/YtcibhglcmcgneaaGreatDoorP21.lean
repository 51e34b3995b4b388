/-
  Closed runs: what is known of the pure functions at closed values. No statement of this seat stands here.
-/
import Derived.Test.YtcibhglcmcgneaaGreatDoorP06
namespace Go.Proofs.YtcibhglcmcgneaaGreatDoor
open Go Go.Dt
set_option maxRecDepth 100000
theorem v11_0 : runs Mb (m11.take 30) = true := by kernel_rfl
theorem v11_1 : runs Mb ((m11.drop 30).take 30) = true := by kernel_rfl
theorem v11_2 : runs Mb ((m11.drop 60).take 30) = true := by kernel_rfl
theorem v11_3 : runs Mb (m11.drop 90) = true := by kernel_rfl
end Go.Proofs.YtcibhglcmcgneaaGreatDoor
