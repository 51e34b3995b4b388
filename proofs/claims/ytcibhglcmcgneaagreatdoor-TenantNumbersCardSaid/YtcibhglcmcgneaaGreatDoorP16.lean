/-
  Closed runs: what is known of the pure functions at closed values. No statement of this seat stands here.
-/
import Derived.Test.YtcibhglcmcgneaaGreatDoorP06
namespace Go.Proofs.YtcibhglcmcgneaaGreatDoor
open Go Go.Dt
set_option maxRecDepth 100000
theorem v73_3 : runs Mb (m73.drop 90) = true := by kernel_rfl
end Go.Proofs.YtcibhglcmcgneaaGreatDoor
