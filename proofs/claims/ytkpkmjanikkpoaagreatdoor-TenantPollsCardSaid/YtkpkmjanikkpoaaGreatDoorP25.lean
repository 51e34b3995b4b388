/-
  Closed runs: what is known of the pure functions at closed values. No statement of this seat stands here.
-/
import Derived.Test.YtkpkmjanikkpoaaGreatDoorP14
namespace Go.Proofs.YtkpkmjanikkpoaaGreatDoor
open Go Go.Dt
set_option maxRecDepth 100000
theorem v8_0 : runs Mb (m8.take 6) = true := by kernel_rfl
end Go.Proofs.YtkpkmjanikkpoaaGreatDoor
