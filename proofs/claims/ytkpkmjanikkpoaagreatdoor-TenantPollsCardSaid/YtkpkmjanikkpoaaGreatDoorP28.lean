/-
  Closed runs: what is known of the pure functions at closed values. No statement of this seat stands here.
-/
import Derived.Test.YtkpkmjanikkpoaaGreatDoorP14
namespace Go.Proofs.YtkpkmjanikkpoaaGreatDoor
open Go Go.Dt
set_option maxRecDepth 100000
theorem v8_3 : runs Mb (((m8.drop 6).drop 6).drop 6) = true := by kernel_rfl
end Go.Proofs.YtkpkmjanikkpoaaGreatDoor
