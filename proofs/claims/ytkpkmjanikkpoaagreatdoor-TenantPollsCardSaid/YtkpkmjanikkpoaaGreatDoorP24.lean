/-
  Closed runs: what is known of the pure functions at closed values. No statement of this seat stands here.
-/
import Derived.Test.YtkpkmjanikkpoaaGreatDoorP14
namespace Go.Proofs.YtkpkmjanikkpoaaGreatDoor
open Go Go.Dt
set_option maxRecDepth 100000
theorem v30_0 : runs .e (m30.take 12) = true := by kernel_rfl
theorem v30_1 : runs .e (m30.drop 12) = true := by kernel_rfl
end Go.Proofs.YtkpkmjanikkpoaaGreatDoor
