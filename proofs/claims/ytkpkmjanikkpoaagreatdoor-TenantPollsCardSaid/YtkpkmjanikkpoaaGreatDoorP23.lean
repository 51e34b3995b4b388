/-
  Closed runs: what is known of the pure functions at closed values. No statement of this seat stands here.
-/
import Derived.Test.YtkpkmjanikkpoaaGreatDoorP14
namespace Go.Proofs.YtkpkmjanikkpoaaGreatDoor
open Go Go.Dt
set_option maxRecDepth 100000
theorem vA : runs .e (mA) = true := by kernel_rfl
theorem v34 : runs .e (m34) = true := by kernel_rfl
theorem v11 : runs .e (m11) = true := by kernel_rfl
theorem v32 : runs .e (m32) = true := by kernel_rfl
theorem v59 : runs .e (m59) = true := by kernel_rfl
theorem v40 : runs .e (m40) = true := by kernel_rfl
end Go.Proofs.YtkpkmjanikkpoaaGreatDoor
