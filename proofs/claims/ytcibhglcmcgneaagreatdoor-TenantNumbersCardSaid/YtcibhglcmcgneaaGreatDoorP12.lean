/-
  Closed runs: what is known of the pure functions at closed values. No statement of this seat stands here.
-/
import Derived.Test.YtcibhglcmcgneaaGreatDoorP06
namespace Go.Proofs.YtcibhglcmcgneaaGreatDoor
open Go Go.Dt
set_option maxRecDepth 100000
theorem v1 : runs .e m1 = true := by kernel_rfl
theorem v31 : runs .e m31 = true := by kernel_rfl
theorem v33 : runs .e m33 = true := by kernel_rfl
theorem v35 : runs .e m35 = true := by kernel_rfl
theorem v37 : runs .e m37 = true := by kernel_rfl
theorem Mb_ok : ∀ x, Mb.mem x → tab.memo x := by
  refine addAll_mem _ _ (fun m hm => ?_) mem_e
  simp only [List.mem_append] at hm
  rcases hm with (((hm | hm) | hm) | hm) | hm
  · exact runs_ok mem_e v1 m hm
  · exact runs_ok mem_e v31 m hm
  · exact runs_ok mem_e v33 m hm
  · exact runs_ok mem_e v35 m hm
  · exact runs_ok mem_e v37 m hm
end Go.Proofs.YtcibhglcmcgneaaGreatDoor
