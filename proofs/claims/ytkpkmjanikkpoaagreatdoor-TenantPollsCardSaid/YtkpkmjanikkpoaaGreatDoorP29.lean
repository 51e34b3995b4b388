/-
  Closed runs: what is known of the pure functions at closed values. No statement of this seat stands here.
-/
import Derived.Test.YtkpkmjanikkpoaaGreatDoorP17
import Derived.Test.YtkpkmjanikkpoaaGreatDoorP23
import Derived.Test.YtkpkmjanikkpoaaGreatDoorP24
import Derived.Test.YtkpkmjanikkpoaaGreatDoorP25
import Derived.Test.YtkpkmjanikkpoaaGreatDoorP26
import Derived.Test.YtkpkmjanikkpoaaGreatDoorP27
import Derived.Test.YtkpkmjanikkpoaaGreatDoorP28
namespace Go.Proofs.YtkpkmjanikkpoaaGreatDoor
open Go Go.Dt
set_option maxRecDepth 100000
theorem v30 : runs .e m30 = true := runs_app 12 v30_0 v30_1
theorem v8 : runs Mb m8 = true := runs_app 6 v8_0 (runs_app 6 v8_1 (runs_app 6 v8_2 v8_3))
theorem Mb_ok : ∀ x, Mb.mem x → tab.memo x := by
  refine addAll_mem _ _ (fun m hm => ?_) mem_e
  simp only [List.mem_append] at hm
  rcases hm with (hm | hm) | hm
  · exact runs_ok mem_e vA m hm
  · exact runs_ok mem_e v30 m hm
  · exact runs_ok mem_e v34 m hm
theorem M0_ok : ∀ x, M0.mem x → tab.memo x := by
  refine addAll_mem _ _ (fun m hm => ?_) mem_e
  simp only [mAll, List.mem_append] at hm
  rcases hm with ((((((hm | hm) | hm) | hm) | hm) | hm) | hm) | hm
  · exact runs_ok mem_e vA m hm
  · exact runs_ok mem_e v30 m hm
  · exact runs_ok mem_e v34 m hm
  · exact runs_ok mem_e v11 m hm
  · exact runs_ok Mb_ok v8 m hm
  · exact runs_ok mem_e v32 m hm
  · exact runs_ok mem_e v59 m hm
  · exact runs_ok mem_e v40 m hm
end Go.Proofs.YtkpkmjanikkpoaaGreatDoor
