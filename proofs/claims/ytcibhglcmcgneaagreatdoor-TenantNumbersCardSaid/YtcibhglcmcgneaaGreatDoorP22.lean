/-
  Closed runs: what is known of the pure functions at closed values. No statement of this seat stands here.
-/
import Derived.Test.YtcibhglcmcgneaaGreatDoorP09
import Derived.Test.YtcibhglcmcgneaaGreatDoorP12
import Derived.Test.YtcibhglcmcgneaaGreatDoorP13
import Derived.Test.YtcibhglcmcgneaaGreatDoorP14
import Derived.Test.YtcibhglcmcgneaaGreatDoorP15
import Derived.Test.YtcibhglcmcgneaaGreatDoorP16
import Derived.Test.YtcibhglcmcgneaaGreatDoorP17
import Derived.Test.YtcibhglcmcgneaaGreatDoorP18
import Derived.Test.YtcibhglcmcgneaaGreatDoorP19
import Derived.Test.YtcibhglcmcgneaaGreatDoorP20
import Derived.Test.YtcibhglcmcgneaaGreatDoorP21
namespace Go.Proofs.YtcibhglcmcgneaaGreatDoor
open Go Go.Dt
set_option maxRecDepth 100000
theorem v73 : runs Mb m73 = true := by
  refine runs_app 30 v73_0 (runs_app 30 v73_1 ?_)
  rw [List.drop_drop]
  refine runs_app 30 v73_2 ?_
  rw [List.drop_drop]
  exact v73_3
theorem v38 : runs Mb m38 = true := by
  refine runs_app 30 v38_0 (runs_app 30 v38_1 ?_)
  rw [List.drop_drop]
  refine runs_app 30 v38_2 ?_
  rw [List.drop_drop]
  exact v38_3
theorem v50 : runs Mb m50 = true := by
  refine runs_app 30 v50_0 (runs_app 30 v50_1 ?_)
  rw [List.drop_drop]
  refine runs_app 30 v50_2 ?_
  rw [List.drop_drop]
  exact v50_3
theorem v21 : runs Mb m21 = true := by
  refine runs_app 30 v21_0 (runs_app 30 v21_1 ?_)
  rw [List.drop_drop]
  refine runs_app 30 v21_2 ?_
  rw [List.drop_drop]
  exact v21_3
theorem v11 : runs Mb m11 = true := by
  refine runs_app 30 v11_0 (runs_app 30 v11_1 ?_)
  rw [List.drop_drop]
  refine runs_app 30 v11_2 ?_
  rw [List.drop_drop]
  exact v11_3
theorem M0_ok : ∀ x, M0.mem x → tab.memo x := by
  refine addAll_mem _ _ (fun m hm => ?_) mem_e
  simp only [mAll, List.mem_append] at hm
  rcases hm with ((((((((hm | hm) | hm) | hm) | hm) | hm) | hm) | hm) | hm) | hm
  · exact runs_ok mem_e v1 m hm
  · exact runs_ok mem_e v31 m hm
  · exact runs_ok mem_e v33 m hm
  · exact runs_ok mem_e v35 m hm
  · exact runs_ok mem_e v37 m hm
  · exact runs_ok Mb_ok v38 m hm
  · exact runs_ok Mb_ok v73 m hm
  · exact runs_ok Mb_ok v50 m hm
  · exact runs_ok Mb_ok v21 m hm
  · exact runs_ok Mb_ok v11 m hm
end Go.Proofs.YtcibhglcmcgneaaGreatDoor
