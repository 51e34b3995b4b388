/- The closed facts of the card, one by one. No condition. -/
import Derived.Test.YtgdldhogfmambaaGreatDoorRows
import Derived.SevenTiedAt
import Derived.KernelRfl
namespace Go.Proofs.YtgdldhogfmambaaGreatDoor
open Go
set_option maxRecDepth 100000
theorem cardWf:Rows.queryMakesRow.wfByText (OpenSpec.ofChange Rows.queryMakesSpec)=true:=by kernel_rfl
theorem cardMain:Tryz.pinned.checked.prog.mainIs=some (true,"81103160817741a566b71d473f7f54956a45e20bffcea4ce791e7b82381306f7".toList):=by kernel_rfl
theorem cardLooks:false=Tryz.prog.looks []:=by kernel_rfl
theorem cardFunc:Tryz.prog.funcNamed Rows.queryMakesRow.func=some 3:=by kernel_rfl
end Go.Proofs.YtgdldhogfmambaaGreatDoor
