/- No function of the program starts a goroutine: so the call starts none. No condition. -/
import Derived.Test.YtgdldhogfmambaaGreatDoorRows
import Derived.SevenTiedAt
import Derived.KernelRfl
namespace Go.Proofs.YtgdldhogfmambaaGreatDoor
open Go
set_option maxRecDepth 100000
theorem noGoes:Tryz.prog.funcs.toList.all (λfn=>!fn.goes)=true:=by kernel_rfl
theorem goes_none{P:Program}(h:P.funcs.toList.all (λfn=>!fn.goes)=true)(f:FuncId):P.goes f=false:=by
 have ha:∀fn,fn∈P.funcs.toList->fn.goes=false:=λfn hf=>by have:=List.all_eq_true.1 h fn hf;simpa using this
 unfold Program.goes;rw[Bool.or_eq_false_iff];constructor
 ·rw[List.any_eq_false];intro g _
  cases hg:P.funcs[g]? with
  |none=>simp
  |some fn=>have:fn∈P.funcs.toList:=Array.mem_toList_iff.2 (Array.mem_of_getElem? hg);simp[ha fn this]
 ·rw[Bool.and_eq_false_iff];right;rw[<-Array.any_toList,List.any_eq_false];intro fn hf;simp[ha fn hf]
theorem goesBy_none{P:Program}(c:OpenClaim)(hs:c.start=.entering)(h:P.funcs.toList.all (λfn=>!fn.goes)=true):false=c.goesBy P:=by unfold OpenClaim.goesBy Program.goesAt Program.goesFrom;rw[hs];cases P.funcNamed c.func<;>simp[goes_none h]
theorem cardGoes:false=Rows.queryMakesRow.goesBy Tryz.prog:=goesBy_none Rows.queryMakesRow rfl noGoes
end Go.Proofs.YtgdldhogfmambaaGreatDoor
