/- The closed facts of the row, one by one (together they go over the kernel's memory). No condition. -/
import Derived.Test.YtgdldhogfmambaaGreatDoorRows
import Derived.Stop.Joined
import Derived.JoinedOf
import Derived.KernelRfl
namespace Go.Proofs.YtgdldhogfmambaaGreatDoor
open Go
set_option maxRecDepth 100000
theorem fact0:Rows.queryMakesRow.wf (OpenSpec.ofChange Rows.queryMakesSpec)=true:=by kernel_rfl
theorem fact1:laidOutB Tryz.prog=true:=by kernel_rfl
theorem fact2:mapsRowed Tryz.prog=true:=by kernel_rfl
theorem fact3:Tryz.f3.params.all (Tryz.prog.readableRec ·)=true:=by kernel_rfl
theorem fact4:namedTie Tryz.prog Rows.queryMakesRow.named Rows.queryMakesSpec.vars=true:=by kernel_rfl
theorem fact5:(Rows.queryMakesRow.stops==[])=true:=by kernel_rfl
theorem fact6:(Tryz.prog.stops==[])=true:=by kernel_rfl
theorem fact7:(Rows.queryMakesRow.knobs==[])=true:=by kernel_rfl
theorem fact8:(Tryz.prog.stopKnobs==[])=true:=by kernel_rfl
theorem fact9:(Rows.queryMakesRow.inPlace==Tryz.prog.inPlace 3)=true:=by kernel_rfl
theorem fact10:(Rows.queryMakesRow.unfollowed==Tryz.prog.unfollowed 3)=true:=by kernel_rfl
theorem fact11:(Rows.queryMakesRow.recurses==Tryz.prog.recurses 3)=true:=by kernel_rfl
theorem fact12:(Rows.queryMakesRow.named==Tryz.prog.varsNamed 3)=true:=by kernel_rfl
theorem fact13:(Rows.queryMakesRow.maps==(Tryz.f3.params.toList++Rows.queryMakesSpec.plain.varTypes Tryz.prog).any (Tryz.prog.mapsRec ·))=true:=by kernel_rfl
theorem fact14:(Rows.queryMakesRow.ifaces==(Tryz.f3.params.toList++Rows.queryMakesSpec.plain.varTypes Tryz.prog).any (Tryz.prog.ifacesRec ·))=true:=by kernel_rfl
theorem fact15:(Rows.queryMakesRow.mapsOut==Tryz.prog.mapsAmong Tryz.f3.resultTypes.toList)=true:=by kernel_rfl
theorem fact16:(Rows.queryMakesRow.loops==(Tryz.f3.params.toList++Rows.queryMakesSpec.plain.varTypes Tryz.prog).any (Tryz.prog.loopsFrom ·))=true:=by kernel_rfl
theorem fact17:(Rows.queryMakesRow.wideKeys==(Tryz.f3.params.toList++Rows.queryMakesSpec.plain.varTypes Tryz.prog++Tryz.f3.resultTypes.toList).any (Tryz.prog.wideKeysFrom ·))=true:=by kernel_rfl
theorem fact18:Rows.queryMakesSpec.vars.all (Tryz.prog.varReadable ·)=true:=by kernel_rfl
theorem fact19:Tryz.f3.resultTypes.all (λt=>Tryz.prog.readableRec t&&decide (t<Tryz.prog.types.size))=true:=by kernel_rfl
theorem fact20:(Rows.queryMakesRow.ifacesOut==Tryz.f3.resultTypes.toList.any (Tryz.prog.ifacesRec ·))=true:=by kernel_rfl
theorem fact21:(Rows.queryMakesRow.loopsOut==Tryz.f3.resultTypes.toList.any (Tryz.prog.loopsFrom ·))=true:=by kernel_rfl
theorem fact22:(Rows.queryMakesRow.plainKeys==Tryz.prog.plainKeys)=true:=by kernel_rfl
theorem fact23:Rows.queryMakesRow.shortTexts.isNone=true:=by kernel_rfl
theorem fact24:Tryz.prog.stopsHeard=true:=by kernel_rfl
theorem fact25:Tryz.prog.mayEnter=true:=by kernel_rfl
theorem fact26:(Rows.queryMakesRow.lifted==Tryz.prog.liftsFinal)=true:=by kernel_rfl
theorem fact27:(Tryz.prog.make==some Rows.queryMakesRow.make)=true:=by kernel_rfl
theorem fact29:(Rows.queryMakesRow.pinned==Rows.queryMakesRow.pinnedBy)=true:=by kernel_rfl
theorem fact30:(Rows.queryMakesRow.veiled==(Tryz.f3.params.toList++Rows.queryMakesSpec.plain.varTypes Tryz.prog++Tryz.f3.resultTypes.toList).any (Tryz.prog.veiledRec ·))=true:=by kernel_rfl
theorem fact31:Rows.queryMakesRow.veiledFits Tryz.prog Tryz.f3.params.toList (Tryz.f3.params.toList++Rows.queryMakesSpec.plain.varTypes Tryz.prog++Tryz.f3.resultTypes.toList)=true:=by kernel_rfl
theorem andT{a b:Bool}(ha:a=true)(hb:b=true):(a&&b)=true:=by rw[ha,hb];rfl
theorem rowFacts:joinedFacts Tryz.prog 3 Tryz.f3 Rows.queryMakesSpec Rows.queryMakesRow=true:=andT (andT (andT (andT (andT (andT (andT (andT (andT (andT (andT (andT (andT (andT (andT (andT (andT (andT (andT (andT (andT (andT (andT (andT (andT (andT (andT (andT (andT (andT (andT (fact0) fact1) fact2) fact3) fact4) fact5) fact6) fact7) fact8) fact9) fact10) fact11) fact12) fact13) fact14) fact15) fact16) fact17) fact18) fact19) fact20) fact21) fact22) fact23) fact24) fact25) fact26) fact27) (by kernel_rfl)) fact29) fact30) fact31
theorem rowNamed:Tryz.prog.funcNamed Rows.queryMakesRow.func=some 3:=by kernel_rfl
theorem rowInst:Tryz.f3.isInstance Tryz.prog Rows.queryMakesRow.origin Rows.queryMakesRow.targs:=of_decide_eq_true (by kernel_rfl)
end Go.Proofs.YtgdldhogfmambaaGreatDoor
