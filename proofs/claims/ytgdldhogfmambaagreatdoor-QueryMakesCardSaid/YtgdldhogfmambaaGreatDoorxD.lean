/- The tables of the program, and the run of the examples of the law (awake). No statement of this seat stands here, and no condition. -/
import Derived.Test.YtgdldhogfmambaaGreatDoorProg
import Derived.Test.YtgdldhogfmambaaGreatDoorxB
open Bool renaming true->aa,false->ab
open Option renaming some->ad,none->ae
open And renaming intro->af
open Nat renaming beq->ag,blt->ah,ble->ai,shiftLeft->aj
open List renaming replicate->ak,range->ao,map->aq,take->ar,drop->au,length->aA
open Go.IntKind renaming wrap->av
open BitVec renaming ofInt->aw
open Decidable renaming decide->ax
open Go.Result renaming andThen_ok->ay
open Go.Sem renaming run_pure->az
set_option linter.all false
noncomputable section
namespace Go.Proofs.YtgdldhogfmambaaGreatDoor
open Go Go.Dt
set_option maxRecDepth 100000
def bE:10<=Tryz.prog.depth:=by have h:Tryz.prog.types.size=577:=Tryz.types_size;unfold Program.depth;rw[h];omega
def ID:a_:=D6 494 577 1 20657999024695268717247353376024094994637646342633788102645274852325180976134729557037245903149295533757810538910335369280 (.of Tryz.f0 9 0 Tryz.prog.funcs.toList) (.of Tryz.t0 10 0 Tryz.prog.types.toList) [7,8,24,25,27,28,30,31,34,35,37,38,41,42,44,45,47,48,49,50,67,68,69,70,71,72,74,75,76,77,78,79,86,87,92,93,111,112,113,114,115,116,118,119,131,132,134,135,138,139,150,151,174,175,233,234,235,236,264,265,269,270,282,283,303,304,309,310,315,316,326,327,367,368,369,370,379,380,424,425,506,507,508,509] [(13,(62,(4,12))),(15,(37,(6,14))),(6,(14,(7,5))),(14,(112,(14,13))),(10,(39,(9,9))),(10,(37,(11,9)))]
def tx:fu ID Tryz.prog:=ajQ aV Tryz.types_size aT aT aV bE aV
end Go.Proofs.YtgdldhogfmambaaGreatDoor
namespace Go.Proofs.YtgdldhogfmambaaGreatDoor
open Go Go.Dt
def alV:List (Nat×Nat):=[(3,47),(48,49),(50,63),(65,74),(75,76),(78,90),(93,94),(95,97),(102,116),(117,125),(127,129),(130,131),(133,135),(136,138),(139,140),(141,143),(144,145),(146,147),(149,160),(161,162),(167,179),(180,182),(184,190),(195,196),(200,202),(203,204),(205,208),(209,210),(211,224),(227,232),(242,246),(249,252),(253,260),(269,270),(271,287),(290,291),(300,302),(307,309),(315,317),(318,324),(325,326),(327,328),(329,336),(340,342),(344,354),(355,357),(362,363),(365,368),(371,377),(378,383),(384,387),(388,389),(390,391),(393,394),(397,399),(400,401),(402,403),(406,407),(408,409),(412,414),(423,425),(426,427),(432,433),(440,443),(448,449),(458,459),(464,470)]
def B6:a_:={@a_.Bc jJ ID Tryz.prog with pure:=λf=>alV.any λp=>ai p.1 f&&ah f p.2}
def ap2:fu B6 Tryz.prog:=⟨tx.func,tx.lz,tx.ma,tx.depth,tx.mixed⟩
def ZD(m:hZ):B6.jY m↔@nP jJ B6 Tryz.prog m:=by letI:=jJ;exact awb
def ap3:@uZ jJ B6 Tryz.prog:=@Wi jJ _ _ λ_=>rfl
def mA:hZ:={f:=6,args:=[],heap:=[.c5],val:=cO aa,lJ:=[.c5]}
theorem ajG:B6.jY mA:=@ajN jJ B6 Tryz.prog ap2 ZD ap3 20000 mA .e ajM aV
