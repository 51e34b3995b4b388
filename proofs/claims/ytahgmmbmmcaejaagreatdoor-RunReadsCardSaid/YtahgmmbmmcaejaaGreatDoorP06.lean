/-
  A deterministic reading of the model's code: frames and calls. No statement of this seat stands here.
-/
import Derived.Test.YtahgmmbmmcaejaaGreatDoorP00
import Derived.Test.YtahgmmbmmcaejaaGreatDoorP05
namespace Go.Dt
inductive AItem where
 | code (c:Code)
 | inBlock (id:Nat)
 | inLoop (body:Code)
 | inScope (body:Code)
 | beginRound
structure AFr where
 fn:FuncId
 T:List AV
 todo:List AItem
 defers:List ADef
 round:Option Nat
def exitTo(id:Nat):List AItem→Option (List AItem)
 | .inBlock id'::k=>if id'==id then some k else exitTo id k
 | _::k=>exitTo id k
 | []=>none
def gotoIn(l:Nat):List AItem→Option (List AItem)
 | .inScope body::k=>
  match findLabel body l with
  | some rest=>some (.code rest:: .inScope body::k)
  | none=>gotoIn l k
 | _::k=>gotoIn l k
 | []=>none
def resultV(D:Tab)(σ:St)(T:List AV):List ResultVar→R (List AV)
 | []=> .ok []
 | .tmp t::l=>do
  let r ← resultV D σ T l
  return T.getD t .undef::r
 | .cell a t::l=>do
  let v ← loadV D σ t (T.getD a .undef)
  let r ← resultV D σ T l
  return v::r
def resultsV(D:Tab)(σ:St)(f:FuncId)(T:List AV):R AV:=
 match D.func f with
 | some fn=>do
  let vs ← resultV D σ T fn.results.toList
  match vs with
  | [v]=>return v
  | vs=>return .tuple vs
 | none=> .error "results"
def replUndef:Nat→List AV
 | 0=>[]
 | n+1=> .undef::replUndef n
def enterFr(D:Tab)(f:FuncId)(args:List AV):R AFr:=
 match D.func f with
 | some fn=>match fn.body with
  | some c=> .ok {fn:=f,T:=args++replUndef (fn.ntmps - args.length),todo:=[.code c],defers:=[],round:=none}
  | none=> .error "body"
 | none=> .error "enter"
def setParams:List (Tmp×AV)→List AV→List AV
 | [],T=>T
 | (t,a)::l,T=>setParams l (T.set t a)
def getLoop(σ:St)(l:Nat):R ALoop:=
 if l<σ.n then
  match σ.getO l with
  | .loop r=> .ok r
  | _=> .error "loop"
 else .error "loop"
structure Fns where
 run:AFr→Pan→St→R (AEnd×Pan×St)
 finish:FuncId→List AV→List ADef→Option AV→Pan→St→R (AEnd×Pan×St)
 endLoop:AFr→Nat→AEnd→Pan→St→R (AEnd×Pan×St)
 call:CallT
 round:RoundT
def goF(F:Fns)(nx:ANext)(σ:St):R (AEnd×St):=
 match nx with
 | .enter f args=>F.call f args σ
 | .round l args=>F.round l args σ
 | _=> .error "goF"
def leaveF(F:Fns)(fr:AFr)(jump:Option Code)(pan:Pan)(σ:St):R (AEnd×Pan×St):=
 match fr.round with
 | none=>
  match jump with
  | none=>F.finish fr.fn fr.T fr.defers none pan σ
  | some .ret=>F.finish fr.fn fr.T fr.defers none pan σ
  | _=> .error "leave"
 | some l=>
  if fr.defers.isEmpty then do
   let r ← getLoop σ l
   return (.ret (boolV jump.isNone),pan,σ.set l (.loop {r with state:=if jump.isNone then .ready else .done,pending:=jump}))
  else .error "defers in a round"
def panicF(F:Fns)(fr:AFr)(v:AV)(pan:Pan)(σ:St):R (AEnd×Pan×St):=
 match fr.round with
 | none=>F.finish fr.fn fr.T fr.defers (some v) pan σ
 | some _=>if fr.defers.isEmpty then .ok (.panic v,pan,σ) else .error "defers in a round"
def runF(D:Tab)(F:Fns)(fr:AFr)(pan:Pan)(σ:St):R (AEnd×Pan×St):=
 match fr.todo with
 | []=>leaveF F fr none pan σ
 | .inBlock _::k=>F.run {fr with todo:=k} pan σ
 | .inScope _::k=>F.run {fr with todo:=k} pan σ
 | .inLoop body::k=>F.run {fr with todo:= .code body:: .inLoop body::k} pan σ
 | .beginRound::k=>
  match fr.round with
  | some l=>do
   let r ← getLoop σ l
   if r.state= .ready then F.run {fr with todo:=k} pan (σ.set l (.loop {r with state:= .busy}))
   else .error "beginRound"
  | none=> .error "beginRound"
 | .code c::k=>
  match c with
  | .ret=>leaveF F fr (some .ret) pan σ
  | .skip=>F.run {fr with todo:=k} pan σ
  | .label _=>F.run {fr with todo:=k} pan σ
  | .seq a b=>F.run {fr with todo:= .code a:: .code b::k} pan σ
  | .cond c thn els=>do
   let b ← asB (evalO D fr.T c)
   F.run {fr with todo:= .code (if b then thn else els)::k} pan σ
  | .block id body=>F.run {fr with todo:= .code body:: .inBlock id::k} pan σ
  | .loop body=>F.run {fr with todo:= .code body:: .inLoop body::k} pan σ
  | .scope body=>F.run {fr with todo:= .code body:: .inScope body::k} pan σ
  | .exit id=>
   match exitTo id k with
   | some k=>F.run {fr with todo:=k} pan σ
   | none=>leaveF F fr (some (.exit id)) pan σ
  | .goto l=>
   match gotoIn l k with
   | some k=>F.run {fr with todo:=k} pan σ
   | none=>leaveF F fr (some (.goto l)) pan σ
  | .region _ ops draw=>do
   let r ← runRegion D F.call F.round fr.round.isSome ops draw fr.T fr.defers pan σ
   match r with
   | .go T ds pan σ=>F.run {fr with T,defers:=ds,todo:=k} pan σ
   | .panic v T ds pan σ=>panicF F {fr with T,defers:=ds} v pan σ
  | .rangeFunc f params assign body=>
   match fr.round with
   | some l0=>do
    let r0 ← getLoop σ l0
    let nx ← callV D (evalO D fr.T f) [.yield σ.n]
    let lp:ALoop:= {state:= .ready,pending:=none,fn:=fr.fn,T:=fr.T,params:=params.toList,assign,body,defers:=r0.defers}
    let (e,σ') ← goF F nx (σ.push (.loop lp))
    F.endLoop {fr with todo:=k} σ.n e pan σ'
   | none=>do
    let nx ← callV D (evalO D fr.T f) [.yield (σ.n+1)]
    let lp:ALoop:= {state:= .ready,pending:=none,fn:=fr.fn,T:=fr.T,params:=params.toList,assign,body,defers:=σ.n}
    let (e,σ') ← goF F nx ((σ.push (.deferred (some []))).push (.loop lp))
    F.endLoop {fr with todo:=k,defers:= .collected σ.n::fr.defers} (σ.n+1) e pan σ'
  | .refuse _=> .error "refuse"
def endLoopF(F:Fns)(fr:AFr)(l:Nat)(e:AEnd)(pan:Pan)(σ:St):R (AEnd×Pan×St):=
 match e with
 | .ret _=>do
  let r ← getLoop σ l
  if r.state= .busy then .error "endLoop busy" else
  match r.pending with
  | none=>F.run fr pan (σ.set l (.loop {r with state:= .exhausted}))
  | some c=>F.run {fr with todo:= .code c::fr.todo} pan (σ.set l (.loop {r with state:= .exhausted}))
 | .panic v=>panicF F fr v pan σ
def finishF(D:Tab)(F:Fns)(fn:FuncId)(T:List AV)(ds:List ADef)(mode:Option AV)(pan:Pan)(σ:St):R (AEnd×Pan×St):=
 match ds with
 | []=>
  match mode with
  | none=>do
   let v ← resultsV D σ fn T
   return (.ret v,pan,σ)
  | some v=> .ok (.panic v,pan,σ)
 | .collected r::ds=>do
  let o ← σ.get r
  match o with
  | .deferred (some calls)=>F.finish fn T (calls++ds) mode pan (σ.set r (.deferred none))
  | _=> .error "collected"
 | .fn g cap args::ds=>do
  let nx ← invokeT D g cap args
  match nx with
  | .enter f args=>do
   let fr ← enterFr D f args
   let (e,p,σ) ← F.run fr (mode.map fun v=>(v,false)) σ
   match e with
   | .ret _=>
    match p with
    | some (v,false)=>F.finish fn T ds (some v) pan σ
    | _=>F.finish fn T ds none pan σ
   | .panic v=>
    match p with
    | none=>F.finish fn T ds (some v) pan σ
    | some _=> .error "panic in a deferred call while panicking"
  | _=> .error "deferred call"
def plainF(D:Tab)(F:Fns)(f:FuncId)(args:List AV)(σ:St):R (AEnd×St):=do
 let fr ← enterFr D f args
 let (e,_,σ) ← F.run fr none σ
 return (e,σ)
def bareSt(M:MTree)(l:List AO):St:= {n:=l.length,l,M}
def pureF(D:Tab)(F:Fns)(f:FuncId)(args:List AV)(σX:St):R (Memo×MTree):=do
 let fr ← enterFr D f args
 let (e,_,σ2) ← F.run fr none σX
 match e with
 | .ret v=>
  if nodup (refsA σ2 copyFuel v) then do
   let (y,σY) ← copyA true σ2 copyFuel v (freshSt D .e)
   if nodup (refsA (bareSt .e σY.l) copyFuel y) then return ({f,args,heap:=σX.l,val:=y,res:=σY.l},σ2.M)
   else .error "pure result shares"
  else .error "pure result shares"
 | .panic _=> .error "pure panics"
def memoF(m:Memo)(σ:St):R (AEnd×St):=do
 let (v,σ) ← copyA true (bareSt .e m.res) copyFuel m.val σ
 return (.ret v,σ)
def callF(D:Tab)(F:Fns)(f:FuncId)(args:List AV)(σ:St):R (AEnd×St):=
 if D.pure f then do
  let (args',σX) ← copyL (copyA false σ copyFuel) args (freshSt D σ.M)
  match findMemo f args' σX.l (σX.M.get (pth f)) with
  | some m=>memoF m σ
  | none=>do
   let (m,M) ← pureF D F f args' σX
   memoF m {σ with M:=M.add m (pth f)}
 else plainF D F f args σ
def roundF(D:Tab)(F:Fns)(l:Nat)(args:List AV)(σ:St):R (AEnd×St):=do
 let r ← getLoop σ l
 match D.func r.fn with
 | none=> .error "round"
 | some _=>
  if r.params.length=args.length then do
   let (e,_,σ) ← F.run {fn:=r.fn,T:=setParams (r.params.zip args) r.T,todo:=[.code r.assign,.beginRound,.code r.body],defers:=[],round:=some l} none σ
   return (e,σ)
  else .error "yield number of arguments"
def noFns:Fns where
 run:=fun _ _ _=> .error "fuel"
 finish:=fun _ _ _ _ _ _=> .error "fuel"
 endLoop:=fun _ _ _ _ _=> .error "fuel"
 call:=fun _ _ _=> .error "fuel"
 round:=fun _ _ _=> .error "fuel"
def nextFns(D:Tab)(F:Fns):Fns where
 run:=runF D F
 finish:=finishF D F
 endLoop:=endLoopF F
 call:=callF D F
 round:=roundF D F
def fns(D:Tab):Nat→Fns
 | 0=>noFns
 | n+1=>nextFns D (fns D n)
end Go.Dt
namespace Go.Dt
def cItem:AItem→Item
 | .code c=> .code c
 | .inBlock id=> .inBlock id
 | .inLoop b=> .inLoop b
 | .inScope b=> .inScope b
 | .beginRound=> .beginRound
theorem exitTo_c(id:Nat):∀k:List AItem,Go.exitTo id (k.map cItem)=(exitTo id k).map (List.map cItem)
 | []=>rfl
 | .inBlock id'::k=>by
  simp only [List.map_cons,cItem,Go.exitTo,exitTo]
  split
  ·rfl
  ·exact exitTo_c id k
 | .code c::k=>by simp only [List.map_cons,cItem,Go.exitTo,exitTo];exact exitTo_c id k
 | .inLoop c::k=>by simp only [List.map_cons,cItem,Go.exitTo,exitTo];exact exitTo_c id k
 | .inScope c::k=>by simp only [List.map_cons,cItem,Go.exitTo,exitTo];exact exitTo_c id k
 | .beginRound::k=>by simp only [List.map_cons,cItem,Go.exitTo,exitTo];exact exitTo_c id k
theorem gotoIn_c(l:Nat):∀k:List AItem,Go.gotoIn l (k.map cItem)=(gotoIn l k).map (List.map cItem)
 | []=>rfl
 | .inScope c::k=>by
  simp only [List.map_cons,cItem,Go.gotoIn,gotoIn]
  cases h:findLabel c l with
  | none=>simpa using gotoIn_c l k
  | some rest=>simp [cItem]
 | .code c::k=>by simp only [List.map_cons,cItem,Go.gotoIn,gotoIn];exact gotoIn_c l k
 | .inLoop c::k=>by simp only [List.map_cons,cItem,Go.gotoIn,gotoIn];exact gotoIn_c l k
 | .inBlock c::k=>by simp only [List.map_cons,cItem,Go.gotoIn,gotoIn];exact gotoIn_c l k
 | .beginRound::k=>by simp only [List.map_cons,cItem,Go.gotoIn,gotoIn];exact gotoIn_c l k
section
variable {P:Program} {b:Frame} {T:Array Value} {ds:List Deferred} {k:List Item} {cs:List Frame} {w w':World}
theorem step_on_skip:step P (lone (on b T ds (.code .skip::k)) cs w)= .next (lone (on b T ds k) cs w):=step_lone_go (by simp [stepG,stepG.exec,on])
theorem step_on_label{l:Nat}:step P (lone (on b T ds (.code (.label l)::k)) cs w)= .next (lone (on b T ds k) cs w):=step_lone_go (by simp [stepG,stepG.exec,on])
theorem step_on_inBlock{l:Nat}:step P (lone (on b T ds (.inBlock l::k)) cs w)= .next (lone (on b T ds k) cs w):=step_lone_go (by simp [stepG,stepG.exec,on])
theorem step_on_inScope{c:Code}:step P (lone (on b T ds (.inScope c::k)) cs w)= .next (lone (on b T ds k) cs w):=step_lone_go (by simp [stepG,stepG.exec,on])
theorem step_on_inLoop{c:Code}:step P (lone (on b T ds (.inLoop c::k)) cs w)= .next (lone (on b T ds (.code c:: .inLoop c::k)) cs w):=step_lone_go (by simp [stepG,stepG.exec,on])
theorem step_on_seq{x y:Code}:step P (lone (on b T ds (.code (.seq x y)::k)) cs w)= .next (lone (on b T ds (.code x:: .code y::k)) cs w):=step_lone_go (by simp [stepG,stepG.exec,on])
theorem step_on_block{id:Nat}{x:Code}:step P (lone (on b T ds (.code (.block id x)::k)) cs w)= .next (lone (on b T ds (.code x:: .inBlock id::k)) cs w):=step_lone_go (by simp [stepG,stepG.exec,on])
theorem step_on_loop{x:Code}:step P (lone (on b T ds (.code (.loop x)::k)) cs w)= .next (lone (on b T ds (.code x:: .inLoop x::k)) cs w):=step_lone_go (by simp [stepG,stepG.exec,on])
theorem step_on_scope{x:Code}:step P (lone (on b T ds (.code (.scope x)::k)) cs w)= .next (lone (on b T ds (.code x:: .inScope x::k)) cs w):=step_lone_go (by simp [stepG,stepG.exec,on])
theorem step_on_cond{c:Operand}{x y:Code}{t:Bool}(h:evT T c= .bool t):
  step P (lone (on b T ds (.code (.cond c x y)::k)) cs w)= .next (lone (on b T ds (.code (if t then x else y)::k)) cs w):=step_lone_go (by
 have:=congrFun (on_eval b T ds (.code (.cond c x y)::k)) c
 simp only [on] at this
 simp [stepG,stepG.exec,on,this,h])
theorem step_on_exit{id:Nat}{k':List Item}(h:Go.exitTo id k=some k'):step P (lone (on b T ds (.code (.exit id)::k)) cs w)= .next (lone (on b T ds k') cs w):=
 step_lone_go (by simp [stepG,stepG.exec,on,h])
theorem step_on_goto{id:Nat}{k':List Item}(h:Go.gotoIn id k=some k'):step P (lone (on b T ds (.code (.goto id)::k)) cs w)= .next (lone (on b T ds k') cs w):=
 step_lone_go (by simp [stepG,stepG.exec,on,h])
def unwinding(b:Frame)(T:Array Value)(ds:List Deferred)(todo:List Item)(mode:FrameMode):Frame:= {on b T ds todo with mode:=mode}
theorem step_on_nil(hr:b.roundOf=none):step P (lone (on b T ds []) cs w)= .next (lone (unwinding b T ds [] .returning) cs w):=
 step_lone_go (by simp [stepG,stepG.exec,on,hr,unwinding])
theorem step_on_ret(hr:b.roundOf=none):step P (lone (on b T ds (.code .ret::k)) cs w)= .next (lone (unwinding b T ds (.code .ret::k) .returning) cs w):=
 step_lone_go (by simp [stepG,stepG.exec,on,hr,unwinding])
theorem step_round_nil{l:Nat}{c:Frame}{v:Value}(hr:b.roundOf=some l)(hk:b.kind= .normal)(h:(Instr.endRound l none).run P w= .ok v w'):
  step P (lone (on b T ds []) (c::cs) w)= .next (lone (c.finish v) cs w'):=
 step_lone_go (by simp [stepG,stepG.exec,on,hr,h,doReturn,hk])
theorem step_round_ret{l:Nat}{c:Frame}{v:Value}(hr:b.roundOf=some l)(hk:b.kind= .normal)(h:(Instr.endRound l (some .ret)).run P w= .ok v w'):
  step P (lone (on b T ds (.code .ret::k)) (c::cs) w)= .next (lone (c.finish v) cs w'):=
 step_lone_go (by simp [stepG,stepG.exec,on,hr,h,doReturn,hk])
theorem step_round_exit{l id:Nat}{c:Frame}{v:Value}(hr:b.roundOf=some l)(hk:b.kind= .normal)(he:Go.exitTo id k=none)(h:(Instr.endRound l (some (.exit id))).run P w= .ok v w'):
  step P (lone (on b T ds (.code (.exit id)::k)) (c::cs) w)= .next (lone (c.finish v) cs w'):=
 step_lone_go (by simp [stepG,stepG.exec,on,hr,he,h,doReturn,hk])
theorem step_round_goto{l id:Nat}{c:Frame}{v:Value}(hr:b.roundOf=some l)(hk:b.kind= .normal)(he:Go.gotoIn id k=none)(h:(Instr.endRound l (some (.goto id))).run P w= .ok v w'):
  step P (lone (on b T ds (.code (.goto id)::k)) (c::cs) w)= .next (lone (c.finish v) cs w'):=
 step_lone_go (by simp [stepG,stepG.exec,on,hr,he,h,doReturn,hk])
theorem step_round_panic{c:Frame}{todo:List Item}{chain:List PanicEntry}{fn:Func}(hf:P.funcs[b.fn]? =some fn):
  step P (lone (unwinding b T [] todo (.panicking chain)) (c::cs) w)= .next (lone (c.raise chain) cs w):=
 step_lone_go (by simp [stepG,unwind,unwinding,on,Frame.catches,hf])
theorem step_begin{l:Nat}(hr:b.roundOf=some l)(h:(Instr.beginRound l).run P w= .ok () w'):
  step P (lone (on b T ds (.beginRound::k)) cs w)= .next (lone (on b T ds k) cs w'):=
 step_lone_go (by simp [stepG,stepG.exec,stepG.apply,on,hr,h,Frame.finish])
theorem step_endLoop{l:Nat}{j:Option Code}(h:(Instr.endLoop l).run P w= .ok j w'):
  step P (lone (on b T ds (.endRangeFunc l::k)) cs w)= .next (lone (on b T ds ((j.map Item.code).toList++k)) cs w'):=
 step_lone_go (by simp [stepG,stepG.exec,on,h])
theorem step_collect{r:Nat}{args:Array Value}{todo:List Item}{mode:FrameMode}{calls:List Deferred}(hm:mode≠ .run)(h:(Instr.takeDeferred r).run P w= .ok calls w'):
  step P (lone (unwinding b T ({target:= .collected r,args}::ds) todo mode) cs w)= .next (lone (unwinding b T (calls++ds) todo mode) cs w'):=
 step_lone_go (by
  cases mode with
  | run=>exact (hm rfl).elim
  | returning=>simp [stepG,unwind,unwinding,on,h]
  | panicking c=>simp [stepG,unwind,unwinding,on,h])
theorem step_deferred{fn:Fn}{cap args:Array Value}{todo:List Item}{mode:FrameMode}{f:FuncId}{as:Array Value}(hm:mode≠ .run)
  (h:(invoke (.fn fn cap) args).run P w= .ok (.enter f as) w):
  step P (lone (unwinding b T ({target:= .fn fn cap,args}::ds) todo mode) cs w)= .next (lone (Frame.enter P f as .deferred) (unwinding b T ds todo mode::cs) w):=
 step_lone_go (by
  cases mode with
  | run=>exact (hm rfl).elim
  | returning=>simp [stepG,unwind,unwinding,on,h,callDeferred]
  | panicking c=>simp [stepG,unwind,unwinding,on,h,callDeferred])
theorem step_range_func{f:Operand}{params:Array Tmp}{assign body:Code}{l:Nat}{mark:List Deferred}{g:FuncId}{as:Array Value}
  (h:(Instr.enterLoop b.fn T params assign body b.roundOf).run P w= .ok (l,mark) w')
  (hi:(do let d ← Deferred.ofValue (evT T f) #[.func (.yield l) #[] #[]];invoke d.target d.args:Sem Next).run P w'= .ok (.enter g as) w'):
  step P (lone (on b T ds (.code (.rangeFunc f params assign body)::k)) cs w)=
   .next (lone (Frame.enter P g as .normal) (on b T (mark++ds) (.inRangeFunc l::k)::cs) w'):=by
 refine step_lone_go ?_
 have he:({b with tmps:=T,defers:=mark++ds,todo:= .inRangeFunc l::k,mode:= .run}:Frame).eval=evT T:=on_eval b T _ _
 have hi':(do let d ← resolve (evT T) {callee:= .value f,args:= #[.const (.func (.yield l) #[] #[])],argTypes:= #[]} 0;invoke d.target d.args:Sem Next).run P w'= .ok (.enter g as) w':=by
  simpa [resolve,evT] using hi
 simp [stepG,stepG.exec,on,h,stepG.apply,he,hi']
theorem step_range_round{f:Operand}{params:Array Tmp}{assign body:Code}{l l':Nat}{mark:List Deferred}{g:FuncId}{tmps:Array Value}{as bd:Code}
  (h:(Instr.enterLoop b.fn T params assign body b.roundOf).run P w= .ok (l,mark) w')
  (hi:(do let d ← Deferred.ofValue (evT T f) #[.func (.yield l) #[] #[]];invoke d.target d.args:Sem Next).run P w'= .ok (.round l' g tmps as bd) w'):
  step P (lone (on b T ds (.code (.rangeFunc f params assign body)::k)) cs w)=
   .next (lone (Frame.round l' g tmps as bd .normal) (on b T (mark++ds) (.inRangeFunc l::k)::cs) w'):=by
 refine step_lone_go ?_
 have he:({b with tmps:=T,defers:=mark++ds,todo:= .inRangeFunc l::k,mode:= .run}:Frame).eval=evT T:=on_eval b T _ _
 have hi':(do let d ← resolve (evT T) {callee:= .value f,args:= #[.const (.func (.yield l) #[] #[])],argTypes:= #[]} 0;invoke d.target d.args:Sem Next).run P w'= .ok (.round l' g tmps as bd) w':=by
  simpa [resolve,evT] using hi
 simp [stepG,stepG.exec,on,h,stepG.apply,he,hi']
end
def backTo(c:Frame):Frame:=
 match c.mode with
 | .panicking ({recovered:=true,..}::older)=>
  match older.dropWhile (!·.goexit) with
  | []=> {c with mode:= .returning}
  | rest=> {c with mode:= .panicking rest}
 | _=>c
theorem step_back{P:Program}{fr c:Frame}{cs:List Frame}{w:World}{v:Value}{fn:Func}(hm:fr.mode= .returning)(hd:fr.defers=[])(hk:fr.kind= .deferred)
  (hf:P.funcs[fr.fn]? =some fn) (hr:(results fn fr.tmps).run P w= .ok v w):step P (lone fr (c::cs) w)= .next (lone (backTo c) cs w):=
 step_lone_go (by
  have key:∀c:Frame,(match c.mode with
    | .panicking ({recovered:=true,..}::older)=>
     match older.dropWhile (!·.goexit) with
     | []=> {c with mode:= .returning}
     | rest=> {c with mode:= .panicking rest}
    | _=>c)=backTo c:=fun c=>rfl
  simp [stepG,unwind,doReturn,hm,hd,hk,hf,hr]
  unfold backTo
  cases hc:c.mode with
  | run=>rfl
  | returning=>rfl
  | panicking chain=>
   cases chain with
   | nil=>rfl
   | cons e older=>
    obtain ⟨v,r,g⟩:=e
    cases r with
    | false=>rfl
    | true=>cases hh:List.dropWhile (fun x:PanicEntry=> !x.goexit) older<;>simp [hh])
theorem step_raise{P:Program}{fr c:Frame}{cs:List Frame}{w:World}{chain:List PanicEntry}{fn:Func}(hm:fr.mode= .panicking chain)(hd:fr.defers=[])
  (hf:P.funcs[fr.fn]? =some fn):step P (lone fr (c::cs) w)= .next (lone (c.raise chain) cs w):=
 step_lone_go (by simp [stepG,unwind,Frame.catches,hm,hd,hf])
end Go.Dt
namespace Go.Dt
section
variable {D:Tab} {P:Program}
def modeOf(ι:Nat→Loc):Option AV→FrameMode
 | none=> .returning
 | some v=> .panicking [{v:=conc ι v,recovered:=false}]
def Gone(P:Program)(X:Ctx)(b:Frame)(ι:Nat→Loc)(pan:Pan)(w:World)(e:AEnd)(m:Machine):Prop:=
 match b.roundOf with
 | none=>∃fr,Steps P m (lone fr (X.cs ι pan) w)∧fr.fn=b.fn∧fr.defers=[]∧fr.kind=b.kind∧∃fn,P.funcs[b.fn]? =some fn∧
   match e with
   | .ret v=>fr.mode= .returning∧(results fn fr.tmps).run P w= .ok (conc ι v) w
   | .panic v=>fr.mode= .panicking [{v:=conc ι v,recovered:=false}]
 | some _=>∀c cs,X.cs ι pan=c::cs→Steps P m (lone (after c (concEnd ι e)) cs w)
theorem Gone.of_steps{X:Ctx}{b:Frame}{ι:Nat→Loc}{pan:Pan}{w:World}{e:AEnd}{m m':Machine}(h:Steps P m m')(g:Gone P X b ι pan w e m'):Gone P X b ι pan w e m:=by
 unfold Gone at*
 split
 ·rename_i hr
  simp only [hr] at g
  obtain ⟨fr,hs,r⟩:=g
  exact ⟨fr,Steps.trans h hs,r⟩
 ·rename_i hr
  simp only [hr] at g
  exact fun c cs hc=>Steps.trans h (g c cs hc)
structure Base(P:Program)(X:Ctx)(b:Frame)(fr:AFr)(ι:Nat→Loc)(σ:St):Prop where
 kind:b.kind=X.kind
 fn:b.fn=fr.fn
 round:b.roundOf=fr.round.map fun l=>(ι l).block
 rnd:∀l,fr.round=some l→l<σ.n∧∃cs,X= .norm cs
 has:∃fn,P.funcs[b.fn]? =some fn
theorem Base.ext{X:Ctx}{b:Frame}{fr fr':AFr}{ι ι':Nat→Loc}{σ σ':St}{w w':World}(B:Base P X b fr ι σ)(E:Ext ι σ w ι' σ' w')(hf:fr'.fn=fr.fn)(hr:fr'.round=fr.round):
  Base P X b fr' ι' σ' where
 kind:=B.kind
 fn:=B.fn.trans hf.symm
 round:=by
  rw [B.round,hr]
  cases h:fr.round with
  | none=>rfl
  | some l=>simp [E.agree l (B.rnd l h).1]
 rnd:=fun l h=>by rw [hr] at h;exact ⟨Nat.lt_of_lt_of_le (B.rnd l h).1 E.n,(B.rnd l h).2⟩
 has:=B.has
def Out(D:Tab)(P:Program)(X:Ctx)(b:Frame)(ι:Nat→Loc)(σ:St)(w:World)(e:AEnd)(pan':Pan)(σ':St)(m:Machine):Prop:=
 ∃ι' w',Rep D ι' σ' w'∧Ext ι σ w ι' σ' w'∧idsEnd ι' (· <σ'.n) e∧idsPan ι' (· <σ'.n) pan'∧X.fits pan'∧Gone P X b ι' pan' w' e m
theorem Out.of_steps{X:Ctx}{b:Frame}{ι ι1:Nat→Loc}{σ σ1 σ':St}{w w1:World}{e:AEnd}{pan':Pan}{m m1:Machine}(h:Steps P m m1)(E:Ext ι σ w ι1 σ1 w1)
  (o:Out D P X b ι1 σ1 w1 e pan' σ' m1):Out D P X b ι σ w e pan' σ' m:=by
 obtain ⟨ι',w',h1,h2,h3,h4,h5,h6⟩:=o
 exact ⟨ι',w',h1,E.trans h2,h3,h4,h5,h6.of_steps h⟩
def RunOK(D:Tab)(P:Program)(run:AFr→Pan→St→R (AEnd×Pan×St)):Prop:=
 ∀fr pan σ e pan' σ',run fr pan σ= .ok (e,pan',σ')→∀X b ι w,Base P X b fr ι σ→Rep D ι σ w→IdsF ι (· <σ.n) X fr.T fr.defers pan→
  Out D P X b ι σ w e pan' σ' (mach X b ι fr.T fr.defers pan (fr.todo.map cItem) w)
def FinOK(D:Tab)(P:Program)(finish:FuncId→List AV→List ADef→Option AV→Pan→St→R (AEnd×Pan×St)):Prop:=
 ∀f T ds mode pan σ e pan' σ',finish f T ds mode pan σ= .ok (e,pan',σ')→∀X b ι w todo,b.kind=X.kind→b.fn=f→b.roundOf=none→(∃fn,P.funcs[b.fn]? =some fn)→
  Rep D ι σ w→IdsF ι (· <σ.n) X T ds pan→(∀v,mode=some v→ids ι (· <σ.n) v)→
  Out D P X b ι σ w e pan' σ' (lone (unwinding b (concL ι T).toArray (ds.map (concDef ι)) todo (modeOf ι mode)) (X.cs ι pan) w)
def EndOK(D:Tab)(P:Program)(endLoop:AFr→Nat→AEnd→Pan→St→R (AEnd×Pan×St)):Prop:=
 ∀fr l en pan σ e pan' σ',endLoop fr l en pan σ= .ok (e,pan',σ')→∀X b ι w,Base P X b fr ι σ→Rep D ι σ w→IdsF ι (· <σ.n) X fr.T fr.defers pan→l<σ.n→
  idsEnd ι (· <σ.n) en→
  Out D P X b ι σ w e pan' σ' (lone (after (on b (concL ι fr.T).toArray (fr.defers.map (concDef ι)) (.inRangeFunc (ι l).block::fr.todo.map cItem)) (concEnd ι en)) (X.cs ι pan) w)
structure FnsOK(D:Tab)(P:Program)(F:Fns):Prop where
 run:RunOK D P F.run
 finish:FinOK D P F.finish
 endLoop:EndOK D P F.endLoop
 call:CallOK D P F.call
 round:RoundOK D P F.round
section loops
variable {ι:Nat→Loc} {σ:St} {w:World}
theorem getLoop_ok{l:Nat}{r:ALoop}(h:getLoop σ l= .ok r):l<σ.n∧σ.getO l= .loop r:=by
 unfold getLoop at h
 split at h
 ·rename_i hl
  split at h
  ·rename_i r' he
   simp at h
   subst h
   exact ⟨hl,he⟩
  ·simp at h
 ·simp at h
theorem loop_heap(R:Rep D ι σ w){l:Nat}{r:ALoop}(h:getLoop σ l= .ok r):
  w.heap[(ι l).block]? =some (.loop (concLoop ι r))∧(ι l).shift=0∧idsL ι (· <σ.n) r.T∧r.defers<σ.n:=by
 obtain ⟨h1,h2⟩:=getLoop_ok h
 have:=R.obj l h1
 rw [h2] at this
 exact ⟨this.2.1,this.1,this.2.2.1,this.2.2.2⟩
theorem run_instrGet(R:Rep D ι σ w){l:Nat}{r:ALoop}(h:getLoop σ l= .ok r):(Instr.getLoop (ι l).block).run P w= .ok (concLoop ι r) w:=by
 have:=run_getObj P w (ι l).block _ (loop_heap R h).1 (by simp)
 simp only [Instr.getLoop,Sem.run_bind,this,Result.andThen_ok,Sem.run_pure]
theorem loop_set(R:Rep D ι σ w){l:Nat}{r:ALoop}(h:getLoop σ l= .ok r)(r':ALoop)(hT:r'.T=r.T)(hd:r'.defers=r.defers):
  ∃w',(setObj (ι l).block (.loop (concLoop ι r'))).run P w= .ok () w'∧Rep D ι (σ.set l (.loop r')) w'∧Ext ι σ w ι (σ.set l (.loop r')) w':=by
 obtain ⟨h1,h2⟩:=getLoop_ok h
 obtain ⟨hh,hs,hi,hdn⟩:=loop_heap R h
 have hlt:(ι l).block<w.heap.size:=(Array.getElem?_eq_some_iff.1 hh).1
 have ho:=only_setIf w (ι l).block (.loop (concLoop ι r'))
 have hset:=R.set (o:= .loop r') h1 (by rw [h2];rfl) ho.size ho.other ho.os ⟨hs,heap_setIf w _ _ hlt,hT ▸ hi,hd ▸ hdn⟩
 exact ⟨_,run_setObj P w _ _ _ hh (by simp),hset.1,hset.2⟩
theorem run_endRound(R:Rep D ι σ w){l:Nat}{r:ALoop}(h:getLoop σ l= .ok r)(jump:Option Code):
  ∃w',(Instr.endRound (ι l).block jump).run P w= .ok (.bool jump.isNone) w'∧
   Rep D ι (σ.set l (.loop {r with state:=if jump.isNone then .ready else .done,pending:=jump})) w'∧
   Ext ι σ w ι (σ.set l (.loop {r with state:=if jump.isNone then .ready else .done,pending:=jump})) w':=by
 obtain ⟨w',h1,h2,h3⟩:=loop_set (P:=P) R h {r with state:=if jump.isNone then .ready else .done,pending:=jump} rfl rfl
 refine ⟨w',?_,h2,h3⟩
 simp only [Instr.endRound,Sem.run_bind,run_instrGet R h,Result.andThen_ok,Sem.run_pure]
 simp only [concLoop] at h1 ⊢
 rw [h1]
 rfl
theorem run_beginRound(R:Rep D ι σ w){l:Nat}{r:ALoop}(h:getLoop σ l= .ok r)(hs:r.state= .ready):
  ∃w',(Instr.beginRound (ι l).block).run P w= .ok () w'∧Rep D ι (σ.set l (.loop {r with state:= .busy})) w'∧Ext ι σ w ι (σ.set l (.loop {r with state:= .busy})) w':=by
 obtain ⟨w',h1,h2,h3⟩:=loop_set (P:=P) R h {r with state:= .busy} rfl rfl
 refine ⟨w',?_,h2,h3⟩
 simp only [Instr.beginRound,Sem.run_bind,run_instrGet R h,Result.andThen_ok]
 simp only [concLoop] at h1 ⊢
 rw [h1]
 simp [hs]
theorem run_endLoop(R:Rep D ι σ w){l:Nat}{r:ALoop}(h:getLoop σ l= .ok r)(hs:r.state≠ .busy):
  ∃w',(Instr.endLoop (ι l).block).run P w= .ok r.pending w'∧Rep D ι (σ.set l (.loop {r with state:= .exhausted})) w'∧Ext ι σ w ι (σ.set l (.loop {r with state:= .exhausted})) w':=by
 obtain ⟨w',h1,h2,h3⟩:=loop_set (P:=P) R h {r with state:= .exhausted} rfl rfl
 refine ⟨w',?_,h2,h3⟩
 simp only [Instr.endLoop,Sem.run_bind,run_instrGet R h,Result.andThen_ok]
 have:((concLoop ι r).state==LoopState.busy)=false:=by simpa [concLoop] using hs
 simp only [concLoop] at h1 this ⊢
 simp [this,h1]
theorem set_n(l:Nat)(o:AO):(σ.set l o).n=σ.n:=rfl
end loops
theorem leave_round{X:Ctx}{b:Frame}{fr:AFr}{ι:Nat→Loc}{σ σ':St}{w:World}{pan pan':Pan}{e:AEnd}{l:Nat}{jump:Option Code}{F:Fns}{m:Machine}
  (hl:fr.round=some l) (B:Base P X b fr ι σ) (Rp:Rep D ι σ w) (I:IdsF ι (· <σ.n) X fr.T fr.defers pan) (h:leaveF F fr jump pan σ= .ok (e,pan',σ'))
  (st:∀(c:Frame) (cs:List Frame) (v:Value) (w':World),X.cs ι pan=c::cs→(Instr.endRound (ι l).block jump).run P w= .ok v w'→Steps P m (lone (c.finish v) cs w')):
  Out D P X b ι σ w e pan' σ' m:=by
 simp only [leaveF,hl] at h
 split at h
 ·simp only [bind_ok,pure_ok,Prod.mk.injEq] at h
  obtain ⟨r,hr,rfl,rfl,rfl⟩:=h
  obtain ⟨w',h1,h2,h3⟩:=run_endRound (P:=P) Rp hr jump
  refine ⟨ι,w',h2,h3,trivial,I.pan,I.fit,?_⟩
  unfold Gone
  have hb:b.roundOf=some (ι l).block:=by rw [B.round,hl];rfl
  simp only [hb]
  intro c cs hc
  simpa [concEnd,after,boolV,conc] using st c cs _ _ hc h1
 ·simp at h
theorem panic_ok{F:Fns}(HF:FnsOK D P F){X:Ctx}{b:Frame}{fr:AFr}{ι:Nat→Loc}{σ σ':St}{w:World}{pan pan':Pan}{e:AEnd}{v:AV}{todo:List Item}
  (B:Base P X b fr ι σ) (Rp:Rep D ι σ w) (I:IdsF ι (· <σ.n) X fr.T fr.defers pan) (hv:ids ι (· <σ.n) v) (h:panicF F fr v pan σ= .ok (e,pan',σ')):
  Out D P X b ι σ w e pan' σ' (machP X b ι fr.T fr.defers pan todo v w):=by
 unfold panicF at h
 split at h
 ·rename_i hr
  have hb:b.roundOf=none:=by rw [B.round,hr];rfl
  exact HF.finish _ _ _ _ _ _ _ _ _ h X b ι w todo B.kind B.fn hb B.has Rp I (by intro v' hv';cases hv';exact hv)
 ·rename_i l hr
  split at h
  ·rename_i hds
   simp at h
   obtain ⟨rfl,rfl,rfl⟩:=h
   have hb:b.roundOf=some (ι l).block:=by rw [B.round,hr];rfl
   refine ⟨ι,w,Rp,Ext.refl _ _ _,hv,I.pan,I.fit,?_⟩
   unfold Gone
   simp only [hb]
   intro c cs hc
   obtain ⟨fn,hfn⟩:=B.has
   have hds':fr.defers=[]:=by simpa using hds
   have:=step_round_panic (P:=P) (b:=b) (T:=(concL ι fr.T).toArray) (c:=c) (cs:=cs) (w:=w) (todo:=todo) (chain:=[{v:=conc ι v,recovered:=false}]) hfn
   unfold machP
   rw [hc,hds']
   exact .one this
  ·simp at h
theorem endLoop_ok{F:Fns}(HF:FnsOK D P F):EndOK D P (endLoopF F):=by
 intro fr l en pan σ e pan' σ' h X b ι w B Rp I hl hen
 unfold endLoopF at h
 split at h
 ·rename_i v
  simp only [bind_ok] at h
  obtain ⟨r,hr,h⟩:=h
  split at h
  ·simp at h
  ·rename_i hs
   obtain ⟨w1,h1,h2,h3⟩:=run_endLoop (P:=P) Rp hr hs
   have hst:Steps P (lone (after (on b (concL ι fr.T).toArray (fr.defers.map (concDef ι)) (.inRangeFunc (ι l).block::fr.todo.map cItem)) (concEnd ι (.ret v))) (X.cs ι pan) w)
     (lone (on b (concL ι fr.T).toArray (fr.defers.map (concDef ι)) ((r.pending.map Item.code).toList++fr.todo.map cItem)) (X.cs ι pan) w1):= .one (step_endLoop h1)
   refine Out.of_steps hst h3 ?_
   have I':IdsF ι (· <(σ.set l (.loop {r with state:= .exhausted})).n) X fr.T fr.defers pan:=I
   split at h
   ·rename_i hp
    have hp':(r.pending.map Item.code).toList=[]:=by rw [hp];rfl
    rw [hp']
    exact HF.run _ _ _ _ _ _ h X b ι w1 (B.ext h3 rfl rfl) h2 I'
   ·rename_i c hp
    have hp':(r.pending.map Item.code).toList=[.code c]:=by rw [hp];rfl
    rw [hp']
    exact HF.run _ _ _ _ _ _ h X b ι w1 (B.ext h3 rfl rfl) h2 I'
 ·rename_i v
  exact panic_ok HF B Rp I hen h
def resM(T:Array Value):ResultVar→Sem Value
 | .tmp t=>pure (T.getD t undef)
 | .cell a t=>do loadVar t (← asAddr (T.getD a undef))
theorem resultV_ok(F:Fits D P){ι:Nat→Loc}{σ:St}{w:World}(Rp:Rep D ι σ w){T:List AV}(hT:idsL ι (· <σ.n) T):∀(l:List ResultVar) (vs:List AV),resultV D σ T l= .ok vs→
  (l.mapM (resM (concL ι T).toArray)).run P w= .ok (concL ι vs) w∧idsL ι (· <σ.n) vs:=by
 intro l
 induction l with
 | nil=>intro vs h;simp [resultV] at h;subst h;simp [concL,idsL]
 | cons x l ih=>
  intro vs h
  cases x with
  | tmp t=>
   simp only [resultV,bind_ok,pure_ok] at h
   obtain ⟨r,h1,rfl⟩:=h
   obtain ⟨h2,h3⟩:=ih r h1
   refine ⟨?_,?_,h3⟩
   ·simp only [List.mapM_cons,Sem.run_bind,Sem.run_pure,Result.andThen_ok,h2,resM,getD_conc,concL]
   ·have:=evalO_ids (D:=D) Rp Rp.glob_lt hT (.tmp t)
    simpa [evalO] using this
  | cell a t=>
   simp only [resultV,bind_ok,pure_ok] at h
   obtain ⟨v,hv,r,h1,rfl⟩:=h
   obtain ⟨h2,h3⟩:=ih r h1
   obtain ⟨h4,h5⟩:=run_loadV F Rp hv
   refine ⟨?_,h5,h3⟩
   have hp:∃b o,T.getD a .undef= .ptr b o:=by
    unfold loadV at hv
    split at hv
    ·rename_i b o hb
     exact ⟨b,o,hb⟩
    ·simp at hv
   obtain ⟨b,o,hp⟩:=hp
   rw [hp] at h4
   simp only [Instr.loadAt,conc,Instr.sureAddr,Sem.run_bind,Sem.run_pure,Result.andThen_ok] at h4
   simp only [List.mapM_cons,Sem.run_bind,Sem.run_pure,Result.andThen_ok,resM,getD_conc,hp,conc,asAddr,h4,h2,concL]
theorem results_ok(F:Fits D P){ι:Nat→Loc}{σ:St}{w:World}(Rp:Rep D ι σ w){T:List AV}(hT:idsL ι (· <σ.n) T){f:FuncId}{v:AV}(h:resultsV D σ f T= .ok v):
  ∃fn,P.funcs[f]? =some fn∧(results fn (concL ι T).toArray).run P w= .ok (conc ι v) w∧ids ι (· <σ.n) v:=by
 unfold resultsV at h
 split at h
 ·rename_i fn hfn
  simp only [bind_ok] at h
  obtain ⟨vs,hvs,h⟩:=h
  obtain ⟨h1,h2⟩:=resultV_ok F Rp hT _ _ hvs
  refine ⟨fn,F.func _ _ hfn,?_,?_⟩
  ·have hm:results fn (concL ι T).toArray=(do let vs ← fn.results.mapM (resM (concL ι T).toArray);pure (if h:vs.size=1 then vs[0] else .tuple vs):Sem Value):=by
    unfold results
    congr
   rw [hm,Array.mapM_eq_mapM_toList]
   simp only [Sem.run_bind,Sem.run_map,h1,Result.andThen_ok]
   split at h
   ·rename_i x
    simp at h;subst h
    simp [concL]
   ·rename_i hne
    simp at h;subst h
    have:vs.length≠1:=by
     intro e
     obtain ⟨x,hx⟩:=List.length_eq_one_iff.1 e
     exact hne x hx
    simp [this,conc]
  ·split at h
   ·rename_i x
    simp at h;subst h
    exact h2.1
   ·simp at h;subst h
    exact h2
 ·simp at h
end
end Go.Dt
namespace Go.Dt
section
variable {D:Tab} {P:Program}
theorem replUndef_conc(ι:Nat→Loc):∀n,concL ι (replUndef n)=List.replicate n undef
 | 0=>rfl
 | n+1=>by simp [replUndef,concL,replUndef_conc ι n,List.replicate_succ]
theorem replUndef_ids(ι:Nat→Loc)(A:Nat→Prop):∀n,idsL ι A (replUndef n)
 | 0=>trivial
 | n+1=>⟨ids_undef _ _,replUndef_ids ι A n⟩
theorem enter_ok(F:Fits D P){f:FuncId}{args:List AV}{fr:AFr}(h:enterFr D f args= .ok fr)(ι:Nat→Loc)(A:Nat→Prop)(hargs:idsL ι A args)(kind:CallKind):
  fr.fn=f∧fr.round=none∧fr.defers=[]∧idsL ι A fr.T∧(∃fn,P.funcs[f]? =some fn)∧
   Frame.enter P f (concL ι args).toArray kind=on (Frame.enter P f (concL ι args).toArray kind) (concL ι fr.T).toArray [] (fr.todo.map cItem):=by
 unfold enterFr at h
 split at h
 ·rename_i fn hfn
  split at h
  ·rename_i c hc
   simp at h
   subst h
   have hf:=F.func _ _ hfn
   refine ⟨rfl,rfl,rfl,idsL_append.2 ⟨hargs,replUndef_ids _ _ _⟩,⟨fn,hf⟩,?_⟩
   simp only [Frame.enter,on,hf,Option.map_some,Option.getD_some,Option.bind_some,hc,List.map_cons,List.map_nil,cItem,concL_append,replUndef_conc]
   simp
  ·simp at h
 ·simp at h
theorem modeOf_pan(ι:Nat→Loc)(mode:Option AV):panMode ι (mode.map fun v=>(v,false))=modeOf ι mode:=by
 cases mode<;>rfl
theorem modeOf_ne(ι:Nat→Loc)(mode:Option AV):modeOf ι mode≠ .run:=by cases mode<;>simp [modeOf]
theorem finish_ok(Ft:Fits D P){F:Fns}(HF:FnsOK D P F):FinOK D P (finishF D F):=by
 intro f T ds mode pan σ e pan' σ' h X b ι w todo hk hfn hrd hhas Rp I hmode
 unfold finishF at h
 split at h
 ·
  split at h
  ·simp only [bind_ok,pure_ok,Prod.mk.injEq] at h
   obtain ⟨v,hv,rfl,rfl,rfl⟩:=h
   obtain ⟨fn,hf,hres,hid⟩:=results_ok Ft Rp I.T hv
   refine ⟨ι,w,Rp,Ext.refl _ _ _,hid,I.pan,I.fit,?_⟩
   unfold Gone
   simp only [hrd]
   refine ⟨_,Steps.refl _ _,rfl,rfl,rfl,fn,by rw [hfn];exact hf,rfl,hres⟩
  ·rename_i v
   simp at h
   obtain ⟨rfl,rfl,rfl⟩:=h
   obtain ⟨fn,hf⟩:=hhas
   refine ⟨ι,w,Rp,Ext.refl _ _ _,hmode v rfl,I.pan,I.fit,?_⟩
   unfold Gone
   simp only [hrd]
   exact ⟨_,Steps.refl _ _,rfl,rfl,rfl,fn,hf,rfl⟩
 ·
  rename_i r ds
  simp only [bind_ok] at h
  obtain ⟨o,ho,h⟩:=h
  obtain ⟨hr,heq⟩:=get_ok ho
  split at h
  ·rename_i calls
   have hrep:=Rp.obj r hr
   rw [heq] at hrep
   obtain ⟨hs,hheap,hcalls⟩:=hrep
   have hlt:(ι r).block<w.heap.size:=(Array.getElem?_eq_some_iff.1 hheap).1
   have hon:=only_setIf w (ι r).block (.deferred none)
   have hset:=Rp.set (o:= .deferred none) hr (by rw [heq];rfl) hon.size hon.other hon.os ⟨hs,heap_setIf w _ _ hlt,by simp⟩
   have htake:(Instr.takeDeferred (ι r).block).run P w= .ok (calls.map (concDef ι)) {w with heap:=w.heap.setIfInBounds (ι r).block (.deferred none)}:=by
    have h1:=run_getObj P w (ι r).block _ hheap (by simp)
    have h2:=run_setObj P w (ι r).block _ (.deferred none) hheap (by simp)
    simp only [Instr.takeDeferred,Sem.run_bind,h1,Result.andThen_ok,Option.map_some,h2,Sem.run_pure]
   have hst:=step_collect (P:=P) (b:=b) (T:=(concL ι T).toArray) (ds:=ds.map (concDef ι)) (cs:=X.cs ι pan) (args:= #[]) (todo:=todo) (modeOf_ne ι mode) htake
   refine Out.of_steps (.one hst) hset.2 ?_
   have:=HF.finish _ _ _ _ _ _ _ _ _ h X b ι _ todo hk hfn hrd hhas hset.1
    ⟨I.fit,I.T,fun d hd=>(List.mem_append.1 hd).elim (fun h1=>hcalls calls rfl d h1) (fun h1=>I.ds d (List.mem_cons_of_mem _ h1)),I.pan⟩ hmode
   simpa using this
  ·simp at h
 ·
  rename_i g cap args ds
  simp only [bind_ok] at h
  obtain ⟨nx,hnx,h⟩:=h
  have hd:=I.ds (.fn g cap args) (by simp)
  obtain ⟨f',as,rfl,hids,hinv⟩:=invokeT_ok Ft (ι:=ι) (A:=(· <σ.n)) w hnx hd.1 hd.2
  simp only [bind_ok] at h
  obtain ⟨fr,hfr,⟨e1,p1,σ1⟩,hrun,h⟩:=h
  obtain ⟨h1,h2,h3,h4,h5,h6⟩:=enter_ok Ft hfr ι (· <σ.n) hids .deferred
  have I0:idsDs ι (· <σ.n) ds:=fun d hd=>I.ds d (List.mem_cons_of_mem _ hd)
  let cfr:Frame:=unwinding b (concL ι T).toArray (ds.map (concDef ι)) todo (modeOf ι mode)
  let X':Ctx:= .dfr cfr (X.cs ι pan)
  have hcs:X'.cs ι (mode.map fun v=>(v,false))=cfr::X.cs ι pan:=by
   simp only [X',Ctx.cs,modeOf_pan]
   rfl
  have hst:=step_deferred (P:=P) (b:=b) (T:=(concL ι T).toArray) (ds:=ds.map (concDef ι)) (cs:=X.cs ι pan) (todo:=todo) (modeOf_ne ι mode) hinv
  have hO:=HF.run _ _ _ _ _ _ hrun X' (Frame.enter P f' (concL ι as).toArray .deferred) ι w
   ⟨rfl,h1.symm,by rw [h2];rfl,by rw [h2];simp,h5⟩ Rp
   ⟨trivial,h4,by rw [h3];intro d hd;simp at hd,by
    cases mode with
    | none=>trivial
    | some v=>exact hmode v rfl⟩
  obtain ⟨ι1,w1,R1,E1,hen,hp1,hfit1,hG⟩:=hO
  clear hfit1
  unfold Gone at hG
  have hr0:(Frame.enter P f' (concL ι as).toArray .deferred).roundOf=none:=rfl
  simp only [hr0] at hG
  obtain ⟨fr',hs',hfn',hdef',hkind',fn',hfn'',hend⟩:=hG
  have hmach:mach X' (Frame.enter P f' (concL ι as).toArray .deferred) ι fr.T fr.defers (mode.map fun v=>(v,false)) (fr.todo.map cItem) w=
    lone (Frame.enter P f' (concL ι as).toArray .deferred) (cfr::X.cs ι pan) w:=by
   unfold mach
   rw [hcs,h3,List.map_nil,← h6]
  rw [hmach] at hs'
  have hst2:Steps P (lone (unwinding b (concL ι T).toArray (List.map (concDef ι) (.fn g cap args::ds)) todo (modeOf ι mode)) (X.cs ι pan) w) (lone fr' (X'.cs ι1 p1) w1):=
   Steps.trans (.one hst) hs'
  have hcs1:X'.cs ι1 p1= {cfr with mode:=panMode ι1 p1}::X.cs ι pan:=rfl
  rw [hcs1] at hst2
  have hTc:concL ι1 T=concL ι T:=concL_agree E1.agree T I.T
  have hdc:ds.map (concDef ι1)=ds.map (concDef ι):=concDs_agree E1.agree I0
  have hpc:X.cs ι1 pan=X.cs ι pan:=X.agree E1.agree I.pan
  have hfn1:P.funcs[fr'.fn]? =some fn':=by rw [hfn'];exact hfn''
  have go:∀mode',(∀v,mode'=some v→ids ι1 (· <σ1.n) v)→F.finish f T ds mode' pan σ1= .ok (e,pan',σ')→
    Steps P (lone fr' ({cfr with mode:=panMode ι1 p1}::X.cs ι pan) w1) (lone {cfr with mode:=modeOf ι1 mode'} (X.cs ι pan) w1)→
    Out D P X b ι σ w e pan' σ' (lone (unwinding b (concL ι T).toArray (List.map (concDef ι) (.fn g cap args::ds)) todo (modeOf ι mode)) (X.cs ι pan) w):=by
   intro mode' hm' hfin hst3
   refine Out.of_steps (Steps.trans hst2 hst3) E1 ?_
   have:=HF.finish _ _ _ _ _ _ _ _ _ hfin X b ι1 w1 todo hk hfn hrd hhas R1 ⟨I.fit,idsL_mono E1.k T I.T,idsDs_mono E1.k I0,idsPan_mono E1.k pan I.pan⟩ hm'
   rw [hTc,hdc,hpc] at this
   exact this
  cases e1 with
  | ret v=>
   simp only at h hend
   have hback:=step_back (P:=P) (c:= {cfr with mode:=panMode ι1 p1}) (cs:=X.cs ι pan) hend.1 hdef' hkind' hfn1 hend.2
   split at h
   ·rename_i v'
    exact go (some v') (by intro x hx;cases hx;exact hp1) h (.one hback)
   ·rename_i hne
    refine go none (by simp) h (.one ?_)
    rw [hback]
    cases p1 with
    | none=>rfl
    | some p=>
     obtain ⟨v',r'⟩:=p
     cases r' with
     | false=>exact (hne v' rfl).elim
     | true=>rfl
  | panic v=>
   simp only at h hend
   split at h
   ·refine go (some v) (by intro x hx;cases hx;exact hen) h (.one ?_)
    have:=step_raise (P:=P) (c:= {cfr with mode:=panMode ι1 none}) (cs:=X.cs ι pan) hend hdef' hfn1 (w:=w1)
    rw [this]
    rfl
   ·simp at h
end
end Go.Dt
namespace Go.Dt
section
variable {D:Tab} {P:Program}
theorem goF_ok(Ft:Fits D P){F:Fns}(HF:FnsOK D P F){X:Ctx}{b:Frame}{fr:AFr}{k:List AItem}{ds:List ADef}{f:Operand}{params:Array Tmp}{assign body:Code}
  {ι ι1:Nat→Loc} {σ σ1 σ2 σ':St} {w w1:World} {pan pan':Pan} {e0 e:AEnd} {l:Nat} {nx:ANext} {mark:List Deferred}
  (B:Base P X b fr ι σ) (I:IdsF ι (· <σ.n) X fr.T fr.defers pan) (R1:Rep D ι1 σ1 w1) (E1:Ext ι σ w ι1 σ1 w1) (hl:l<σ1.n)
  (hds:idsDs ι1 (· <σ1.n) ds) (hmark:mark++fr.defers.map (concDef ι)=ds.map (concDef ι1))
  (henter:(Instr.enterLoop b.fn (concL ι fr.T).toArray params assign body b.roundOf).run P w= .ok ((ι1 l).block,mark) w1)
  (hnx:callV D (evalO D fr.T f) [.yield l]= .ok nx) (hgo:goF F nx σ1= .ok (e0,σ2))
  (hend:F.endLoop {fr with todo:=k,defers:=ds} l e0 pan σ2= .ok (e,pan',σ')):
  Out D P X b ι σ w e pan' σ' (mach X b ι fr.T fr.defers pan (.code (.rangeFunc f params assign body)::k.map cItem) w):=by
 have hTc:concL ι1 fr.T=concL ι fr.T:=concL_agree E1.agree fr.T I.T
 have hT1:idsL ι1 (· <σ1.n) fr.T:=idsL_mono E1.k fr.T I.T
 obtain ⟨hid,hcm,hkind⟩:=callV_ok Ft (ι:=ι1) (A:=(· <σ1.n)) (_type:=0) w1 hnx (evalO_ids R1 R1.glob_lt hT1 f) ⟨hl,trivial⟩
 have hargs:(concL ι1 [AV.yield l]).toArray= #[.func (.yield (ι1 l).block) #[] #[]]:=by simp [concL,conc]
 have hev:evT (concL ι fr.T).toArray f=conc ι1 (evalO D fr.T f):=by rw [← hTc];exact evalO_conc R1 fr.T f
 rw [hargs,← hev] at hcm
 have fin:∀ι2 w2,Rep D ι2 σ2 w2→Ext ι1 σ1 w1 ι2 σ2 w2→idsEnd ι2 (· <σ2.n) e0→
   Steps P (mach X b ι fr.T fr.defers pan (.code (.rangeFunc f params assign body)::k.map cItem) w)
    (lone (after (on b (concL ι fr.T).toArray (ds.map (concDef ι1)) (.inRangeFunc (ι1 l).block::k.map cItem)) (concEnd ι2 e0)) (X.cs ι pan) w2)→
   Out D P X b ι σ w e pan' σ' (mach X b ι fr.T fr.defers pan (.code (.rangeFunc f params assign body)::k.map cItem) w):=by
  intro ι2 w2 R2 E2 he hst
  have E:=E1.trans E2
  refine Out.of_steps hst E ?_
  have:=HF.endLoop _ _ _ _ _ _ _ _ hend X b ι2 w2 (B.ext E rfl rfl) R2 ⟨I.fit,idsL_mono E2.k fr.T hT1,idsDs_mono E2.k hds,idsPan_mono E.k pan I.pan⟩ (Nat.lt_of_lt_of_le hl E2.n) he
  rw [E2.agree l hl,X.agree E.agree I.pan] at this
  simp only at this
  rw [concL_agree E.agree fr.T I.T,concDs_agree E2.agree hds] at this
  exact this
 rcases hkind with ⟨g,as,rfl⟩ | ⟨l',as,rfl⟩
 ·obtain ⟨x,hx,hrun⟩:=hcm
  simp only [concNext,Option.some.injEq] at hx
  subst hx
  have hs1:=step_range_func (P:=P) (b:=b) (T:=(concL ι fr.T).toArray) (ds:=fr.defers.map (concDef ι)) (k:=k.map cItem) (cs:=X.cs ι pan) henter hrun
  simp only [goF] at hgo
  obtain ⟨en,w2,⟨ι2,rfl,R2,E2,he⟩,hs⟩:=call_steps (HF.call _ _ _ _ _ hgo ι1 w1 R1 hid) (fun w' ⟨ι',h',_⟩=>concEnd_ne ι' e0 h'.symm)
   (on b (concL ι fr.T).toArray (mark++fr.defers.map (concDef ι)) (.inRangeFunc (ι1 l).block::k.map cItem)) (X.cs ι pan)
  refine fin ι2 w2 R2 E2 he ?_
  rw [← hmark]
  exact Steps.trans (.one hs1) hs
 ·obtain ⟨hrun,_⟩:=hcm
  simp only [goF] at hgo
  obtain ⟨fn,tmps,as',bd,hy,hsteps⟩:=HF.round _ _ _ _ _ hgo ι1 w1 R1 hid.2 hid.1
  obtain ⟨ι2,w2,hs,R2,E2,he⟩:=hsteps (on b (concL ι fr.T).toArray (mark++fr.defers.map (concDef ι)) (.inRangeFunc (ι1 l).block::k.map cItem)) (X.cs ι pan)
  have hs1:=step_range_round (P:=P) (b:=b) (T:=(concL ι fr.T).toArray) (ds:=fr.defers.map (concDef ι)) (k:=k.map cItem) (cs:=X.cs ι pan) henter (hrun.trans hy)
  refine fin ι2 w2 R2 E2 he ?_
  rw [← hmark]
  exact Steps.trans (.one hs1) hs
theorem run_ok(Ft:Fits D P){F:Fns}(HF:FnsOK D P F):RunOK D P (runF D F):=by
 intro fr pan σ e pan' σ' h X b ι w B Rp I
 obtain ⟨fid,T,todo,ds,rd⟩:=fr
 have go:∀todo',F.run {fn:=fid,T,todo:=todo',defers:=ds,round:=rd} pan σ= .ok (e,pan',σ')→
   step P (mach X b ι T ds pan (todo.map cItem) w)= .next (mach X b ι T ds pan (todo'.map cItem) w)→
   Out D P X b ι σ w e pan' σ' (mach X b ι T ds pan (todo.map cItem) w):=fun todo' h' hs=>
  Out.of_steps (.one hs) (Ext.refl _ _ _) (HF.run _ _ _ _ _ _ h' X b ι w (B.ext (Ext.refl ι σ w) rfl rfl) Rp I)
 have leave:∀jump,(jump=none∨jump=some .ret)→rd=none→leaveF F {fn:=fid,T,todo,defers:=ds,round:=rd} jump pan σ= .ok (e,pan',σ')→
   (∀hb:b.roundOf=none,step P (mach X b ι T ds pan (todo.map cItem) w)= .next (lone (unwinding b (concL ι T).toArray (ds.map (concDef ι)) (todo.map cItem) .returning) (X.cs ι pan) w))→
   Out D P X b ι σ w e pan' σ' (mach X b ι T ds pan (todo.map cItem) w):=by
  intro jump hj hr h' hs
  have hb:b.roundOf=none:=by rw [B.round,hr];rfl
  have h2:F.finish fid T ds none pan σ= .ok (e,pan',σ'):=by
   rcases hj with rfl | rfl<;>simpa [leaveF,hr] using h'
  refine Out.of_steps (.one (hs hb)) (Ext.refl _ _ _) ?_
  exact HF.finish _ _ _ _ _ _ _ _ _ h2 X b ι w (todo.map cItem) B.kind B.fn hb B.has Rp I (by simp)
 have knorm:∀l,rd=some l→b.kind= .normal:=fun l hl=>by
  obtain ⟨cs,hX⟩:=(B.rnd l hl).2
  rw [B.kind,hX];rfl
 have hbr:∀l,rd=some l→b.roundOf=some (ι l).block:=fun l hl=>by rw [B.round,hl];rfl
 cases todo with
 | nil=>
  simp only [runF] at h
  cases rd with
  | none=>exact leave none (.inl rfl) rfl h fun hb=>step_on_nil hb
  | some l=>
   exact leave_round rfl B Rp I h fun c cs v w' hc hv=>by
    unfold mach;rw [hc];exact .one (step_round_nil (hbr l rfl) (knorm l rfl) hv)
 | cons it k=>
  cases it with
  | inBlock id=>simp only [runF] at h;exact go _ h step_on_inBlock
  | inScope c=>simp only [runF] at h;exact go _ h step_on_inScope
  | inLoop c=>simp only [runF] at h;exact go _ h step_on_inLoop
  | beginRound=>
   simp only [runF] at h
   cases rd with
   | none=>simp at h
   | some l=>
    simp only [bind_ok] at h
    obtain ⟨r,hr,h⟩:=h
    split at h
    ·rename_i hs
     obtain ⟨w1,h1,h2,h3⟩:=run_beginRound (P:=P) Rp hr hs
     refine Out.of_steps (.one (step_begin (hbr l rfl) h1)) h3 ?_
     exact HF.run _ _ _ _ _ _ h X b ι w1 (B.ext h3 rfl rfl) h2 I
    ·simp at h
  | code c=>
   cases c with
   | ret=>
    simp only [runF] at h
    cases rd with
    | none=>exact leave (some .ret) (.inr rfl) rfl h fun hb=>step_on_ret hb
    | some l=>
     exact leave_round rfl B Rp I h fun c cs v w' hc hv=>by
      unfold mach;rw [hc];exact .one (step_round_ret (hbr l rfl) (knorm l rfl) hv)
   | skip=>simp only [runF] at h;exact go _ h step_on_skip
   | label l=>simp only [runF] at h;exact go _ h step_on_label
   | seq x y=>simp only [runF] at h;exact go _ h step_on_seq
   | block id x=>simp only [runF] at h;exact go _ h step_on_block
   | loop x=>simp only [runF] at h;exact go _ h step_on_loop
   | scope x=>simp only [runF] at h;exact go _ h step_on_scope
   | refuse s=>simp [runF] at h
   | cond c x y=>
    simp only [runF,bind_ok] at h
    obtain ⟨t,ht,h⟩:=h
    refine go _ h (step_on_cond ?_)
    rw [evalO_conc Rp T c]
    have:evalO D T c= .base (.bool t):=by
     unfold asB at ht
     split at ht
     ·rename_i b' hb';simp at ht;rw [hb',ht]
     ·simp at ht
    rw [this,conc]
   | exit id=>
    simp only [runF] at h
    split at h
    ·rename_i k' hk'
     exact go _ h (step_on_exit (by rw [exitTo_c,hk'];rfl))
    ·rename_i hk'
     cases rd with
     | none=>simp [leaveF] at h
     | some l=>
      exact leave_round rfl B Rp I h fun c cs v w' hc hv=>by
       unfold mach;rw [hc];exact .one (step_round_exit (hbr l rfl) (knorm l rfl) (by rw [exitTo_c,hk'];rfl) hv)
   | goto id=>
    simp only [runF] at h
    split at h
    ·rename_i k' hk'
     exact go _ h (step_on_goto (by rw [gotoIn_c,hk'];rfl))
    ·rename_i hk'
     cases rd with
     | none=>simp [leaveF] at h
     | some l=>
      exact leave_round rfl B Rp I h fun c cs v w' hc hv=>by
       unfold mach;rw [hc];exact .one (step_round_goto (hbr l rfl) (knorm l rfl) (by rw [gotoIn_c,hk'];rfl) hv)
   | region id ops draw=>
    simp only [runF,bind_ok] at h
    obtain ⟨r,hr,h⟩:=h
    have hround:b.roundOf=none↔rd.isSome=false:=by
     rw [B.round];cases rd<;>simp
    obtain ⟨ι1,σ1,w1,hc,R1,E1⟩:=region_ok Ft HF.call HF.round B.kind hround (id:=id) (k:=k.map cItem) Rp I hr
    cases hc with
    | go steps ids=>
     simp only at h
     refine Out.of_steps steps E1 ?_
     exact HF.run _ _ _ _ _ _ h X b ι1 w1 (B.ext E1 rfl rfl) R1 ids
    | @panic _ _ _ T1 ds1 pan1 v1 todo' steps ids hv=>
     simp only at h
     refine Out.of_steps steps E1 ?_
     exact panic_ok HF (fr:= {fn:=fid,T:=T1,todo:= .code (.region id ops draw)::k,defers:=ds1,round:=rd}) (B.ext E1 rfl rfl) R1 ids hv h
   | rangeFunc f params assign body=>
    simp only [runF] at h
    cases rd with
    | some l0=>
     simp only [bind_ok] at h
     obtain ⟨r0,hr0,nx,hnx,⟨e0,σ2⟩,hgo,h⟩:=h
     obtain ⟨hh,hs0,hi0,hd0⟩:=loop_heap Rp hr0
     let lp:ALoop:= {state:= .ready,pending:=none,fn:=fid,T,params:=params.toList,assign,body,defers:=r0.defers}
     obtain ⟨ι1,w1,h1,h2,h3,h4⟩:=push_obj (P:=P) Rp (o:= .loop lp) (ob:= .loop (concLoop ι lp))
      (by
       have hag:∀b,b<σ.n→upd ι σ.n ⟨w.heap.size,0,0,0⟩ b=ι b:=fun b hb=>upd_old (Nat.ne_of_lt hb)
       refine ⟨rfl,?_,idsL_mono kpush _ I.T,Nat.lt_succ_of_lt hd0⟩
       rw [heap_alloc_new]
       simp only [concLoop,lp]
       rw [concL_agree hag T I.T,hag _ hd0])
     refine goF_ok Ft HF (k:=k) (ds:=ds) (l:=σ.n) (mark:=[]) B I h2 h3 (Nat.lt_succ_self _) (idsDs_mono h3.k I.ds) (by rw [concDs_agree h3.agree I.ds];rfl) ?_ hnx hgo h
     rw [hbr l0 rfl]
     simp only [Instr.enterLoop,Sem.run_bind,run_instrGet Rp hr0,Result.andThen_ok,Sem.run_pure]
     have:concLoop ι lp= {state:= .ready,pending:=none,fn:=b.fn,tmps:=(concL ι T).toArray,params,assign,body,defers:=(concLoop ι r0).defers}:=by
      simp [concLoop,lp,B.fn]
     rw [← this,h1,h4]
     rfl
    | none=>
     simp only [bind_ok] at h
     obtain ⟨nx,hnx,⟨e0,σ2⟩,hgo,h⟩:=h
     obtain ⟨ι0,w0,g1,g2,g3,g4⟩:=push_obj (P:=P) Rp (o:= .deferred (some [])) (ob:= .deferred (some []))
      (by refine ⟨rfl,?_,by simp⟩;rw [heap_alloc_new];rfl)
     let lp:ALoop:= {state:= .ready,pending:=none,fn:=fid,T,params:=params.toList,assign,body,defers:=σ.n}
     have hT0:idsL ι0 (· <(σ.push (.deferred (some []))).n) T:=idsL_mono g3.k T I.T
     obtain ⟨ι1,w1,h1,h2,h3,h4⟩:=push_obj (P:=P) g2 (o:= .loop lp) (ob:= .loop (concLoop ι0 lp))
      (by
       have hag:∀b,b<(σ.push (.deferred (some []))).n→upd ι0 (σ.push (.deferred (some []))).n ⟨w0.heap.size,0,0,0⟩ b=ι0 b:=fun b hb=>upd_old (Nat.ne_of_lt hb)
       have hdn:lp.defers<(σ.push (.deferred (some []))).n:=Nat.lt_succ_self _
       refine ⟨rfl,?_,idsL_mono kpush _ hT0,Nat.lt_succ_of_lt hdn⟩
       rw [heap_alloc_new]
       simp only [concLoop,lp]
       rw [concL_agree hag T hT0,hag _ hdn])
     have E:=g3.trans h3
     have hd1:idsDef ι1 (· <((σ.push (.deferred (some []))).push (.loop lp)).n) (.collected σ.n):=by
      show σ.n<σ.n+1+1
      omega
     have hι1:(ι1 σ.n).block=w.heap.size:=by
      rw [h3.agree σ.n (Nat.lt_succ_self _),g4]
     refine goF_ok Ft HF (k:=k) (ds:= .collected σ.n::ds) (l:=σ.n+1) (mark:=[{target:= .collected w.heap.size,args:= #[]}]) B I h2 E
      (by show σ.n+1<σ.n+1+1;omega) (by
       intro d hd
       rcases List.mem_cons.1 hd with rfl | hd
       ·exact hd1
       ·exact idsDef_mono E.k d (I.ds d hd)) (by
       rw [List.map_cons,concDs_agree E.agree I.ds]
       simp [concDef,hι1]) ?_ hnx hgo h
     have hb:b.roundOf=none:=by rw [B.round];rfl
     rw [hb]
     simp only [Instr.enterLoop,Sem.run_bind,g1,Result.andThen_ok,Sem.run_pure]
     have:concLoop ι0 lp= {state:= .ready,pending:=none,fn:=b.fn,tmps:=(concL ι T).toArray,params,assign,body,defers:=w.heap.size}:=by
      have hb':b.fn=fid:=B.fn
      simp [concLoop,lp,hb',g4,concL_agree g3.agree T I.T]
     rw [← this,h1]
     have h4':(ι1 (σ.n+1)).block=w0.heap.size:=by
      have:ι1 (σ.push (.deferred (some []))).n=⟨w0.heap.size,0,0,0⟩:=h4
      exact congrArg Loc.block this
     rw [h4']
     rfl
end
end Go.Dt
namespace Go.Dt
structure Fresh(w w':World):Prop where
 os:w'.os=w.os
 tape:w'.tape=w.tape
 output:w'.output=w.output
 size:w.heap.size≤w'.heap.size
 old:∀r,r<w.heap.size→w'.heap[r]? =w.heap[r]?
def Tab.bare(D:Tab):Tab:= {D with memo:=fun _=>True}
structure MemoOK(D:Tab)(P:Program)(m:Memo):Prop where
 nd:nodup (refsA (bareSt .e m.res) copyFuel m.val)=true
 call:∀ι w,Rep D.bare ι (bareSt .e m.heap) w→idsL ι (· <m.heap.length) m.args→(∀b,b<m.heap.length→((bareSt .e m.heap).getO b).isMut=false)→
  Calls P m.f (concL ι m.args).toArray w fun en w'=>∃ιY,en= .returned (conc ιY m.val)∧Rep D.bare ιY (bareSt .e m.res) w'∧ids ιY (· <m.res.length) m.val∧Fresh w w'∧
   ∀b,b<m.res.length→(bareSt .e m.res).getO b≠ .gone→w.heap.size≤(ιY b).block
section
variable {D:Tab} {P:Program}
theorem Rep.bare{ι:Nat→Loc}{σ:St}{w:World}(R:Rep D ι σ w):Rep D.bare ι σ w:=
 ⟨R.len,R.glob,R.gloc,R.obj,R.sep,fun _ _=>trivial⟩
theorem Rep.reM{ι:Nat→Loc}{σ:St}{w:World}(R:Rep D.bare ι σ w)(M:MTree)(hM:∀m,M.mem m→D.memo m):Rep D ι {σ with M:=M} w:=
 ⟨R.len,R.glob,R.gloc,R.obj,R.sep,hM⟩
theorem Rep.toBare{ι:Nat→Loc}{σ:St}{w:World}(R:Rep D ι σ w):Rep D.bare ι (bareSt .e σ.l) w:=by
 have:bareSt .e σ.l= {σ with M:= .e}:=by simp [bareSt,R.len]
 rw [this]
 exact ⟨R.len,R.glob,R.gloc,R.obj,R.sep,fun _ _=>trivial⟩
theorem bareSt_eq{ι:Nat→Loc}{σ:St}{w:World}(R:Rep D ι σ w):bareSt .e σ.l= {σ with M:= .e}:=by simp [bareSt,R.len]
theorem replGone_length:∀n,(replGone n).length=n
 | 0=>rfl
 | n+1=>by simp [replGone,replGone_length n]
theorem replGone_get:∀(n i:Nat) (o:AO),(replGone n)[i]? =some o→o=AO.gone
 | 0,i,o,h=>by simp [replGone] at h
 | n+1,0,o,h=>by simpa [replGone] using h.symm
 | n+1,i+1,o,h=>replGone_get n i o (by simpa [replGone] using h)
theorem fresh_gone(D:Tab)(M:MTree)(b:Nat):(freshSt D M).getO b= .gone:=by
 unfold St.getO
 split
 ·simp only [freshSt]
  cases h:(replGone D.nglob)[D.nglob - 1 - b]? with
  | none=>rfl
  | some o=>simp [replGone_get _ _ _ h]
 ·rfl
theorem fresh_rep{ι:Nat→Loc}{σ:St}{w:World}(R:Rep D ι σ w){M:MTree}(hM:∀m,M.mem m→D.memo m):Rep D ι (freshSt D M) w where
 len:=by simp [freshSt,replGone_length]
 glob:=Nat.le_refl _
 gloc:=R.gloc
 obj:=fun b _=>by rw [fresh_gone];trivial
 sep:=fun b b' _ _ _ hm=>by rw [fresh_gone] at hm;simp [AO.isMut] at hm
 mem:=hM
theorem beqH_ok{a b:List AO}(h:beqH a b=true):a=b:=beqH_ok' h
theorem findMemo_ok{f:FuncId}{args:List AV}{hp:List AO}:∀ {M:List Memo} {m:Memo},findMemo f args hp M=some m→m∈M∧m.f=f∧m.args=args∧m.heap=hp
 | [],m,h=>by simp [findMemo] at h
 | m0::M,m,h=>by
  unfold findMemo at h
  split at h
  ·rename_i hc
   simp at h
   subst h
   simp only [Bool.and_eq_true,beq_iff_eq] at hc
   exact ⟨by simp,hc.1.1,beqL_ok _ _ hc.1.2,beqH_ok hc.2⟩
  ·obtain ⟨h1,h2⟩:=findMemo_ok h
   exact ⟨List.mem_cons_of_mem _ h1,h2⟩
theorem Rep.fresh{ι:Nat→Loc}{σ:St}{w w':World}(R:Rep D ι σ w)(h:Fresh w w'):Rep D ι σ w':=
 ⟨R.len,R.glob,R.gloc,fun b hb=>by
  by_cases hg:σ.getO b= .gone
  ·rw [hg];trivial
  ·exact (R.obj b hb).congr (h.old _ ((R.obj b hb).lt hg)),R.sep,R.mem⟩
theorem Ext.fresh{ι ι':Nat→Loc}{σ σ':St}{w w':World}(E:Ext ι σ w ι' σ' w')(h:∀b,b<σ.n→(σ.getO b).isMut=false):Fresh w w':=
 ⟨E.os,E.tape,E.output,E.size,fun r hr=>E.frame r hr fun b hb hm=>by rw [h b hb] at hm;cases hm⟩
theorem memoF_ok{m:Memo}{σ σ0 σ':St}{ι ιY:Nat→Loc}{w w':World}{e:AEnd}(h:memoF m σ0= .ok (e,σ'))(h0:σ0.n=σ.n∧σ0.l=σ.l)(hM:∀m,σ0.M.mem m→D.memo m)(R:Rep D ι σ w)
  (nd:nodup (refsA (bareSt .e m.res) copyFuel m.val)=true) (RY:Rep D.bare ιY (bareSt .e m.res) w') (hid:ids ιY (· <m.res.length) m.val) (hf:Fresh w w')
  (hnew:∀b,b<m.res.length→(bareSt .e m.res).getO b≠ .gone→w.heap.size≤(ιY b).block):
  ∃ι',concEnd ι' e= .returned (conc ιY m.val)∧Rep D ι' σ' w'∧Ext ι σ w ι' σ' w'∧idsEnd ι' (· <σ'.n) e:=by
 simp only [memoF,bind_ok,pure_ok,Prod.mk.injEq] at h
 obtain ⟨⟨v,σ1⟩,hc,rfl,rfl⟩:=h
 have hgo:∀b,σ0.getO b=σ.getO b:=fun b=>by simp [St.getO,h0.1,h0.2]
 have R0:Rep D ι σ0 w':=by
  have R1:=R.fresh hf
  exact ⟨by rw [h0.1,h0.2];exact R1.len,by rw [h0.1];exact R1.glob,R1.gloc,fun b hb=>by rw [hgo,h0.1];exact R1.obj b (by rw [← h0.1];exact hb),
   fun b b' hb hb'=>by rw [hgo,hgo];exact R1.sep b b' (by rw [← h0.1];exact hb) (by rw [← h0.1];exact hb'),hM⟩
 have RY':Rep D ιY (bareSt .e m.res) w':=by
  have:=RY.reM (D:=D) .e (fun _ h=>h.elim)
  exact this
 obtain ⟨ι',hcp,hconc,hids⟩:=copy_ok true RY' copyFuel _ _ _ _ hc ι R0 hid (fun _=>nodup_ok nd) (fun s hs b hb hg=>by
  rw [hgo] at hg
  have h1:(ι b).block<w.heap.size:=(R.obj b (by rw [← h0.1];exact hb)).lt hg
  have hne:=refs_ne (bareSt .e m.res) copyFuel _ s hs
  have h2:=hnew s (getO_gone hne) hne
  omega)
 refine ⟨ι',by simp [concEnd,hconc],hcp.rep,⟨hf.os,hf.tape,hf.output,hf.size,by rw [← h0.1];exact hcp.n,fun b hb=>hcp.agree b (by rw [h0.1];exact hb),fun r hr _=>hf.old r hr,fun b hb hg=> ?_⟩,hids⟩
 by_cases hb0:b<σ0.n
 ·right
  rw [hcp.old b hb0,hgo] at hg
  refine ⟨b,by rw [← h0.1];exact hb0,hg,?_,by rw [hcp.agree b hb0]⟩
  rw [hcp.old b hb0,hgo]
  exact id
 ·left
  obtain ⟨_,s,hs,he⟩:=hcp.new b (by omega) hb
  have hne:=refs_ne (bareSt .e m.res) copyFuel _ s hs
  rw [he]
  exact hnew s (getO_gone hne) hne
theorem pureF_ok(Ft:Fits D P){F:Fns}(HF:FnsOK D P F){f:FuncId}{args:List AV}{σX:St}{m:Memo}{M:MTree}(h:pureF D F f args σX= .ok (m,M))
  (hM:∀m,σX.M.mem m→D.memo m) (hlen:σX.l.length=σX.n):
  m.f=f∧m.args=args∧m.heap=σX.l∧MemoOK D P m∧
   (∀ι w,Rep D ι σX w→idsL ι (· <σX.n) args→∀m,M.mem m→D.memo m):=by
 simp only [pureF,bind_ok] at h
 obtain ⟨fr,hfr,⟨e,p2,σ2⟩,hrun,h⟩:=h
 cases e with
 | panic v=>simp at h
 | ret v=>
  simp only at h
  split at h
  ·rename_i hnd2
   simp only [bind_ok] at h
   obtain ⟨⟨y,σY⟩,hcp,h⟩:=h
   split at h
   ·rename_i hndY
    simp at h
    obtain ⟨rfl,rfl⟩:=h
    have one:∀(cs:List Frame) (ι:Nat→Loc) (w:World),Rep D ι σX w→idsL ι (· <σX.n) args→Out D P (.norm cs) (Frame.enter P f (concL ι args).toArray .normal) ι σX w (.ret v) p2 σ2
      (lone (Frame.enter P f (concL ι args).toArray .normal) cs w):=by
     intro cs ι w RX hargs
     obtain ⟨h1,h2,h3,h4,h5,h6⟩:=enter_ok Ft hfr ι (· <σX.n) hargs .normal
     have hO:=HF.run _ _ _ _ _ _ hrun (.norm cs) (Frame.enter P f (concL ι args).toArray .normal) ι w
      ⟨rfl,h1.symm,by rw [h2];rfl,by rw [h2];simp,h5⟩ RX ⟨rfl,h4,by rw [h3];intro d hd;simp at hd,trivial⟩
     have hm:mach (.norm cs) (Frame.enter P f (concL ι args).toArray .normal) ι fr.T fr.defers none (fr.todo.map cItem) w=lone (Frame.enter P f (concL ι args).toArray .normal) cs w:=by
      unfold mach
      rw [h3,List.map_nil,← h6]
      rfl
     rw [hm] at hO
     exact hO
    refine ⟨rfl,rfl,rfl,⟨hndY,fun ι w Rb hargs hmut cs=> ?_⟩,fun ι w RX hargs m' hm'=> ?_⟩
    ·have hst:({bareSt .e σX.l with M:=σX.M}:St)=σX:=by
      cases σX with
      | mk n l M=>simp only [bareSt] at hlen ⊢;simp_all
     have RX:Rep D ι σX w:=by
      have:=Rb.reM (D:=D) σX.M hM
      rwa [hst] at this
     have hmut':∀b,b<σX.n→(σX.getO b).isMut=false:=fun b hb=>by
      have h1:σX.getO b=(bareSt .e σX.l).getO b:=by simp [St.getO,bareSt,hlen]
      rw [h1]
      exact hmut b (by show b<σX.l.length;omega)
     obtain ⟨ι2,w2,R2,E2,hen,_,_,hG⟩:=one cs ι w RX (by simpa [hlen] using hargs)
     unfold Gone at hG
     have hr0:(Frame.enter P f (concL ι args).toArray .normal).roundOf=none:=rfl
     simp only [hr0] at hG
     obtain ⟨fr',hs',hfn',hdef',hkind',fn',hfn'',hmode,hres⟩:=hG
     have hfresh:=E2.fresh hmut'
     obtain ⟨ιY,hc,hconc,hids⟩:=copy_ok true R2 copyFuel _ _ _ _ hcp ι2 (fresh_rep R2 (M:= .e) (fun _ h=>h.elim)) hen (fun _=>nodup_ok hnd2) (fun s _ b hb hg=>by rw [fresh_gone] at hg;exact (hg rfl).elim)
     have hlY:=hc.rep.len
     refine ⟨.returned (conc ι2 v),w2,fr',⟨ιY,by rw [hconc],hc.rep.toBare,by simpa [hlY] using hids,hfresh,fun b hb hg=> ?_⟩,hs',hfn',hmode,hdef',hkind',fn',by rw [hfn'];exact hfn'',hres⟩
     have hg':σY.getO b≠ .gone:=by
      rw [bareSt_eq hc.rep] at hg
      exact hg
     have hbn:b<σY.n:=getO_gone hg'
     have hbf:¬b<(freshSt D .e).n:=fun hlt=>by
      rw [hc.old b hlt,fresh_gone] at hg'
      exact hg' rfl
     obtain ⟨_,s,hs,he⟩:=hc.new b (Nat.le_of_not_lt hbf) hbn
     have hsm:=hc.own rfl s hs
     rw [he]
     rcases E2.own s (getO_gone (AO.isMut_ne hsm)) (AO.isMut_ne hsm) with h1 | ⟨b0,hb0,_,h3,_⟩
     ·exact h1
     ·have:=hmut' b0 hb0
      rw [h3 hsm] at this
      cases this
    ·obtain ⟨ι2,w2,R2,_⟩:=one [] ι w RX hargs
     exact R2.mem m' hm'
   ·simp at h
  ·simp at h
theorem call_ok(Ft:Fits D P)(HM:∀m,D.memo m↔MemoOK D P m){F:Fns}(HF:FnsOK D P F):CallOK D P (callF D F):=by
 intro f args σ e σ' h ι w R hargs
 unfold callF at h
 split at h
 ·
  simp only [bind_ok] at h
  obtain ⟨⟨args',σX⟩,hcp,h⟩:=h
  obtain ⟨ιX,hcX,hconcX,hidsX⟩:=copyL_ok R (refs_ne σ copyFuel) (copy_ok false R copyFuel) _ _ _ _ hcp ι (fresh_rep R R.mem) hargs (by simp) (fun b hb=>by rw [fresh_gone];rfl)
  have hmX:∀b,b<σX.n→(σX.getO b).isMut=false:=fun b hb=>by
   by_cases hb0:b<(freshSt D σ.M).n
   ·rw [hcX.old b hb0,fresh_gone];rfl
   ·exact (hcX.new b (Nat.le_of_not_lt hb0) hb).1
  have hMX:∀m,σX.M.mem m→D.memo m:=hcX.rep.mem
  have hlX:=hcX.rep.len
  have key:∀(m:Memo) (σ0:St),MemoOK D P m→m.f=f→m.args=args'→m.heap=σX.l→memoF m σ0= .ok (e,σ')→σ0.n=σ.n∧σ0.l=σ.l→(∀m,σ0.M.mem m→D.memo m)→
    Calls P f (concL ι args).toArray w fun en w'=>∃ι',en=concEnd ι' e∧Rep D ι' σ' w'∧Ext ι σ w ι' σ' w'∧idsEnd ι' (· <σ'.n) e:=by
   intro m σ0 hm hf ha hh hmf h0 hM0 cs
   have hb:bareSt .e m.heap= {σX with M:= .e}:=by rw [hh];exact bareSt_eq hcX.rep
   have hcall:=hm.call ιX w (by rw [hh];exact hcX.rep.toBare) (by rw [ha,hh,hlX];exact hidsX) (fun b hb'=>by rw [hb];exact hmX b (by rw [hh,hlX] at hb';exact hb'))
   rw [hf,ha,hconcX] at hcall
   obtain ⟨en,w',fr,⟨ιY,rfl,RY,hidY,hfr,hnew⟩,hc1,hc2,hc3⟩:=hcall cs
   obtain ⟨ι',h1,h2,h3,h4⟩:=memoF_ok hmf h0 hM0 R hm.nd RY hidY hfr hnew
   exact ⟨_,w',fr,⟨ι',h1.symm,h2,h3,h4⟩,hc1,hc2,hc3⟩
  split at h
  ·rename_i m hm
   obtain ⟨h1,h2,h3,h4⟩:=findMemo_ok hm
   exact key m σ ((HM m).1 (hMX m (MTree.mem_get _ _ h1))) h2 h3 h4 h ⟨rfl,rfl⟩ R.mem
  ·simp only [bind_ok] at h
   obtain ⟨⟨m,M⟩,hp,h⟩:=h
   obtain ⟨h1,h2,h3,h4,h5⟩:=pureF_ok Ft HF hp hMX hlX
   refine key m _ h4 h1 h2 h3 h ⟨rfl,rfl⟩ fun m' hm'=> ?_
   rcases MTree.mem_add _ _ hm' with rfl | hm'
   ·exact (HM _).2 h4
   ·exact h5 ιX w hcX.rep hidsX m' hm'
 ·
  simp only [plainF,bind_ok,pure_ok,Prod.mk.injEq] at h
  obtain ⟨fr,hfr,⟨e1,p2,σ2⟩,hrun,rfl,rfl⟩:=h
  intro cs
  obtain ⟨h1,h2,h3,h4,h5,h6⟩:=enter_ok Ft hfr ι (· <σ.n) hargs .normal
  have hO:=HF.run _ _ _ _ _ _ hrun (.norm cs) (Frame.enter P f (concL ι args).toArray .normal) ι w
   ⟨rfl,h1.symm,by rw [h2];rfl,by rw [h2];simp,h5⟩ R ⟨rfl,h4,by rw [h3];intro d hd;simp at hd,trivial⟩
  have hm:mach (.norm cs) (Frame.enter P f (concL ι args).toArray .normal) ι fr.T fr.defers none (fr.todo.map cItem) w=lone (Frame.enter P f (concL ι args).toArray .normal) cs w:=by
   unfold mach
   rw [h3,List.map_nil,← h6]
   rfl
  rw [hm] at hO
  obtain ⟨ι2,w2,R2,E2,hen,_,_,hG⟩:=hO
  unfold Gone at hG
  have hr0:(Frame.enter P f (concL ι args).toArray .normal).roundOf=none:=rfl
  simp only [hr0] at hG
  obtain ⟨fr',hs',hfn',hdef',hkind',fn',hfn'',hend⟩:=hG
  cases e1 with
  | ret v=>exact ⟨_,w2,fr',⟨ι2,rfl,R2,E2,hen⟩,hs',hfn',hend.1,hdef',hkind',fn',by rw [hfn'];exact hfn'',hend.2⟩
  | panic v=>exact ⟨_,w2,fr',⟨ι2,rfl,R2,E2,hen⟩,hs',hfn',hend,hdef',fn',by rw [hfn'];exact hfn''⟩
theorem setParams_conc(ι:Nat→Loc):∀(l:List (Tmp×AV)) (T:List AV),(concL ι (setParams l T))=(l.foldl (fun (t:List Value) (p:Tmp×AV)=>t.set p.1 (conc ι p.2)) (concL ι T))
 | [],T=>rfl
 | (t,a)::l,T=>by
  simp only [setParams,List.foldl_cons]
  rw [setParams_conc ι l]
  congr 1
  simp [concL_eq,List.map_set]
theorem setParams_ids{ι:Nat→Loc}{A:Nat→Prop}:∀(l:List (Tmp×AV)) (T:List AV),(∀p,p∈l→ids ι A p.2)→idsL ι A T→idsL ι A (setParams l T)
 | [],T,_,h=>h
 | (t,a)::l,T,hl,h=>setParams_ids l _ (fun p hp=>hl p (List.mem_cons_of_mem _ hp)) (idsL_set h (hl (t,a) (by simp)) t)
theorem foldl_tmps(l:List (Tmp×Value)):∀(A:Array Value),(l.foldl (fun (tmps:Array Value) (p:Tmp×Value)=>tmps.setIfInBounds p.1 p.2) A).toList=l.foldl (fun (t:List Value) (p:Tmp×Value)=>t.set p.1 p.2) A.toList:=by
 induction l with
 | nil=>intro A;rfl
 | cons p l ih=>
  intro A
  simp only [List.foldl_cons]
  rw [ih]
  simp
theorem round_ok(Ft:Fits D P){F:Fns}(HF:FnsOK D P F):RoundOK D P (roundF D F):=by
 intro l args σ e σ' h ι w R hargs hl
 simp only [roundF,bind_ok] at h
 obtain ⟨r,hr,h⟩:=h
 obtain ⟨hh,hs0,hi0,hd0⟩:=loop_heap R hr
 split at h
 ·simp at h
 ·rename_i fn0 hfn0
  split at h
  ·rename_i hlen
   simp only [bind_ok,pure_ok,Prod.mk.injEq] at h
   obtain ⟨⟨e1,p2,σ2⟩,hrun,rfl,rfl⟩:=h
   have hT:idsL ι (· <σ.n) (setParams (r.params.zip args) r.T):=setParams_ids _ _ (fun p hp=>idsL_iff.1 hargs _ (List.of_mem_zip hp).2) hi0
   have htm:(((concLoop ι r).params.zip (concL ι args).toArray).foldl (fun tmps (t,a)=>tmps.setIfInBounds t a) (concLoop ι r).tmps)=(concL ι (setParams (r.params.zip args) r.T)).toArray:=by
    apply Array.ext'
    rw [← Array.foldl_toList]
    have h1:((concLoop ι r).params.zip (concL ι args).toArray).toList=(r.params.zip args).map fun p=>(p.1,conc ι p.2):=by
     simp [concLoop,concL_eq,List.zip_map_right]
    rw [h1]
    have h2:=foldl_tmps ((r.params.zip args).map fun p=>(p.1,conc ι p.2)) (concLoop ι r).tmps
    have h3:(concLoop ι r).tmps.toList=concL ι r.T:=rfl
    rw [h3] at h2
    refine Eq.trans ?_ (h2.trans ?_)
    ·rfl
    ·rw [setParams_conc,List.foldl_map]
   refine ⟨r.fn,(concL ι (setParams (r.params.zip args) r.T)).toArray,r.assign,r.body,?_,fun c cs=> ?_⟩
   ·simp only [Instr.yield,Sem.run_bind,run_instrGet R hr,Result.andThen_ok]
    have:¬((concL ι args).toArray.size≠(concLoop ι r).params.size):=by simp [concLoop,hlen]
    rw [if_neg this]
    simp only [Sem.run_pure,htm]
    rfl
   ·have hO:=HF.run _ _ _ _ _ _ hrun (.norm (c::cs)) (Frame.round (ι l).block r.fn (concL ι (setParams (r.params.zip args) r.T)).toArray r.assign r.body .normal) ι w
     ⟨rfl,rfl,rfl,fun l' hl'=>by cases hl';exact ⟨hl,_,rfl⟩,⟨fn0,Ft.func _ _ hfn0⟩⟩ R ⟨rfl,hT,(by intro d hd;simp at hd),trivial⟩
    obtain ⟨ι2,w2,R2,E2,hen,_,_,hG⟩:=hO
    unfold Gone at hG
    have hr0:(Frame.round (ι l).block r.fn (concL ι (setParams (r.params.zip args) r.T)).toArray r.assign r.body .normal).roundOf=some (ι l).block:=rfl
    simp only [hr0] at hG
    exact ⟨ι2,w2,hG c cs rfl,R2,E2,hen⟩
  ·simp at h
theorem noFns_ok:FnsOK D P noFns where
 run:=fun _ _ _ _ _ _ h=>by simp [noFns] at h
 finish:=fun _ _ _ _ _ _ _ _ _ h=>by simp [noFns] at h
 endLoop:=fun _ _ _ _ _ _ _ _ h=>by simp [noFns] at h
 call:=fun _ _ _ _ _ h=>by simp [noFns] at h
 round:=fun _ _ _ _ _ h=>by simp [noFns] at h
theorem nextFns_ok(Ft:Fits D P)(HM:∀m,D.memo m↔MemoOK D P m){F:Fns}(HF:FnsOK D P F):FnsOK D P (nextFns D F) where
 run:=run_ok Ft HF
 finish:=finish_ok Ft HF
 endLoop:=endLoop_ok HF
 call:=call_ok Ft HM HF
 round:=round_ok Ft HF
theorem fns_ok(Ft:Fits D P)(HM:∀m,D.memo m↔MemoOK D P m):∀n,FnsOK D P (fns D n)
 | 0=>noFns_ok
 | n+1=>nextFns_ok Ft HM (fns_ok Ft HM n)
end
end Go.Dt
