/-
  A deterministic reading of the model's code: frames and calls. No statement of this seat stands here.
-/
import Derived.Test.YtolakgfoodndpaaGreatDoorDtRun
namespace Go.Dt


inductive AItem where
  | code (c : Code)
  | inBlock (id : Nat)
  | inLoop (body : Code)
  | inScope (body : Code)
  | beginRound

structure AFr where
  fn : FuncId
  T : List AV
  todo : List AItem
  defers : List ADef
  round : Option Nat

def exitTo (id : Nat) : List AItem → Option (List AItem)
  | .inBlock id' :: k => if id' == id then some k else exitTo id k
  | _ :: k => exitTo id k
  | [] => none
def gotoIn (l : Nat) : List AItem → Option (List AItem)
  | .inScope body :: k =>
    match findLabel body l with
    | some rest => some (.code rest :: .inScope body :: k)
    | none => gotoIn l k
  | _ :: k => gotoIn l k
  | [] => none

def resultV (D : Tab) (σ : St) (T : List AV) : List ResultVar → R (List AV)
  | [] => .ok []
  | .tmp t :: l => do
    let r ← resultV D σ T l
    return T.getD t .undef :: r
  | .cell a t :: l => do
    let v ← loadV D σ t (T.getD a .undef)
    let r ← resultV D σ T l
    return v :: r
def resultsV (D : Tab) (σ : St) (f : FuncId) (T : List AV) : R AV :=
  match D.func f with
  | some fn => do
    let vs ← resultV D σ T fn.results.toList
    match vs with
    | [v] => return v
    | vs => return .tuple vs
  | none => .error "results"

def replUndef : Nat → List AV
  | 0 => []
  | n + 1 => .undef :: replUndef n

def enterFr (D : Tab) (f : FuncId) (args : List AV) : R AFr :=
  match D.func f with
  | some fn => match fn.body with
    | some c => .ok { fn := f, T := args ++ replUndef (fn.ntmps - args.length), todo := [.code c], defers := [], round := none }
    | none => .error "body"
  | none => .error "enter"

def setParams : List (Tmp × AV) → List AV → List AV
  | [], T => T
  | (t, a) :: l, T => setParams l (T.set t a)

def getLoop (σ : St) (l : Nat) : R ALoop :=
  if l < σ.n then
    match σ.getO l with
    | .loop r => .ok r
    | _ => .error "loop"
  else .error "loop"



structure Fns where
  run : AFr → Pan → St → R (AEnd × Pan × St)
  finish : FuncId → List AV → List ADef → Option AV → Pan → St → R (AEnd × Pan × St)
  endLoop : AFr → Nat → AEnd → Pan → St → R (AEnd × Pan × St)
  call : CallT
  round : RoundT

def goF (F : Fns) (nx : ANext) (σ : St) : R (AEnd × St) :=
  match nx with
  | .enter f args => F.call f args σ
  | .round l args => F.round l args σ
  | _ => .error "goF"

def leaveF (F : Fns) (fr : AFr) (jump : Option Code) (pan : Pan) (σ : St) : R (AEnd × Pan × St) :=
  match fr.round with
  | none =>
    match jump with
    | none => F.finish fr.fn fr.T fr.defers none pan σ
    | some .ret => F.finish fr.fn fr.T fr.defers none pan σ
    | _ => .error "leave"
  | some l =>
    if fr.defers.isEmpty then do
      let r ← getLoop σ l
      return (.ret (boolV jump.isNone), pan, σ.set l (.loop { r with state := if jump.isNone then .ready else .done, pending := jump }))
    else .error "defers in a round"

def panicF (F : Fns) (fr : AFr) (v : AV) (pan : Pan) (σ : St) : R (AEnd × Pan × St) :=
  match fr.round with
  | none => F.finish fr.fn fr.T fr.defers (some v) pan σ
  | some _ => if fr.defers.isEmpty then .ok (.panic v, pan, σ) else .error "defers in a round"

def runF (D : Tab) (F : Fns) (fr : AFr) (pan : Pan) (σ : St) : R (AEnd × Pan × St) :=
  match fr.todo with
  | [] => leaveF F fr none pan σ
  | .inBlock _ :: k => F.run { fr with todo := k } pan σ
  | .inScope _ :: k => F.run { fr with todo := k } pan σ
  | .inLoop body :: k => F.run { fr with todo := .code body :: .inLoop body :: k } pan σ
  | .beginRound :: k =>
    match fr.round with
    | some l => do
      let r ← getLoop σ l
      if r.state = .ready then F.run { fr with todo := k } pan (σ.set l (.loop { r with state := .busy }))
      else .error "beginRound"
    | none => .error "beginRound"
  | .code c :: k =>
    match c with
    | .ret => leaveF F fr (some .ret) pan σ
    | .skip => F.run { fr with todo := k } pan σ
    | .label _ => F.run { fr with todo := k } pan σ
    | .seq a b => F.run { fr with todo := .code a :: .code b :: k } pan σ
    | .cond c thn els => do
      let b ← asB (evalO D fr.T c)
      F.run { fr with todo := .code (if b then thn else els) :: k } pan σ
    | .block id body => F.run { fr with todo := .code body :: .inBlock id :: k } pan σ
    | .loop body => F.run { fr with todo := .code body :: .inLoop body :: k } pan σ
    | .scope body => F.run { fr with todo := .code body :: .inScope body :: k } pan σ
    | .exit id =>
      match exitTo id k with
      | some k => F.run { fr with todo := k } pan σ
      | none => leaveF F fr (some (.exit id)) pan σ
    | .goto l =>
      match gotoIn l k with
      | some k => F.run { fr with todo := k } pan σ
      | none => leaveF F fr (some (.goto l)) pan σ
    | .region _ ops draw => do
      let r ← runRegion D F.call F.round fr.round.isSome ops draw fr.T fr.defers pan σ
      match r with
      | .go T ds pan σ => F.run { fr with T, defers := ds, todo := k } pan σ
      | .panic v T ds pan σ => panicF F { fr with T, defers := ds } v pan σ
    | .rangeFunc f params assign body =>
      match fr.round with
      | some l0 => do
        let r0 ← getLoop σ l0
        let nx ← callV D (evalO D fr.T f) [.yield σ.n]
        let lp : ALoop := { state := .ready, pending := none, fn := fr.fn, T := fr.T, params := params.toList, assign, body, defers := r0.defers }
        let (e, σ') ← goF F nx (σ.push (.loop lp))
        F.endLoop { fr with todo := k } σ.n e pan σ'
      | none => do
        let nx ← callV D (evalO D fr.T f) [.yield (σ.n + 1)]
        let lp : ALoop := { state := .ready, pending := none, fn := fr.fn, T := fr.T, params := params.toList, assign, body, defers := σ.n }
        let (e, σ') ← goF F nx ((σ.push (.deferred (some []))).push (.loop lp))
        F.endLoop { fr with todo := k, defers := .collected σ.n :: fr.defers } (σ.n + 1) e pan σ'
    | .refuse _ => .error "refuse"

/-- behind the call of a range over a function -/
def endLoopF (F : Fns) (fr : AFr) (l : Nat) (e : AEnd) (pan : Pan) (σ : St) : R (AEnd × Pan × St) :=
  match e with
  | .ret _ => do
    let r ← getLoop σ l
    if r.state = .busy then .error "endLoop busy" else
    match r.pending with
    | none => F.run fr pan (σ.set l (.loop { r with state := .exhausted }))
    | some c => F.run { fr with todo := .code c :: fr.todo } pan (σ.set l (.loop { r with state := .exhausted }))
  | .panic v => panicF F fr v pan σ

def finishF (D : Tab) (F : Fns) (fn : FuncId) (T : List AV) (ds : List ADef) (mode : Option AV) (pan : Pan) (σ : St) : R (AEnd × Pan × St) :=
  match ds with
  | [] =>
    match mode with
    | none => do
      let v ← resultsV D σ fn T
      return (.ret v, pan, σ)
    | some v => .ok (.panic v, pan, σ)
  | .collected r :: ds => do
    let o ← σ.get r
    match o with
    | .deferred (some calls) => F.finish fn T (calls ++ ds) mode pan (σ.set r (.deferred none))
    | _ => .error "collected"
  | .fn g cap args :: ds => do
    let nx ← invokeT D g cap args
    match nx with
    | .enter f args => do
      let fr ← enterFr D f args
      let (e, p, σ) ← F.run fr (mode.map fun v => (v, false)) σ
      match e with
      | .ret _ =>
        match p with
        | some (v, false) => F.finish fn T ds (some v) pan σ
        | _ => F.finish fn T ds none pan σ
      | .panic v =>
        match p with
        | none => F.finish fn T ds (some v) pan σ
        | some _ => .error "panic in a deferred call while panicking"
    | _ => .error "deferred call"

def plainF (D : Tab) (F : Fns) (f : FuncId) (args : List AV) (σ : St) : R (AEnd × St) := do
  let fr ← enterFr D f args
  let (e, _, σ) ← F.run fr none σ
  return (e, σ)

def bareSt (M : MTree) (l : List AO) : St := { n := l.length, l, M }

/-- one call of a pure function in a memory of its own -/
def pureF (D : Tab) (F : Fns) (f : FuncId) (args : List AV) (σX : St) : R (Memo × MTree) := do
  let fr ← enterFr D f args
  let (e, _, σ2) ← F.run fr none σX
  match e with
  | .ret v =>
    if nodup (refsA σ2 copyFuel v) then do
      let (y, σY) ← copyA true σ2 copyFuel v (freshSt D .e)
      if nodup (refsA (bareSt .e σY.l) copyFuel y) then return ({ f, args, heap := σX.l, val := y, res := σY.l }, σ2.M)
      else .error "pure result shares"
    else .error "pure result shares"
  | .panic _ => .error "pure panics"

def memoF (m : Memo) (σ : St) : R (AEnd × St) := do
  let (v, σ) ← copyA true (bareSt .e m.res) copyFuel m.val σ
  return (.ret v, σ)

def callF (D : Tab) (F : Fns) (f : FuncId) (args : List AV) (σ : St) : R (AEnd × St) :=
  if D.pure f then do
    let (args', σX) ← copyL (copyA false σ copyFuel) args (freshSt D σ.M)
    match findMemo f args' σX.l (σX.M.get (pth f)) with
    | some m => memoF m σ
    | none => do
      let (m, M) ← pureF D F f args' σX
      memoF m { σ with M := M.add m (pth f) }
  else plainF D F f args σ

def roundF (D : Tab) (F : Fns) (l : Nat) (args : List AV) (σ : St) : R (AEnd × St) := do
  let r ← getLoop σ l
  match D.func r.fn with
  | none => .error "round"
  | some _ =>
    if r.params.length = args.length then do
      let (e, _, σ) ← F.run { fn := r.fn, T := setParams (r.params.zip args) r.T, todo := [.code r.assign, .beginRound, .code r.body], defers := [], round := some l } none σ
      return (e, σ)
    else .error "yield number of arguments"

def noFns : Fns where
  run := fun _ _ _ => .error "fuel"
  finish := fun _ _ _ _ _ _ => .error "fuel"
  endLoop := fun _ _ _ _ _ => .error "fuel"
  call := fun _ _ _ => .error "fuel"
  round := fun _ _ _ => .error "fuel"

def nextFns (D : Tab) (F : Fns) : Fns where
  run := runF D F
  finish := finishF D F
  endLoop := endLoopF F
  call := callF D F
  round := roundF D F

def fns (D : Tab) : Nat → Fns
  | 0 => noFns
  | n + 1 => nextFns D (fns D n)

end Go.Dt
