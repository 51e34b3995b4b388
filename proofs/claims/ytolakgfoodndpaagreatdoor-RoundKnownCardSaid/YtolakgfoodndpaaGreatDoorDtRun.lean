/-
  A deterministic reading of the model's code: regions, frames, calls. No statement of this seat stands here.
-/
import Derived.Test.YtolakgfoodndpaaGreatDoorDtCore
namespace Go.Dt

def beqO : AO → AO → Bool
  | .cells cs e o s, .cells cs' e' o' s' => e == e' && o == o' && s == s' && beqL cs cs'
  | .gone, .gone => true
  | _, _ => false
def beqH : List AO → List AO → Bool
  | [], [] => true
  | x :: xs, y :: ys => beqO x y && beqH xs ys
  | _, _ => false

/- copies of data from one heap to another. own: from blocks of their own into such, else read only -/
def capChk (own : Bool) (cap : Option Nat) (o len sz k : Nat) : Bool :=
  match cap with
  | none => !own || Nat.beq (o % sz) 0
  | some c => Nat.blt 0 sz && Nat.ble len c && (!own || Nat.ble (o + c * sz) k)
def copyL (f : AV → St → R (AV × St)) : List AV → St → R (List AV × St)
  | [], dst => .ok ([], dst)
  | x :: l, dst => do
    let (x, dst) ← f x dst
    let (l, dst) ← copyL f l dst
    return (x :: l, dst)
def copyA (own : Bool) (src : St) : Nat → AV → St → R (AV × St)
  | 0, _, _ => .error "copy fuel"
  | n + 1, v, dst =>
    match v with
    | .base v => .ok (.base v, dst)
    | .slice b o len cap sz =>
      match src.getO b with
      | .cells cs elem ow sz' =>
        if (!own || (ow && sz' == sz)) && capChk own cap o len sz cs.length then do
          let l ← takeN cs o (len * sz)
          let (l, dst) ← copyL (copyA own src n) l dst
          return (.slice dst.n 0 len none sz, dst.push (.cells l elem own sz))
        else .error "copy not own"
      | _ => .error "copy cells"
    | .iface t v => do
      let (v, dst) ← copyA own src n v dst
      return (.iface t v, dst)
    | .agg l => do
      let (l, dst) ← copyL (copyA own src n) l dst
      return (.agg l, dst)
    | .tuple l => do
      let (l, dst) ← copyL (copyA own src n) l dst
      return (.tuple l, dst)
    | .func (.func f) [] [] => .ok (.func (.func f) [] [], dst)
    | _ => .error "copy"

/- the blocks that a value names -/
def refsL (f : AV → List Nat) : List AV → List Nat
  | [] => []
  | x :: l => f x ++ refsL f l
def refsA (src : St) : Nat → AV → List Nat
  | 0, _ => []
  | n + 1, v =>
    match v with
    | .slice b o len _ sz =>
      match src.getO b with
      | .cells cs _ _ _ => b :: refsL (refsA src n) ((cs.drop o).take (len * sz))
      | _ => []
    | .iface _ v => refsA src n v
    | .agg l => refsL (refsA src n) l
    | .tuple l => refsL (refsA src n) l
    | _ => []
def nodup : List Nat → Bool
  | [] => true
  | x :: l => !l.contains x && nodup l

def copyFuel : Nat := 30

def replGone : Nat → List AO
  | 0 => []
  | n + 1 => .gone :: replGone n
def freshSt (D : Tab) (M : MTree) : St := { n := D.nglob, l := replGone D.nglob, M }

def findMemo (f : FuncId) (args : List AV) (h : List AO) : List Memo → Option Memo
  | [] => none
  | m :: ms => if m.f == f && beqL m.args args && beqH m.heap h then some m else findMemo f args h ms

/- the ids of a value all lie below a bound -/
mutual
def bndA (n : Nat) : AV → Bool
  | .base _ => true
  | .ptr b _ => Nat.blt b n
  | .slice b _ _ _ _ => Nat.blt b n
  | .sliceZ b _ _ _ => Nat.blt b n
  | .mapv b => Nat.blt b n
  | .func _ a c => bndL n a && bndL n c
  | .yield l => Nat.blt l n
  | .iface _ v => bndA n v
  | .agg cs => bndL n cs
  | .tuple vs => bndL n vs
def bndL (n : Nat) : List AV → Bool
  | [] => true
  | v :: l => bndA n v && bndL n l
end
def bndO (n : Nat) : AO → Bool
  | .cells cs _ _ _ => bndL n cs
  | .map [] _ => true
  | _ => false

/- drawn regions -/

structure PlanItem where
  i : Nat
  lo : Nat
  act : Bool

def isAct (ops : Array Oper) (i : Nat) : Bool := clsOf (ops.getD i default).op == .act
def idxs (ops : Array Oper) : List Nat := List.range ops.size
def acts (ops : Array Oper) : List Nat := (idxs ops).filter (isAct ops)
def isBefore (b : Array Nat) (i j : Nat) : Bool := (b.getD j 0).testBit i

/- the plan: a guess that drawOk checks -/
def bitOf (m i : Nat) : Bool := Nat.beq (Nat.land (Nat.shiftRight m i) 1) 1
def nthN : List Nat → Nat → Nat
  | [], _ => 0
  | x :: l, i => bif Nat.beq i 0 then x else nthN l (Nat.sub i 1)
/-- acc: the masks so far, the last one first; k: how many -/
def edgesM (acc : List Nat) (k : Nat) : List Edge → Nat
  | [] => 0
  | e :: l =>
    bif Region.binds .any e then Nat.lor (Nat.lor (Nat.shiftLeft 1 e.on) (bif Nat.blt e.on k then nthN acc (Nat.sub (Nat.sub k 1) e.on) else 0)) (edgesM acc k l)
    else edgesM acc k l
def befL : List Oper → List Nat → Nat → List Nat
  | [], _, _ => []
  | o :: l, acc, k => edgesM acc k o.after.toList :: befL l (edgesM acc k o.after.toList :: acc) (Nat.succ k)
def isActO (o : Oper) : Bool :=
  match clsOf o.op with
  | .act => true
  | _ => false
def actIx : List Oper → Nat → List Nat
  | [], _ => []
  | o :: l, i => bif isActO o then i :: actIx l (Nat.succ i) else actIx l (Nat.succ i)
def inertIx : List Oper → Nat → List Nat
  | [], _ => []
  | o :: l, i => bif isActO o then inertIx l (Nat.succ i) else i :: inertIx l (Nat.succ i)
def cntB (m : Nat) : List Nat → Nat
  | [] => 0
  | a :: l => bif bitOf m a then Nat.succ (cntB m l) else cntB m l
def inertsBefore (bs as : List Nat) (m : Nat) (more : List PlanItem) : List Nat → List PlanItem
  | [] => more
  | i :: l => bif bitOf m i then ⟨i, cntB (nthN bs i) as, false⟩ :: inertsBefore bs as m more l else inertsBefore bs as m more l
def restOf (m : Nat) : List Nat → List Nat
  | [] => []
  | i :: l => bif bitOf m i then restOf m l else i :: restOf m l
def inertsAll (bs as : List Nat) : List Nat → List PlanItem
  | [] => []
  | i :: l => ⟨i, cntB (nthN bs i) as, false⟩ :: inertsAll bs as l
/-- the actives in their order, each behind the inert operations that must stand before it -/
def planFrom (bs as : List Nat) : List Nat → List Nat → List PlanItem
  | [], inert => inertsAll bs as inert
  | a :: rest, inert => inertsBefore bs as (nthN bs a) (⟨a, 0, true⟩ :: planFrom bs as rest (restOf (nthN bs a) inert)) inert
def planOf (ops : Array Oper) : List PlanItem :=
  planFrom (befL ops.toList [] 0) (actIx ops.toList 0) (actIx ops.toList 0) (inertIx ops.toList 0)

def dstAt (ops : Array Oper) (i : Nat) : Option Tmp := (ops[i]?).bind (·.dst)
def writes (ops : Array Oper) (p : List PlanItem) (t : Tmp) : Bool := p.any fun it => dstAt ops it.i == some t
def firstAct : List PlanItem → Option Nat
  | [] => none
  | it :: rest => if it.act then some it.i else firstAct rest
def looksAt (ops : Array Oper) (o : Oper) : List Tmp :=
  (o.op.operands.toList.filterMap fun | .tmp t => some t | _ => none) ++
  (match o.guard with
   | some (g, _) => ((ops[g]?).bind (·.dst)).toList
   | none => [])
def isSelect : Op → Bool
  | .select .. => true
  | _ => false

/-- b: what stands before what, as numbers; every mark in it rests on an edge -/
def marksOk (ops : Array Oper) (b : Array Nat) : Bool :=
  (idxs ops).all fun j => (idxs ops).all fun i => !isBefore b i j ||
    match ops[j]? with
    | some o => o.after.toList.any fun e => Region.binds .any e && (e.on == i || isBefore b i e.on)
    | none => false

def planChk (ops : Array Oper) (m : Nat) (b : Array Nat) (as : List Nat) : List Nat → List PlanItem → Bool
  | _, [] => true
  | seen, it :: rest =>
    (match ops[it.i]? with
    | none => false
    | some o =>
      Nat.blt it.i m && !isSelect o.op && !seen.contains it.i &&
      (o.after.toList.all fun e => !Region.binds .any e || seen.contains e.on) &&
      (match firstAct rest with
        | some a => isBefore b it.i a
        | none => true) &&
      (it.lo == 0 || match as[it.lo - 1]? with
        | some a => isBefore b a it.i
        | none => false) &&
      ((looksAt ops o).all fun t => !writes ops (it :: rest) t && (List.range m).all fun j => dstAt ops j != some t || isBefore b j it.i) &&
      (match o.dst with
        | some d => !writes ops rest d
        | none => true)) &&
    planChk ops m b as (it.i :: seen) rest

def befA (ops : Array Oper) : Array Nat := (befL ops.toList [] 0).toArray

/-- the first m operations stand ahead of all others -/
def aheadOk (ops : Array Oper) (m : Nat) : Bool :=
  (List.range m).all fun i => (idxs ops).all fun j => Nat.blt j m || isBefore (befA ops) i j

/-- the plan of the first m operations -/
def planM (ops : Array Oper) (m : Nat) : List PlanItem := (planOf ops).filter fun it => Nat.blt it.i m

def drawOk (ops : Array Oper) (m : Nat) : Bool :=
  Nat.ble m ops.size && aheadOk ops m && planChk ops m (befA ops) (((planM ops m).filter (·.act)).map (·.i)) [] (planM ops m) &&
  (List.range m).all fun i => (planM ops m).any fun it => it.i == i

def put (T : List AV) (dst : Option Tmp) (v : AV) : List AV :=
  match dst with
  | some d => T.set d v
  | none => T

def yieldedA (ops : Array Oper) (T : List AV) (j : Nat) : Option Bool :=
  match ((ops[j]?).bind (·.dst)).bind (T[·]?) with
  | some (.base (.bool b)) => some b
  | _ => none

def wantedA (ops : Array Oper) (o : Oper) (T : List AV) : Bool :=
  match o.guard with
  | none => true
  | some (j, want) => yieldedA ops T j == some want

inductive AEnd where
  | ret (v : AV)
  | panic (v : AV)

abbrev Pan := Option (AV × Bool)
abbrev CallT := FuncId → List AV → St → R (AEnd × St)
abbrev RoundT := Nat → List AV → St → R (AEnd × St)

inductive OpEnd where
  | go (T : List AV) (defers : List ADef) (pan : Pan) (σ : St)
  | panic (v : AV) (T : List AV) (defers : List ADef) (pan : Pan) (σ : St)

def runOne (D : Tab) (call : CallT) (round : RoundT) (isRound : Bool) (o : Oper) (T : List AV) (ds : List ADef) (pan : Pan) (σ : St) : R OpEnd := do
  let (nx, σ) ← execOp D (evalO D T) σ o.op
  match nx with
  | .value v => return .go (put T o.dst v) ds pan σ
  | .skip => return .go (put T o.dst .undef) ds pan σ
  | .defer d => if isRound then .error "defer in a round" else return .go (put T o.dst .undef) (d :: ds) pan σ
  | .recover =>
    if isRound then .error "recover in a round" else
    match pan with
    | some (v, false) => return .go (put T o.dst v) ds (some (v, true)) σ
    | _ => return .go (put T o.dst (.base .nilIface)) ds pan σ
  | .panic v => return .panic v T ds pan σ
  | .enter f args => do
    let (e, σ) ← call f args σ
    match e with
    | .ret v => return .go (put T o.dst v) ds pan σ
    | .panic v => return .panic v T ds pan σ
  | .round l args => do
    let (e, σ) ← round l args σ
    match e with
    | .ret v => return .go (put T o.dst v) ds pan σ
    | .panic v => return .panic v T ds pan σ

def runSeq (D : Tab) (call : CallT) (round : RoundT) (isRound : Bool) (ops : Array Oper) : List Oper → List AV → List ADef → Pan → St → R OpEnd
  | [], T, ds, pan, σ => .ok (.go T ds pan σ)
  | o :: rest, T, ds, pan, σ =>
    if wantedA ops o T then do
      let r ← runOne D call round isRound o T ds pan σ
      match r with
      | .go T ds pan σ => runSeq D call round isRound ops rest T ds pan σ
      | .panic v T ds pan σ => return .panic v T ds pan σ
    else runSeq D call round isRound ops rest (put T o.dst .undef) ds pan σ

/-- a read gives one value in each of these memories -/
def sameAt (D : Tab) (T : List AV) (op : Op) (v : AV) (snap : St) : Bool :=
  match readOp D snap (evalO D T) op with
  | .ok v' => beqA v' v
  | .error _ => false

/-- snaps: memory at the region's begin, and behind each active operation so far, the last one first -/
def runDraw (D : Tab) (call : CallT) (round : RoundT) (isRound : Bool) (ops : Array Oper) : List PlanItem → List St → List AV → List ADef → Pan → St → R OpEnd
  | [], _, T, ds, pan, σ => .ok (.go T ds pan σ)
  | it :: rest, snaps, T, ds, pan, σ =>
    match ops[it.i]? with
    | none => .error "runDraw"
    | some o =>
    if wantedA ops o T then
      if it.act then do
        if o.op.operands.toList.all fun x => bndA σ.n (evalO D T x) then do
          let r ← runOne D call round isRound o T ds pan σ
          match r with
          | .go T ds pan σ' => if σ.n ≤ σ'.n then runDraw D call round isRound ops rest (σ' :: snaps) T ds pan σ' else .error "runDraw n"
          | .panic .. => .error "panic in a drawn region"
        else .error "runDraw ids"
      else
        match clsD D o.op with
        | .pure => do
          let v ← pureOp D (evalO D T) o.op
          runDraw D call round isRound ops rest snaps (put T o.dst v) ds pan σ
        | .read => do
          let v ← readOp D σ (evalO D T) o.op
          if it.lo < snaps.length && (snaps.take (snaps.length - it.lo)).all (sameAt D T o.op v) then
            runDraw D call round isRound ops rest snaps (put T o.dst v) ds pan σ
          else .error "unstable read"
        | .alloc => do
          let (v, ob) ← allocOp D (evalO D T) o.op σ.n
          if bndO (σ.n + 1) ob then runDraw D call round isRound ops rest snaps (put T o.dst v) ds pan (σ.push ob) else .error "runDraw object"
        | .act => .error "runDraw"
    else
      runDraw D call round isRound ops rest (if it.act then σ :: snaps else snaps) (put T o.dst .undef) ds pan σ

/- the rest of a drawn region, in every order -/
structure ES where
  mask : Nat
  T : List AV
  n : Nat
  l : List AO

def stepE (D : Tab) (ops : Array Oper) (o : Oper) (T : List AV) (σ : St) : R (List AV × St) :=
  if wantedA ops o T then
    match clsD D o.op with
    | .pure => do
      let v ← pureOp D (evalO D T) o.op
      return (put T o.dst v, σ)
    | .read => do
      let v ← readOp D σ (evalO D T) o.op
      return (put T o.dst v, σ)
    | .act =>
      match o.op with
      | .store t a x => do
        let σ' ← storeV D σ t (evalO D T a) (evalO D T x)
        return (put T o.dst .undef, σ')
      | _ => .error "enum act"
    | .alloc => .error "enum alloc"
  else .ok (put T o.dst .undef, σ)

def insE (eqT : List AV → List AV → Bool) (eqH : List AO → List AO → Bool) (s : ES) : List ES → R (List ES)
  | [] => .ok [s]
  | x :: l =>
    bif Nat.beq x.mask s.mask then
      (bif eqT x.T s.T then bif Nat.beq x.n s.n then bif eqH x.l s.l then .ok (x :: l) else .error "enum heap" else .error "enum n" else .error "enum T")
    else
      match insE eqT eqH s l with
      | .ok l => .ok (x :: l)
      | .error e => .error e

def readyE (m mask : Nat) : List Edge → Bool
  | [] => true
  | e :: l => bif Region.binds .any e then bif Nat.blt e.on m then readyE m mask l else bif bitOf mask e.on then readyE m mask l else false else readyE m mask l

def canE (ops : Array Oper) (m mask i : Nat) : Bool :=
  bif bitOf mask i then false else
  match ops[i]? with
  | some o => readyE m mask o.after.toList
  | none => false

def expE (D : Tab) (eqT : List AV → List AV → Bool) (eqH : List AO → List AO → Bool) (ops : Array Oper) (m : Nat) (M : MTree) (s : ES) : List Nat → List ES → R (List ES)
  | [], acc => .ok acc
  | i :: is, acc =>
    bif canE ops m s.mask i then
      match ops[i]? with
      | none => .error "enum"
      | some o =>
        match stepE D ops o s.T { n := s.n, l := s.l, M := M } with
        | .ok r =>
          (match insE eqT eqH { mask := Nat.lor s.mask (Nat.shiftLeft 1 i), T := r.1, n := r.2.n, l := r.2.l } acc with
          | .ok acc => expE D eqT eqH ops m M s is acc
          | .error e => .error e)
        | .error e => .error e
    else expE D eqT eqH ops m M s is acc

def anyE (ops : Array Oper) (m mask : Nat) : List Nat → Bool
  | [] => false
  | i :: is => bif canE ops m mask i then true else anyE ops m mask is

def levE (D : Tab) (eqT : List AV → List AV → Bool) (eqH : List AO → List AO → Bool) (ops : Array Oper) (m : Nat) (M : MTree) (is : List Nat) : List ES → List ES → R (List ES)
  | [], acc => .ok acc
  | s :: fr, acc =>
    bif anyE ops m s.mask is then
      match expE D eqT eqH ops m M s is acc with
      | .ok acc => levE D eqT eqH ops m M is fr acc
      | .error e => .error e
    else .error "enum stuck"

def fullE (mask : Nat) : List Nat → Bool
  | [] => true
  | i :: is => bif bitOf mask i then fullE mask is else false

def enumE (D : Tab) (eqT : List AV → List AV → Bool) (eqH : List AO → List AO → Bool) (ops : Array Oper) (m : Nat) (M : MTree) (is : List Nat) : Nat → List ES → R ES
  | 0, fr =>
    (match fr with
    | [s] => bif fullE s.mask is then .ok s else .error "enum end"
    | _ => .error "enum end")
  | k + 1, fr =>
    match levE D eqT eqH ops m M is fr [] with
    | .ok fr => enumE D eqT eqH ops m M is k fr
    | .error e => .error e

/-- the operations behind the first m -/
def tailIx (ops : Array Oper) (m : Nat) : List Nat := (List.range ops.size).drop m

def runRest (D : Tab) (eqT : List AV → List AV → Bool) (eqH : List AO → List AO → Bool) (ops : Array Oper) (m : Nat) (T : List AV) (σ : St) : R (List AV × St) :=
  if ops.size ≤ m then .ok (T, σ) else
  match enumE D eqT eqH ops m σ.M (tailIx ops m) (ops.size - m) [{ mask := 0, T := T, n := σ.n, l := σ.l }] with
  | .ok s => .ok (s.T, { n := s.n, l := s.l, M := σ.M })
  | .error e => .error e

def runRegion (D : Tab) (call : CallT) (round : RoundT) (isRound : Bool) (ops : Array Oper) (draw : Bool) (T : List AV) (ds : List ADef) (pan : Pan) (σ : St) : R OpEnd :=
  if draw then
    if drawOk ops (D.cut ops) then do
      let r ← runDraw D call round isRound ops (planM ops (D.cut ops)) [σ] T ds pan σ
      match r with
      | .go T ds pan σ =>
        if ops.size = D.cut ops + 1 then
          if canE ops (D.cut ops) 0 (D.cut ops) then runSeq D call round isRound ops (ops.toList.drop (D.cut ops)) T ds pan σ else .error "last"
        else do
        let r ← runRest D beqL beqH ops (D.cut ops) T σ
        return .go r.1 ds pan r.2
      | .panic .. => .error "panic in a drawn region"
    else .error ("plan " ++ (ops[0]?.map (·.pos)).getD "")
  else runSeq D call round isRound ops ops.toList T ds pan σ

/- where to cut: a guess out of a table, by the region's length and the first and last targets -/
def dstCode : Option Tmp → Nat
  | none => 0
  | some d => Nat.succ d
def lastCode : List Oper → Nat
  | [] => 0
  | o :: l =>
    match l with
    | [] => dstCode o.dst
    | _ => lastCode l
def lenO : List Oper → Nat
  | [] => 0
  | _ :: l => Nat.succ (lenO l)
def cutIn (n a b : Nat) : List (Nat × Nat × Nat × Nat) → Nat
  | [] => n
  | (n', a', b', m) :: l => bif Nat.beq n n' then bif Nat.beq a a' then bif Nat.beq b b' then m else cutIn n a b l else cutIn n a b l else cutIn n a b l
def cutBy (tbl : List (Nat × Nat × Nat × Nat)) (ops : Array Oper) : Nat :=
  match ops.toList with
  | [] => 0
  | o :: l => cutIn (lenO (o :: l)) (dstCode o.dst) (lastCode (o :: l)) tbl

/-- a call of a function, which may panic, as the last operation: cut ahead of it -/
def isCallO : Option Oper → Bool
  | some o => match o.op with
    | .call c => match c.callee with
      | .builtin _ => false
      | _ => true
    | _ => false
  | none => false

/-- where to cut: a guess -/
def findCut0 (ops : Array Oper) : Nat → Nat
  | 0 => 0
  | m + 1 => if drawOk ops (m + 1) then m + 1 else findCut0 ops m

def findCut (ops : Array Oper) (n : Nat) : Nat :=
  if isCallO ops[ops.size - 1]? && decide (2 ≤ ops.size) && drawOk ops (ops.size - 1) && canE ops (ops.size - 1) 0 (ops.size - 1) then ops.size - 1 else findCut0 ops n

end Go.Dt
