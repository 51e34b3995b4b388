/-
  The deterministic reading, staged for the kernel: each piece of code becomes a closure once. No statement of this seat stands here.
-/
import Derived.Test.YtkpkmjanikkpoaaGreatDoorP07
import Derived.Test.YtkpkmjanikkpoaaGreatDoorP06
namespace Go.Dt

/-- temporaries: a tree of eight ways -/
inductive RT where
  | e
  | v (x : AV)
  | n (a0 a1 a2 a3 a4 a5 a6 a7 : RT)
structure GC where
  run : RT → AV
structure SC where
  run : AV → RT → RT
structure TC where
  run : RT → RT
structure VC where
  run : (RT → RT) → RT → RT
noncomputable def sel (i : Nat) : TC :=
  bif Nat.beq i 0 then ⟨fun t => RT.rec (motive := fun _ => RT) .e (fun _ => .e) (fun a _ _ _ _ _ _ _ _ _ _ _ _ _ _ _ => a) t⟩ else
  bif Nat.beq i 1 then ⟨fun t => RT.rec (motive := fun _ => RT) .e (fun _ => .e) (fun _ a _ _ _ _ _ _ _ _ _ _ _ _ _ _ => a) t⟩ else
  bif Nat.beq i 2 then ⟨fun t => RT.rec (motive := fun _ => RT) .e (fun _ => .e) (fun _ _ a _ _ _ _ _ _ _ _ _ _ _ _ _ => a) t⟩ else
  bif Nat.beq i 3 then ⟨fun t => RT.rec (motive := fun _ => RT) .e (fun _ => .e) (fun _ _ _ a _ _ _ _ _ _ _ _ _ _ _ _ => a) t⟩ else
  bif Nat.beq i 4 then ⟨fun t => RT.rec (motive := fun _ => RT) .e (fun _ => .e) (fun _ _ _ _ a _ _ _ _ _ _ _ _ _ _ _ => a) t⟩ else
  bif Nat.beq i 5 then ⟨fun t => RT.rec (motive := fun _ => RT) .e (fun _ => .e) (fun _ _ _ _ _ a _ _ _ _ _ _ _ _ _ _ => a) t⟩ else
  bif Nat.beq i 6 then ⟨fun t => RT.rec (motive := fun _ => RT) .e (fun _ => .e) (fun _ _ _ _ _ _ a _ _ _ _ _ _ _ _ _ => a) t⟩ else
  ⟨fun t => RT.rec (motive := fun _ => RT) .e (fun _ => .e) (fun _ _ _ _ _ _ _ a _ _ _ _ _ _ _ _ => a) t⟩
noncomputable def updN (i : Nat) : VC :=
  bif Nat.beq i 0 then ⟨fun g t => RT.rec (motive := fun _ => RT) (.n (g .e) .e .e .e .e .e .e .e) (fun _ => .n (g .e) .e .e .e .e .e .e .e) (fun a0 a1 a2 a3 a4 a5 a6 a7 _ _ _ _ _ _ _ _ => .n (g a0) a1 a2 a3 a4 a5 a6 a7) t⟩ else
  bif Nat.beq i 1 then ⟨fun g t => RT.rec (motive := fun _ => RT) (.n .e (g .e) .e .e .e .e .e .e) (fun _ => .n .e (g .e) .e .e .e .e .e .e) (fun a0 a1 a2 a3 a4 a5 a6 a7 _ _ _ _ _ _ _ _ => .n a0 (g a1) a2 a3 a4 a5 a6 a7) t⟩ else
  bif Nat.beq i 2 then ⟨fun g t => RT.rec (motive := fun _ => RT) (.n .e .e (g .e) .e .e .e .e .e) (fun _ => .n .e .e (g .e) .e .e .e .e .e) (fun a0 a1 a2 a3 a4 a5 a6 a7 _ _ _ _ _ _ _ _ => .n a0 a1 (g a2) a3 a4 a5 a6 a7) t⟩ else
  bif Nat.beq i 3 then ⟨fun g t => RT.rec (motive := fun _ => RT) (.n .e .e .e (g .e) .e .e .e .e) (fun _ => .n .e .e .e (g .e) .e .e .e .e) (fun a0 a1 a2 a3 a4 a5 a6 a7 _ _ _ _ _ _ _ _ => .n a0 a1 a2 (g a3) a4 a5 a6 a7) t⟩ else
  bif Nat.beq i 4 then ⟨fun g t => RT.rec (motive := fun _ => RT) (.n .e .e .e .e (g .e) .e .e .e) (fun _ => .n .e .e .e .e (g .e) .e .e .e) (fun a0 a1 a2 a3 a4 a5 a6 a7 _ _ _ _ _ _ _ _ => .n a0 a1 a2 a3 (g a4) a5 a6 a7) t⟩ else
  bif Nat.beq i 5 then ⟨fun g t => RT.rec (motive := fun _ => RT) (.n .e .e .e .e .e (g .e) .e .e) (fun _ => .n .e .e .e .e .e (g .e) .e .e) (fun a0 a1 a2 a3 a4 a5 a6 a7 _ _ _ _ _ _ _ _ => .n a0 a1 a2 a3 a4 (g a5) a6 a7) t⟩ else
  bif Nat.beq i 6 then ⟨fun g t => RT.rec (motive := fun _ => RT) (.n .e .e .e .e .e .e (g .e) .e) (fun _ => .n .e .e .e .e .e .e (g .e) .e) (fun a0 a1 a2 a3 a4 a5 a6 a7 _ _ _ _ _ _ _ _ => .n a0 a1 a2 a3 a4 a5 (g a6) a7) t⟩ else
  ⟨fun g t => RT.rec (motive := fun _ => RT) (.n .e .e .e .e .e .e .e (g .e)) (fun _ => .n .e .e .e .e .e .e .e (g .e)) (fun a0 a1 a2 a3 a4 a5 a6 a7 _ _ _ _ _ _ _ _ => .n a0 a1 a2 a3 a4 a5 a6 (g a7)) t⟩
noncomputable def gc (d : Nat) : Nat → GC :=
  Nat.rec (motive := fun _ => Nat → GC) (fun _ => ⟨fun t => RT.rec (motive := fun _ => AV) .undef (fun x => x) (fun _ _ _ _ _ _ _ _ _ _ _ _ _ _ _ _ => .undef) t⟩)
    (fun _ g k => ⟨fun t => (g (Nat.div k 8)).run ((sel (Nat.mod k 8)).run t)⟩) d
noncomputable def sc (d : Nat) : Nat → SC :=
  Nat.rec (motive := fun _ => Nat → SC) (fun _ => ⟨fun v _ => .v v⟩)
    (fun _ g k => ⟨fun v t => (updN (Nat.mod k 8)).run (fun t => (g (Nat.div k 8)).run v t) t⟩) d
/-- how deep the tree of n temporaries is -/
def depF : Nat → Nat → Nat → Nat
  | 0, d, _ => d
  | f + 1, d, m => bif Nat.ble m 1 then d else depF f (Nat.succ d) (Nat.div (Nat.add m 7) 8)
def dep (n : Nat) : Nat := depF n 0 n
noncomputable def getC (n k : Nat) : GC := bif Nat.blt k n then gc (dep n) k else ⟨fun _ => .undef⟩
noncomputable def setT (n k : Nat) : SC := bif Nat.blt k n then sc (dep n) k else ⟨fun _ T => T⟩

/-- operands -/
noncomputable def opd (D : Tab) (n : Nat) (x : Operand) : GC :=
  match x with
  | .tmp t => getC n t
  | .const v => ⟨fun _ => ofConst v⟩
  | .global g => bif Nat.blt g D.nglob then ⟨fun _ => .ptr g 0⟩ else ⟨fun _ => .base (.pointer (some ⟨g, 0, none⟩))⟩
  | .func f => ⟨fun _ => .func (.func f) [] []⟩

/-- where a value goes -/
noncomputable def putC (n : Nat) (d : Option Tmp) : SC :=
  match d with
  | none => ⟨fun _ T => T⟩
  | some d => setT n d

structure PC where
  run : RT → R AV
structure BC where
  run : AV → AV → R AV
structure UC where
  run : AV → R AV
structure LC where
  run : St → AV → R AV

noncomputable def IntKind.same (a b : IntKind) : Bool := Nat.beq (IntKind.ctorIdx a) (IntKind.ctorIdx b)

def wrapS (k : IntKind) (n : Int) : Int :=
  match n with
  | .ofNat m =>
    (match k with
    | .i64 => bif Nat.blt m 9223372036854775808 then .ofNat m else k.wrap (.ofNat m)
    | .u64 => bif Nat.blt m 18446744073709551616 then .ofNat m else k.wrap (.ofNat m)
    | .u8 => bif Nat.blt m 256 then .ofNat m else k.wrap (.ofNat m)
    | .i32 => bif Nat.blt m 2147483648 then .ofNat m else k.wrap (.ofNat m)
    | _ => k.wrap (.ofNat m))
  | .negSucc m =>
    (match k with
    | .i64 => bif Nat.blt m 9223372036854775808 then .negSucc m else k.wrap (.negSucc m)
    | _ => k.wrap (.negSucc m))

def ltI (a b : Int) : Bool :=
  match a with
  | .ofNat m => (match b with
    | .ofNat n => Nat.blt m n
    | .negSucc _ => false)
  | .negSucc m => (match b with
    | .ofNat _ => true
    | .negSucc n => Nat.blt n m)
def eqI (a b : Int) : Bool :=
  match a with
  | .ofNat m => (match b with
    | .ofNat n => Nat.beq m n
    | .negSucc _ => false)
  | .negSucc m => (match b with
    | .ofNat _ => false
    | .negSucc n => Nat.beq n m)

/-- an operation on two integers of one kind -/
noncomputable def intC (op : BinOp) : Option (IntKind → Int → Int → AV) :=
  match op with
  | .add => some fun k a b => .base (.int k (wrapS k (a + b)))
  | .sub => some fun k a b => .base (.int k (wrapS k (a - b)))
  | .mul => some fun k a b => .base (.int k (wrapS k (a * b)))
  | .eql => some fun _ a b => .base (.bool (eqI a b))
  | .neq => some fun _ a b => .base (.bool (not (eqI a b)))
  | .lss => some fun _ a b => .base (.bool (ltI a b))
  | .leq => some fun _ a b => .base (.bool (not (ltI b a)))
  | .gtr => some fun _ a b => .base (.bool (ltI b a))
  | .geq => some fun _ a b => .base (.bool (not (ltI a b)))
  | _ => none

noncomputable def binC (D : Tab) (op : BinOp) (t : Nat) (c : Bool) : BC :=
  match intC op with
  | some g => ⟨fun x y =>
      match x with
      | .base vx => (match vx with
        | .int k a => (match y with
          | .base vy => (match vy with
            | .int k' b => bif IntKind.same k k' then .ok (g k a b) else .error "kinds"
            | vy => binOp D op t (.base (.int k a)) (.base vy) c)
          | y => binOp D op t (.base (.int k a)) y c)
        | vx => binOp D op t (.base vx) y c)
      | x => binOp D op t x y c⟩
  | none => ⟨fun x y => binOp D op t x y c⟩

noncomputable def unC (op : UnOp) : UC :=
  match op with
  | .not => ⟨fun x =>
      match x with
      | .base v => (match v with
        | .bool b => .ok (.base (.bool (not b)))
        | v => unOp .not (.base v))
      | x => unOp .not x⟩
  | op => ⟨fun x => unOp op x⟩

noncomputable def fieldAddrC (D : Tab) (t f : Nat) : UC :=
  match fieldOf D t f with
  | .ok fd => (match size D fd.type with
    | .ok s => bif Nat.beq s 0 then ⟨fun x => fieldAddr D t x f⟩ else ⟨fun x =>
        match x with
        | .ptr b o => .ok (.ptr b (Nat.add o fd.offset))
        | _ => .error "fieldAddr"⟩
    | .error _ => ⟨fun x => fieldAddr D t x f⟩)
  | .error _ => ⟨fun x => fieldAddr D t x f⟩

noncomputable def indexAddrC (D : Tab) (t : Nat) : BC :=
  match und D t with
  | .ok d => (match d with
    | .array len elem => (match size D elem with
      | .ok s => ⟨fun x ix =>
          match x with
          | .ptr b o => (match ix with
            | .base v => (match v with
              | .int _ i => (match i with
                | .ofNat i => bif Nat.blt i len then .ok (.ptr b (Nat.add o (Nat.mul i s))) else .error "index"
                | .negSucc _ => .error "index")
              | v => indexAddr D t (.ptr b o) (.base v))
            | ix => indexAddr D t (.ptr b o) ix)
          | x => indexAddr D t x ix⟩
      | .error _ => ⟨fun x ix => indexAddr D t x ix⟩)
    | .slice elem => (match size D elem with
      | .ok s => ⟨fun x ix =>
          match x with
          | .slice b o len _ _ => (match ix with
            | .base v => (match v with
              | .int _ i => (match i with
                | .ofNat i => bif Nat.blt i len then .ok (.ptr b (Nat.add o (Nat.mul i s))) else .error "index"
                | .negSucc _ => .error "index")
              | v => indexAddr D t x (.base v))
            | ix => indexAddr D t x ix)
          | x => indexAddr D t x ix⟩
      | .error _ => ⟨fun x ix => indexAddr D t x ix⟩)
    | _ => ⟨fun x ix => indexAddr D t x ix⟩)
  | .error _ => ⟨fun x ix => indexAddr D t x ix⟩

noncomputable def nthL (l : List AV) : Nat → R AV :=
  List.rec (motive := fun _ => Nat → R AV) (fun _ => .error "load") (fun v _ ih i => bif Nat.beq i 0 then .ok v else ih (Nat.sub i 1)) l
noncomputable def nthO (l : List AO) : Nat → AO :=
  List.rec (motive := fun _ => Nat → AO) (fun _ => .gone) (fun v _ ih i => bif Nat.beq i 0 then v else ih (Nat.sub i 1)) l
noncomputable def setO (l : List AO) : Nat → AO → List AO :=
  List.rec (motive := fun _ => Nat → AO → List AO) (fun _ _ => []) (fun v l ih i o => bif Nat.beq i 0 then o :: l else v :: ih (Nat.sub i 1) o) l

noncomputable def lenL (l : List AV) : Nat := List.rec (motive := fun _ => Nat) 0 (fun _ _ ih => Nat.succ ih) l
noncomputable def dropS (l : List AV) : Nat → List AV :=
  List.rec (motive := fun _ => Nat → List AV) (fun _ => []) (fun v l ih o => bif Nat.beq o 0 then v :: l else ih (Nat.sub o 1)) l
noncomputable def grabS (l : List AV) : Nat → R (List AV) :=
  List.rec (motive := fun _ => Nat → R (List AV)) (fun k => bif Nat.beq k 0 then .ok [] else .error "takeN")
    (fun v _ ih k => bif Nat.beq k 0 then .ok [] else match ih (Nat.sub k 1) with | .ok l => .ok (v :: l) | .error e => .error e) l
noncomputable def grabAll (l : List AV) (k : Nat) : R (List AV) := bif Nat.beq (lenL l) k then .ok l else grabS l k
noncomputable def takeS (cs : List AV) (o k : Nat) : R (List AV) := bif Nat.beq o 0 then grabAll cs k else grabAll (dropS cs o) k

noncomputable def loadC (D : Tab) (t : Nat) : LC :=
  match und D t with
  | .ok d => bif isAggD d then (match size D t with
    | .ok k => ⟨fun σ a =>
      match a with
      | .ptr b o => (match σ with
        | ⟨n, l, _⟩ => bif Nat.blt b n then
          (match nthO l (Nat.sub (Nat.sub n 1) b) with
          | .cells cs _ _ _ => (match takeS cs o k with
            | .ok l => .ok (.agg l)
            | .error e => .error e)
          | _ => .error "cells") else .error "cells")
      | _ => .error "load pointer"⟩
    | .error _ => ⟨fun σ a => loadV D σ t a⟩) else ⟨fun σ a =>
      match a with
      | .ptr b o => (match σ with
        | ⟨n, l, _⟩ => bif Nat.blt b n then
          (match nthO l (Nat.sub (Nat.sub n 1) b) with
          | .cells cs _ _ _ => nthL cs o
          | _ => .error "cells") else .error "cells")
      | _ => .error "load pointer"⟩
  | .error _ => ⟨fun σ a => loadV D σ t a⟩

noncomputable def lenC (D : Tab) (t : Nat) : UC :=
  match und D t with
  | .ok d => (match d with
    | .slice _ => ⟨fun x =>
        match x with
        | .slice _ _ n _ _ => .ok (.base (.int .i64 (.ofNat n)))
        | x => lenV D t x⟩
    | _ => ⟨fun x => lenV D t x⟩)
  | .error _ => ⟨fun x => lenV D t x⟩

def nthE (l : List AV) (i : Nat) : R AV :=
  match l[i]? with
  | some x => .ok x
  | none => .error "extract"

noncomputable def pureC (D : Tab) (n : Nat) (op : Op) : PC :=
  match op with
  | .move x => ⟨fun T => .ok ((opd D n x).run T)⟩
  | .assign x => ⟨fun T => .ok ((opd D n x).run T)⟩
  | .pick c a b => ⟨fun T =>
      match (opd D n c).run T with
      | .base v => (match v with
        | .bool t => .ok (bif t then (opd D n a).run T else (opd D n b).run T)
        | _ => .error "bool")
      | _ => .error "bool"⟩
  | .binOp op t x y _ => ⟨fun T => (binC D op t (isConstO x || isConstO y)).run ((opd D n x).run T) ((opd D n y).run T)⟩
  | .unOp op _ x => ⟨fun T => (unC op).run ((opd D n x).run T)⟩
  | .fieldAddr t x f => ⟨fun T => (fieldAddrC D t f).run ((opd D n x).run T)⟩
  | .indexAddr t x ix => ⟨fun T => (indexAddrC D t).run ((opd D n x).run T) ((opd D n ix).run T)⟩
  | .extract t ix => ⟨fun T =>
      match (opd D n t).run T with
      | .tuple vs => nthE vs ix
      | _ => .error "extract"⟩
  | op => ⟨fun T => pureOp D (fun x => (opd D n x).run T) op⟩

structure RC where
  run : St → RT → R AV
noncomputable def readC (D : Tab) (n : Nat) (op : Op) : RC :=
  match op with
  | .load t a => ⟨fun σ T => (loadC D t).run σ ((opd D n a).run T)⟩
  | op => ⟨fun σ T => readOp D σ (fun x => (opd D n x).run T) op⟩

/-- one cell is written -/
noncomputable def setC (l : List AV) : Nat → AV → Option (List AV) :=
  List.rec (motive := fun _ => Nat → AV → Option (List AV)) (fun _ _ => none)
    (fun v l ih i x => bif Nat.beq i 0 then some (x :: l) else match ih (Nat.sub i 1) x with | some l' => some (v :: l') | none => none) l

structure WC where
  run : St → AV → AV → R St
noncomputable def storeC (D : Tab) (t : Nat) : WC :=
  match size D t with
  | .ok n => bif Nat.beq n 1 then ⟨fun σ a x =>
      bif x.oneCell then
        (match a with
        | .ptr b o => (match σ with
          | ⟨n, l, M⟩ => bif Nat.blt b n then
            (match nthO l (Nat.sub (Nat.sub n 1) b) with
            | .cells cs elem own sz => bif own then
                (match setC cs o x with
                | some cs => .ok ⟨n, setO l (Nat.sub (Nat.sub n 1) b) (.cells cs elem own sz), M⟩
                | none => .error "store") else .error "store"
            | _ => .error "store") else .error "store")
        | _ => .error "store pointer")
      else storeV D σ t a x⟩
    else ⟨fun σ a x => storeV D σ t a x⟩
  | .error _ => ⟨fun σ a x => storeV D σ t a x⟩

noncomputable def argsC (D : Tab) (n : Nat) (l : List Operand) (T : RT) : List AV :=
  List.rec (motive := fun _ => List AV) [] (fun x _ ih => (opd D n x).run T :: ih) l

structure AC where
  run : St → RT → R (ANext × St)

/-- a function that the model enters -/
def enters (D : Tab) (f : FuncId) : Bool :=
  match D.ext f with
  | some _ => false
  | none => match callFn D f [] with
    | .ok _ => true
    | .error _ => false

noncomputable def callC (D : Tab) (n : Nat) (c : Call) : AC :=
  match c.callee with
  | .value f => (match f with
    | .func f => bif enters D f then ⟨fun σ T => .ok (.enter f (argsC D n c.args.toList T), σ)⟩ else ⟨fun σ T => actOp D σ (fun x => (opd D n x).run T) (.call c)⟩
    | _ => ⟨fun σ T => actOp D σ (fun x => (opd D n x).run T) (.call c)⟩)
  | _ => ⟨fun σ T => actOp D σ (fun x => (opd D n x).run T) (.call c)⟩

noncomputable def actC (D : Tab) (n : Nat) (op : Op) : AC :=
  match op with
  | .store t a x => ⟨fun σ T =>
      match (storeC D t).run σ ((opd D n a).run T) ((opd D n x).run T) with
      | .ok σ => .ok (.skip, σ)
      | .error e => .error e⟩
  | .call c => callC D n c
  | op => ⟨fun σ T => actOp D σ (fun x => (opd D n x).run T) op⟩

/-- what comes behind an operation -/
abbrev Kont (ρ : Type) := RT → List ADef → Pan → St → R ρ
abbrev KPan (ρ : Type) := AV → RT → List ADef → Pan → St → R ρ

structure OC (ρ : Type) where
  run : CallT → RoundT → RT → List ADef → Pan → St → Kont ρ → KPan ρ → R ρ

noncomputable def nextC (ρ : Type) (isRound : Bool) (put : SC) (call : CallT) (round : RoundT) (nx : ANext) (T : RT) (ds : List ADef) (pan : Pan) (σ : St) (K : Kont ρ) (Kp : KPan ρ) : R ρ :=
  match nx with
  | .value v => K (put.run v T) ds pan σ
  | .skip => K (put.run .undef T) ds pan σ
  | .defer d => bif isRound then .error "defer in a round" else K (put.run .undef T) (d :: ds) pan σ
  | .recover => bif isRound then .error "recover in a round" else
    match pan with
    | some (v, false) => K (put.run v T) ds (some (v, true)) σ
    | _ => K (put.run (.base .nilIface) T) ds pan σ
  | .panic v => Kp v T ds pan σ
  | .enter f args =>
    (match call f args σ with
    | .ok r => (match r with
      | ⟨e, σ⟩ => (match e with
        | .ret v => K (put.run v T) ds pan σ
        | .panic v => Kp v T ds pan σ))
    | .error e => .error e)
  | .round l args =>
    (match round l args σ with
    | .ok r => (match r with
      | ⟨e, σ⟩ => (match e with
        | .ret v => K (put.run v T) ds pan σ
        | .panic v => Kp v T ds pan σ))
    | .error e => .error e)

noncomputable def oneC (ρ : Type) (D : Tab) (n : Nat) (isRound : Bool) (o : Oper) : OC ρ :=
  match clsD D o.op with
  | .pure => ⟨fun _ _ T ds pan σ K _ =>
      match (pureC D n o.op).run T with
      | .ok v => K ((putC n o.dst).run v T) ds pan σ
      | .error e => .error e⟩
  | .read => ⟨fun _ _ T ds pan σ K _ =>
      match (readC D n o.op).run σ T with
      | .ok v => K ((putC n o.dst).run v T) ds pan σ
      | .error e => .error e⟩
  | .alloc => ⟨fun _ _ T ds pan σ K _ =>
      match σ with
      | ⟨m, l, M⟩ =>
        (match allocOp D (fun x => (opd D n x).run T) o.op m with
        | .ok r => (match r with
          | ⟨v, ob⟩ => K ((putC n o.dst).run v T) ds pan ⟨Nat.succ m, ob :: l, M⟩)
        | .error e => .error e)⟩
  | .act => ⟨fun call round T ds pan σ K Kp =>
      match (actC D n o.op).run σ T with
      | .ok r => (match r with
        | ⟨nx, σ⟩ => nextC ρ isRound (putC n o.dst) call round nx T ds pan σ K Kp)
      | .error e => .error e⟩

/-- a guarded operation -/
noncomputable def guardC (n : Nat) (ops : Array Oper) (g : Option (Nat × Bool)) : Option (GC × Bool) :=
  match g with
  | none => none
  | some (j, want) =>
    match (ops[j]?).bind (·.dst) with
    | some d => some (getC n d, want)
    | none => some (⟨fun _ => .undef⟩, want)

def isB (v : AV) (want : Bool) : Bool :=
  match v with
  | .base v => (match v with
    | .bool b => bif b then want else not want
    | _ => false)
  | _ => false

noncomputable def seqC (ρ : Type) (D : Tab) (n : Nat) (isRound : Bool) (ops : Array Oper) (l : List Oper) : OC ρ :=
  List.rec (motive := fun _ => OC ρ) ⟨fun _ _ T ds pan σ K _ => K T ds pan σ⟩
    (fun o _ ih =>
      match guardC n ops o.guard with
      | none => ⟨fun call round T ds pan σ K Kp => (oneC ρ D n isRound o).run call round T ds pan σ (fun T ds pan σ => ih.run call round T ds pan σ K Kp) Kp⟩
      | some (g, want) => ⟨fun call round T ds pan σ K Kp =>
          bif isB (g.run T) want then (oneC ρ D n isRound o).run call round T ds pan σ (fun T ds pan σ => ih.run call round T ds pan σ K Kp) Kp
          else ih.run call round ((putC n o.dst).run .undef T) ds pan σ K Kp⟩) l

/- drawn regions -/
structure DC (ρ : Type) where
  run : CallT → RoundT → List St → RT → List ADef → Pan → St → Kont ρ → R ρ

def bndAll (n : Nat) (l : List AV) : Bool :=
  match l with
  | [] => true
  | v :: l => bif bndA n v then bndAll n l else false

noncomputable def eqBytes (a : List UInt8) : List UInt8 → Bool :=
  List.rec (motive := fun _ => List UInt8 → Bool) (fun b => match b with | [] => true | _ :: _ => false)
    (fun x _ ih b => match b with | [] => false | y :: b => bif Nat.beq x.toNat y.toNat then ih b else false) a

noncomputable def eqVS (a b : Value) : Bool :=
  match a with
  | .int k m => (match b with
    | .int k' n => bif IntKind.same k k' then eqI m n else false
    | _ => false)
  | .bool x => (match b with
    | .bool y => bif x then y else not y
    | _ => false)
  | a => beqBase a b

noncomputable def beqA0 (a b : AV) : Bool :=
  match a with
  | .base x => (match b with
    | .base y => eqVS x y
    | _ => false)
  | a => beqA a b
noncomputable def beqL0 (a : List AV) : List AV → Bool :=
  List.rec (motive := fun _ => List AV → Bool) (fun b => match b with | [] => true | _ :: _ => false)
    (fun x _ ih b => match b with | [] => false | y :: b => bif beqA0 x y then ih b else false) a
noncomputable def beqAS (a b : AV) : Bool :=
  match a with
  | .base x => (match b with
    | .base y => eqVS x y
    | _ => false)
  | .agg l => (match b with
    | .agg l' => beqL0 l l'
    | _ => false)
  | a => beqA a b
noncomputable def sameL (v : AV) (rd : St → R AV) : List St → Bool
  | [] => true
  | σ :: l =>
    match rd σ with
    | .ok v' => bif beqAS v' v then sameL v rd l else false
    | .error _ => false

noncomputable def beqLS (a : List AV) : List AV → Bool :=
  List.rec (motive := fun _ => List AV → Bool) (fun b => match b with | [] => true | _ :: _ => false)
    (fun x _ ih b => match b with | [] => false | y :: b => bif beqAS x y then ih b else false) a
noncomputable def beqOS (a b : AO) : Bool :=
  match a with
  | .cells cs e o s => (match b with
    | .cells cs' e' o' s' => bif Nat.beq e e' then bif (bif o then o' else not o') then bif Nat.beq s s' then beqLS cs cs' else false else false else false
    | _ => false)
  | .gone => (match b with
    | .gone => true
    | _ => false)
  | _ => false
noncomputable def beqHS (a : List AO) : List AO → Bool :=
  List.rec (motive := fun _ => List AO → Bool) (fun b => match b with | [] => true | _ :: _ => false)
    (fun x _ ih b => match b with | [] => false | y :: b => bif beqOS x y then ih b else false) a

/-- the list of the first temporaries -/
noncomputable def toL (n : Nat) (T : RT) : List AV := (List.range n).map fun k => (getC n k).run T

/-- values into the first temporaries -/
noncomputable def fillT (n : Nat) (l : List AV) : Nat → RT → RT :=
  List.rec (motive := fun _ => Nat → RT → RT) (fun _ T => T) (fun v _ ih i T => ih (Nat.succ i) ((setT n i).run v T)) l

noncomputable def itemC (ρ : Type) (D : Tab) (n : Nat) (isRound : Bool) (ops : Array Oper) (it : PlanItem) (ih : DC ρ) : DC ρ :=
  match ops[it.i]? with
  | none => ⟨fun _ _ _ _ _ _ _ _ => .error "runDraw"⟩
  | some o =>
    let go : DC ρ :=
      match it.act with
      | true => ⟨fun call round snaps T ds pan σ K =>
          bif bndAll σ.n (argsC D n o.op.operands.toList T) then
            (oneC ρ D n isRound o).run call round T ds pan σ (fun T ds pan σ' => bif Nat.ble σ.n σ'.n then ih.run call round (σ' :: snaps) T ds pan σ' K else .error "runDraw n")
              (fun _ _ _ _ _ => .error "panic in a drawn region")
          else .error "runDraw ids"⟩
      | false =>
        (match clsD D o.op with
        | .pure => ⟨fun call round snaps T ds pan σ K =>
            match (pureC D n o.op).run T with
            | .ok v => ih.run call round snaps ((putC n o.dst).run v T) ds pan σ K
            | .error e => .error e⟩
        | .read => ⟨fun call round snaps T ds pan σ K =>
            match (readC D n o.op).run σ T with
            | .ok v =>
              bif Nat.blt it.lo snaps.length then
                bif sameL v (fun σ => (readC D n o.op).run σ T) (snaps.take (Nat.sub snaps.length it.lo)) then ih.run call round snaps ((putC n o.dst).run v T) ds pan σ K else .error "unstable read"
              else .error "unstable read"
            | .error e => .error e⟩
        | .alloc => ⟨fun call round snaps T ds pan σ K =>
            match allocOp D (fun x => (opd D n x).run T) o.op σ.n with
            | .ok r => (match r with
              | ⟨v, ob⟩ => bif bndO (Nat.succ σ.n) ob then ih.run call round snaps ((putC n o.dst).run v T) ds pan (σ.push ob) K else .error "runDraw object")
            | .error e => .error e⟩
        | .act => ⟨fun _ _ _ _ _ _ _ _ => .error "runDraw"⟩)
    match guardC n ops o.guard with
    | none => go
    | some (g, want) => ⟨fun call round snaps T ds pan σ K =>
        bif isB (g.run T) want then go.run call round snaps T ds pan σ K
        else ih.run call round (bif it.act then σ :: snaps else snaps) ((putC n o.dst).run .undef T) ds pan σ K⟩

noncomputable def planC (ρ : Type) (D : Tab) (n : Nat) (isRound : Bool) (ops : Array Oper) (l : List PlanItem) : DC ρ :=
  List.rec (motive := fun _ => DC ρ) ⟨fun _ _ _ T ds pan σ K => K T ds pan σ⟩ (fun it _ ih => itemC ρ D n isRound ops it ih) l

noncomputable def restC (ρ : Type) (D : Tab) (n : Nat) (ops : Array Oper) (K : Kont ρ) : Kont ρ := fun T ds pan σ =>
  match runRest D beqLS beqHS ops (D.cut ops) (toL n T) σ with
  | .ok r => (match r with
    | ⟨L, σ⟩ => bif Nat.beq (lenL L) n then K (fillT n L 0 .e) ds pan σ else .error "rest")
  | .error e => .error e

noncomputable def regionC (ρ : Type) (D : Tab) (n : Nat) (isRound : Bool) (ops : Array Oper) (draw : Bool) : OC ρ :=
  match draw with
  | true => bif drawOkF ops (D.cut ops) then
      bif Nat.ble ops.toList.length (D.cut ops) then ⟨fun call round T ds pan σ K _ => (planC ρ D n isRound ops (keepF (D.cut ops) (planOf ops))).run call round [σ] T ds pan σ K⟩
      else bif Nat.beq ops.toList.length (Nat.succ (D.cut ops)) then
        bif canE ops (D.cut ops) 0 (D.cut ops) then ⟨fun call round T ds pan σ K Kp => (planC ρ D n isRound ops (keepF (D.cut ops) (planOf ops))).run call round [σ] T ds pan σ
          (fun T ds pan σ => (seqC ρ D n isRound ops (ops.toList.drop (D.cut ops))).run call round T ds pan σ K Kp)⟩
        else ⟨fun _ _ _ _ _ _ _ _ => .error "last"⟩
      else ⟨fun call round T ds pan σ K _ => (planC ρ D n isRound ops (keepF (D.cut ops) (planOf ops))).run call round [σ] T ds pan σ (restC ρ D n ops K)⟩
    else ⟨fun _ _ _ _ _ _ _ _ => .error "plan"⟩
  | false => seqC ρ D n isRound ops ops.toList

/- frames -/
abbrev Res := AEnd × Pan × St

structure FnsS where
  run : FuncId → Nat → Option Nat → RT → List AItem → List ADef → Pan → St → R Res
  finish : FuncId → Nat → RT → List ADef → Option AV → Pan → St → R Res
  endLoop : FuncId → Nat → Option Nat → RT → List AItem → List ADef → Nat → AEnd → Pan → St → R Res
  call : CallT
  round : RoundT

def goS (F : FnsS) (nx : ANext) (σ : St) : R (AEnd × St) :=
  match nx with
  | .enter f args => F.call f args σ
  | .round l args => F.round l args σ
  | _ => .error "goF"

def leaveS (F : FnsS) (fn n : Nat) (rd : Option Nat) (T : RT) (ds : List ADef) (jump : Option Code) (pan : Pan) (σ : St) : R Res :=
  match rd with
  | none =>
    (match jump with
    | none => F.finish fn n T ds none pan σ
    | some c => (match c with
      | .ret => F.finish fn n T ds none pan σ
      | _ => .error "leave"))
  | some l =>
    bif ds.isEmpty then
      (match getLoop σ l with
      | .ok r => .ok (.ret (boolV jump.isNone), pan, σ.set l (.loop { r with state := if jump.isNone then .ready else .done, pending := jump }))
      | .error e => .error e)
    else .error "defers in a round"

def panicS (F : FnsS) (fn n : Nat) (rd : Option Nat) (T : RT) (ds : List ADef) (v : AV) (pan : Pan) (σ : St) : R Res :=
  match rd with
  | none => F.finish fn n T ds (some v) pan σ
  | some _ => bif ds.isEmpty then .ok (.panic v, pan, σ) else .error "defers in a round"

structure CC where
  run : FnsS → FuncId → Nat → Option Nat → RT → List AItem → List ADef → Pan → St → R Res

noncomputable def codeC (D : Tab) (n : Nat) (isRound : Bool) (c : Code) : CC :=
  match c with
  | .ret => ⟨fun F fn n rd T _ ds pan σ => leaveS F fn n rd T ds (some .ret) pan σ⟩
  | .skip => ⟨fun F fn n rd T k ds pan σ => F.run fn n rd T k ds pan σ⟩
  | .label _ => ⟨fun F fn n rd T k ds pan σ => F.run fn n rd T k ds pan σ⟩
  | .seq a b => ⟨fun F fn n rd T k ds pan σ => F.run fn n rd T (.code a :: .code b :: k) ds pan σ⟩
  | .cond c x y => ⟨fun F fn n rd T k ds pan σ =>
      match (opd D n c).run T with
      | .base v => (match v with
        | .bool b => F.run fn n rd T (.code (bif b then x else y) :: k) ds pan σ
        | _ => .error "bool")
      | _ => .error "bool"⟩
  | .block id body => ⟨fun F fn n rd T k ds pan σ => F.run fn n rd T (.code body :: .inBlock id :: k) ds pan σ⟩
  | .loop body => ⟨fun F fn n rd T k ds pan σ => F.run fn n rd T (.code body :: .inLoop body :: k) ds pan σ⟩
  | .scope body => ⟨fun F fn n rd T k ds pan σ => F.run fn n rd T (.code body :: .inScope body :: k) ds pan σ⟩
  | .exit id => ⟨fun F fn n rd T k ds pan σ =>
      match exitTo id k with
      | some k => F.run fn n rd T k ds pan σ
      | none => leaveS F fn n rd T ds (some (.exit id)) pan σ⟩
  | .goto l => ⟨fun F fn n rd T k ds pan σ =>
      match gotoIn l k with
      | some k => F.run fn n rd T k ds pan σ
      | none => leaveS F fn n rd T ds (some (.goto l)) pan σ⟩
  | .region _ ops draw => ⟨fun F fn n' rd T k ds pan σ =>
      (regionC Res D n isRound ops draw).run F.call F.round T ds pan σ (fun T ds pan σ => F.run fn n' rd T k ds pan σ) (fun v T ds pan σ => panicS F fn n' rd T ds v pan σ)⟩
  | .rangeFunc f params assign body => ⟨fun F fn n rd T k ds pan σ =>
      match rd with
      | some l0 =>
        (match getLoop σ l0 with
        | .ok r0 =>
          (match callV D ((opd D n f).run T) [.yield σ.n] with
          | .ok nx =>
            (match goS F nx (σ.push (.loop { state := .ready, pending := none, fn := fn, T := toL n T, params := params.toList, assign, body, defers := r0.defers })) with
            | .ok r => (match r with
              | ⟨e, σ'⟩ => F.endLoop fn n rd T k ds σ.n e pan σ')
            | .error e => .error e)
          | .error e => .error e)
        | .error e => .error e)
      | none =>
        (match callV D ((opd D n f).run T) [.yield (σ.n + 1)] with
        | .ok nx =>
          (match goS F nx ((σ.push (.deferred (some []))).push (.loop { state := .ready, pending := none, fn := fn, T := toL n T, params := params.toList, assign, body, defers := σ.n })) with
          | .ok r => (match r with
            | ⟨e, σ'⟩ => F.endLoop fn n rd T k (.collected σ.n :: ds) (σ.n + 1) e pan σ')
          | .error e => .error e)
        | .error e => .error e)⟩
  | .refuse _ => ⟨fun _ _ _ _ _ _ _ _ _ => .error "refuse"⟩

noncomputable def runS (D : Tab) (F : FnsS) (fn n : Nat) (rd : Option Nat) (T : RT) (todo : List AItem) (ds : List ADef) (pan : Pan) (σ : St) : R Res :=
  match todo with
  | [] => leaveS F fn n rd T ds none pan σ
  | it :: k =>
    match it with
    | .code c => (codeC D n rd.isSome c).run F fn n rd T k ds pan σ
    | .inBlock _ => F.run fn n rd T k ds pan σ
    | .inScope _ => F.run fn n rd T k ds pan σ
    | .inLoop body => F.run fn n rd T (.code body :: .inLoop body :: k) ds pan σ
    | .beginRound =>
      match rd with
      | some l =>
        (match getLoop σ l with
        | .ok r => if r.state = .ready then F.run fn n rd T k ds pan (σ.set l (.loop { r with state := .busy })) else .error "beginRound"
        | .error e => .error e)
      | none => .error "beginRound"

def endLoopS (F : FnsS) (fn n : Nat) (rd : Option Nat) (T : RT) (todo : List AItem) (ds : List ADef) (l : Nat) (e : AEnd) (pan : Pan) (σ : St) : R Res :=
  match e with
  | .ret _ =>
    (match getLoop σ l with
    | .ok r =>
      if r.state = .busy then .error "endLoop busy" else
      (match r.pending with
      | none => F.run fn n rd T todo ds pan (σ.set l (.loop { r with state := .exhausted }))
      | some c => F.run fn n rd T (.code c :: todo) ds pan (σ.set l (.loop { r with state := .exhausted })))
    | .error e => .error e)
  | .panic v => panicS F fn n rd T ds v pan σ

structure EC where
  ok : Bool
  n : Nat
  todo : List AItem
/-- what a call enters -/
def enterC (D : Tab) (f : FuncId) : EC :=
  match D.func f with
  | some fn => (match fn.body with
    | some c => ⟨true, fn.ntmps, [.code c]⟩
    | none => ⟨false, 0, []⟩)
  | none => ⟨false, 0, []⟩

noncomputable def enterS (D : Tab) (F : FnsS) (f : FuncId) (args : List AV) (pan : Pan) (σ : St) : R Res :=
  match enterC D f with
  | ⟨ok, n, todo⟩ => bif ok then bif Nat.ble (lenL args) n then F.run f n none (fillT n args 0 .e) todo [] pan σ else .error "args" else .error "enter"

noncomputable def resultS (D : Tab) (n : Nat) (σ : St) (T : RT) (l : List ResultVar) : R (List AV) :=
  List.rec (motive := fun _ => R (List AV)) (.ok []) (fun x _ ih =>
    match x with
    | .tmp t => (match ih with
      | .ok r => .ok ((getC n t).run T :: r)
      | .error e => .error e)
    | .cell a t => (match (loadC D t).run σ ((getC n a).run T) with
      | .ok v => (match ih with
        | .ok r => .ok (v :: r)
        | .error e => .error e)
      | .error e => .error e)) l
def one1 (vs : List AV) : AV :=
  match vs with
  | [] => .tuple []
  | v :: l => (match l with
    | [] => v
    | w :: l => .tuple (v :: w :: l))
def resC (D : Tab) (f : FuncId) : Option (List ResultVar) :=
  match D.func f with
  | some fn => some fn.results.toList
  | none => none

noncomputable def finishS (D : Tab) (F : FnsS) (fn n : Nat) (T : RT) (ds : List ADef) (mode : Option AV) (pan : Pan) (σ : St) : R Res :=
  match ds with
  | [] =>
    (match mode with
    | none => (match resC D fn with
      | some l => (match resultS D n σ T l with
        | .ok vs => .ok (.ret (one1 vs), pan, σ)
        | .error e => .error e)
      | none => .error "results")
    | some v => .ok (.panic v, pan, σ))
  | d :: ds =>
    match d with
    | .collected r =>
      (match σ.get r with
      | .ok o => (match o with
        | .deferred (some calls) => F.finish fn n T (calls ++ ds) mode pan (σ.set r (.deferred none))
        | _ => .error "collected")
      | .error e => .error e)
    | .fn g cap args =>
      (match invokeT D g cap args with
      | .ok nx => (match nx with
        | .enter f args =>
          (match enterS D F f args (mode.map fun v => (v, false)) σ with
          | .ok r => (match r with
            | ⟨e, p, σ⟩ => (match e with
              | .ret _ => (match p with
                | some (v, false) => F.finish fn n T ds (some v) pan σ
                | _ => F.finish fn n T ds none pan σ)
              | .panic v => (match p with
                | none => F.finish fn n T ds (some v) pan σ
                | some _ => .error "panic in a deferred call while panicking")))
          | .error e => .error e)
        | _ => .error "deferred call")
      | .error e => .error e)

/- copies -/
noncomputable def allB (l : List AV) : Bool := List.rec (motive := fun _ => Bool) true (fun v _ ih => match v with | .base _ => ih | _ => false) l

noncomputable def capChkS (own : Bool) (cap : Option Nat) (o len sz : Nat) (cs : List AV) : Bool :=
  match cap with
  | none => bif own then Nat.beq (Nat.mod o sz) 0 else true
  | some c => bif Nat.blt 0 sz then bif Nat.ble len c then bif own then (bif Nat.ble (Nat.add o (Nat.mul c sz)) (lenL cs) then Nat.beq (Nat.mod o sz) 0 else false) else true else false else false

noncomputable def copyLS (f : AV → St → R (AV × St)) (l : List AV) : St → R (List AV × St) :=
  List.rec (motive := fun _ => St → R (List AV × St)) (fun dst => .ok ([], dst)) (fun x _ ih dst =>
    match f x dst with
    | .ok r => (match r with
      | ⟨x, dst⟩ => (match ih dst with
        | .ok r => (match r with
          | ⟨l, dst⟩ => .ok (x :: l, dst))
        | .error e => .error e))
    | .error e => .error e) l

noncomputable def copyAS (own : Bool) (src : St) (n : Nat) : AV → St → R (AV × St) :=
  Nat.rec (motive := fun _ => AV → St → R (AV × St)) (fun _ _ => .error "copy fuel") (fun n ih v dst =>
    let many : List AV → St → R (List AV × St) := fun l dst => bif Nat.beq n 0 then copyLS ih l dst else bif allB l then .ok (l, dst) else copyLS ih l dst
    match v with
    | .base v => .ok (.base v, dst)
    | .slice b o len cap sz =>
      (match src.getO b with
      | .cells cs elem ow sz' =>
        bif (bif own then bif ow then Nat.beq sz' sz else false else true) then
        bif capChkS own cap o len sz cs then
          (match takeS cs o (Nat.mul len sz) with
          | .ok l => (match many l dst with
            | .ok r => (match r with
              | ⟨l, dst⟩ => (match dst with
                | ⟨m, h, M⟩ => .ok (.slice m 0 len none sz, ⟨Nat.succ m, .cells l elem own sz :: h, M⟩)))
            | .error e => .error e)
          | .error e => .error e)
        else .error "copy not own"
        else .error "copy not own"
      | _ => .error "copy cells")
    | .iface t v =>
      (match ih v dst with
      | .ok r => (match r with
        | ⟨v, dst⟩ => .ok (.iface t v, dst))
      | .error e => .error e)
    | .agg l =>
      (match many l dst with
      | .ok r => (match r with
        | ⟨l, dst⟩ => .ok (.agg l, dst))
      | .error e => .error e)
    | .tuple l =>
      (match many l dst with
      | .ok r => (match r with
        | ⟨l, dst⟩ => .ok (.tuple l, dst))
      | .error e => .error e)
    | v => copyA own src (Nat.succ n) v dst) n

noncomputable def refsAS (src : St) (n : Nat) : AV → List Nat :=
  Nat.rec (motive := fun _ => AV → List Nat) (fun _ => []) (fun _ ih v =>
    let many : List AV → List Nat := fun l => bif allB l then [] else refsL ih l
    match v with
    | .base _ => []
    | .slice b o len _ sz =>
      (match src.getO b with
      | .cells cs _ _ _ => (match takeS cs o (Nat.mul len sz) with
        | .ok l => b :: many l
        | .error _ => b :: refsL ih ((cs.drop o).take (len * sz)))
      | _ => [])
    | .iface _ v => ih v
    | .agg l => many l
    | .tuple l => many l
    | _ => []) n

noncomputable def findS (f : FuncId) (args : List AV) (h : List AO) (M : List Memo) : Option Memo :=
  List.rec (motive := fun _ => Option Memo) none (fun m _ ih => bif Nat.beq m.f f then bif beqLS m.args args then bif beqHS m.heap h then some m else ih else ih else ih) M

noncomputable def pureS (D : Tab) (F : FnsS) (f : FuncId) (args : List AV) (σX : St) : R (Memo × MTree) :=
  match enterS D F f args none σX with
  | .ok r => (match r with
    | ⟨e, r⟩ => (match r with
      | ⟨_, σ2⟩ => (match e with
      | .ret v =>
        bif nodup (refsAS σ2 copyFuel v) then
          (match copyAS true σ2 copyFuel v (freshSt D .e) with
          | .ok r => (match r with
            | ⟨y, σY⟩ => (match σY with
              | ⟨_, hY, _⟩ => bif nodup (refsAS (bareSt .e hY) copyFuel y) then .ok ({ f, args, heap := σX.l, val := y, res := hY }, σ2.M) else .error "pure result shares"))
          | .error e => .error e)
        else .error "pure result shares"
      | .panic _ => .error "pure panics")))
  | .error e => .error e

noncomputable def memoS (m : Memo) (σ : St) : R (AEnd × St) :=
  match copyAS true (bareSt .e m.res) copyFuel m.val σ with
  | .ok r => (match r with
    | ⟨v, σ⟩ => .ok (.ret v, σ))
  | .error e => .error e

noncomputable def callS (D : Tab) (F : FnsS) (f : FuncId) (args : List AV) (σ : St) : R (AEnd × St) :=
  bif D.pure f then
    (match σ with
    | ⟨n, l, M⟩ =>
      (match copyLS (copyAS false ⟨n, l, M⟩ copyFuel) args (freshSt D M) with
      | .ok r => (match r with
        | ⟨args', σX⟩ => (match σX with
          | ⟨nX, hX, MX⟩ =>
          (match findS f args' hX (MX.get (pth f)) with
          | some m => memoS m ⟨n, l, M⟩
          | none => (match pureS D F f args' ⟨nX, hX, MX⟩ with
            | .ok r => (match r with
              | ⟨m, M'⟩ => memoS m ⟨n, l, M'.add m (pth f)⟩)
            | .error e => .error e))))
      | .error e => .error e))
  else
    (match enterS D F f args none σ with
    | .ok r => (match r with
      | ⟨e, r⟩ => (match r with
        | ⟨_, σ⟩ => .ok (e, σ)))
    | .error e => .error e)

noncomputable def paramsT (n : Nat) (l : List (Tmp × AV)) : RT → RT :=
  List.rec (motive := fun _ => RT → RT) (fun T => T) (fun p _ ih T => ih ((setT n p.1).run p.2 T)) l

noncomputable def roundS (D : Tab) (F : FnsS) (l : Nat) (args : List AV) (σ : St) : R (AEnd × St) :=
  match getLoop σ l with
  | .ok r =>
    (match D.func r.fn with
    | none => .error "round"
    | some _ =>
      if r.params.length = args.length then
        (match F.run r.fn (lenL r.T) (some l) (paramsT (lenL r.T) (r.params.zip args) (fillT (lenL r.T) r.T 0 .e)) [.code r.assign, .beginRound, .code r.body] [] none σ with
        | .ok r => (match r with
          | ⟨e, _, σ⟩ => .ok (e, σ))
        | .error e => .error e)
      else .error "yield number of arguments")
  | .error e => .error e

def noFnsS : FnsS where
  run := fun _ _ _ _ _ _ _ _ => .error "fuel"
  finish := fun _ _ _ _ _ _ _ => .error "fuel"
  endLoop := fun _ _ _ _ _ _ _ _ _ _ => .error "fuel"
  call := fun _ _ _ => .error "fuel"
  round := fun _ _ _ => .error "fuel"

noncomputable def nextFnsS (D : Tab) (F : FnsS) : FnsS where
  run := runS D F
  finish := finishS D F
  endLoop := endLoopS F
  call := callS D F
  round := roundS D F

noncomputable def fnsS (D : Tab) (n : Nat) : FnsS := Nat.rec (motive := fun _ => FnsS) noFnsS (fun _ F => nextFnsS D F) n

end Go.Dt
namespace Go.Dt

def cItem : AItem → Item
  | .code c => .code c
  | .inBlock id => .inBlock id
  | .inLoop b => .inLoop b
  | .inScope b => .inScope b
  | .beginRound => .beginRound

theorem exitTo_c (id : Nat) : ∀ k : List AItem, Go.exitTo id (k.map cItem) = (exitTo id k).map (List.map cItem)
  | [] => rfl
  | .inBlock id' :: k => by
    simp only [List.map_cons, cItem, Go.exitTo, exitTo]
    split
    · rfl
    · exact exitTo_c id k
  | .code c :: k => by simp only [List.map_cons, cItem, Go.exitTo, exitTo]; exact exitTo_c id k
  | .inLoop c :: k => by simp only [List.map_cons, cItem, Go.exitTo, exitTo]; exact exitTo_c id k
  | .inScope c :: k => by simp only [List.map_cons, cItem, Go.exitTo, exitTo]; exact exitTo_c id k
  | .beginRound :: k => by simp only [List.map_cons, cItem, Go.exitTo, exitTo]; exact exitTo_c id k
theorem gotoIn_c (l : Nat) : ∀ k : List AItem, Go.gotoIn l (k.map cItem) = (gotoIn l k).map (List.map cItem)
  | [] => rfl
  | .inScope c :: k => by
    simp only [List.map_cons, cItem, Go.gotoIn, gotoIn]
    cases h : findLabel c l with
    | none => simpa using gotoIn_c l k
    | some rest => simp [cItem]
  | .code c :: k => by simp only [List.map_cons, cItem, Go.gotoIn, gotoIn]; exact gotoIn_c l k
  | .inLoop c :: k => by simp only [List.map_cons, cItem, Go.gotoIn, gotoIn]; exact gotoIn_c l k
  | .inBlock c :: k => by simp only [List.map_cons, cItem, Go.gotoIn, gotoIn]; exact gotoIn_c l k
  | .beginRound :: k => by simp only [List.map_cons, cItem, Go.gotoIn, gotoIn]; exact gotoIn_c l k

section
variable {P : Program} {b : Frame} {T : Array Value} {ds : List Deferred} {k : List Item} {cs : List Frame} {w w' : World}

theorem step_on_skip : step P (lone (on b T ds (.code .skip :: k)) cs w) = .next (lone (on b T ds k) cs w) := step_lone_go (by simp [stepG, stepG.exec, on])
theorem step_on_label {l : Nat} : step P (lone (on b T ds (.code (.label l) :: k)) cs w) = .next (lone (on b T ds k) cs w) := step_lone_go (by simp [stepG, stepG.exec, on])
theorem step_on_inBlock {l : Nat} : step P (lone (on b T ds (.inBlock l :: k)) cs w) = .next (lone (on b T ds k) cs w) := step_lone_go (by simp [stepG, stepG.exec, on])
theorem step_on_inScope {c : Code} : step P (lone (on b T ds (.inScope c :: k)) cs w) = .next (lone (on b T ds k) cs w) := step_lone_go (by simp [stepG, stepG.exec, on])
theorem step_on_inLoop {c : Code} : step P (lone (on b T ds (.inLoop c :: k)) cs w) = .next (lone (on b T ds (.code c :: .inLoop c :: k)) cs w) := step_lone_go (by simp [stepG, stepG.exec, on])
theorem step_on_seq {x y : Code} : step P (lone (on b T ds (.code (.seq x y) :: k)) cs w) = .next (lone (on b T ds (.code x :: .code y :: k)) cs w) := step_lone_go (by simp [stepG, stepG.exec, on])
theorem step_on_block {id : Nat} {x : Code} : step P (lone (on b T ds (.code (.block id x) :: k)) cs w) = .next (lone (on b T ds (.code x :: .inBlock id :: k)) cs w) := step_lone_go (by simp [stepG, stepG.exec, on])
theorem step_on_loop {x : Code} : step P (lone (on b T ds (.code (.loop x) :: k)) cs w) = .next (lone (on b T ds (.code x :: .inLoop x :: k)) cs w) := step_lone_go (by simp [stepG, stepG.exec, on])
theorem step_on_scope {x : Code} : step P (lone (on b T ds (.code (.scope x) :: k)) cs w) = .next (lone (on b T ds (.code x :: .inScope x :: k)) cs w) := step_lone_go (by simp [stepG, stepG.exec, on])
theorem step_on_cond {c : Operand} {x y : Code} {t : Bool} (h : evT T c = .bool t) :
    step P (lone (on b T ds (.code (.cond c x y) :: k)) cs w) = .next (lone (on b T ds (.code (if t then x else y) :: k)) cs w) := step_lone_go (by
  have := congrFun (on_eval b T ds (.code (.cond c x y) :: k)) c
  simp only [on] at this
  simp [stepG, stepG.exec, on, this, h])
theorem step_on_exit {id : Nat} {k' : List Item} (h : Go.exitTo id k = some k') : step P (lone (on b T ds (.code (.exit id) :: k)) cs w) = .next (lone (on b T ds k') cs w) :=
  step_lone_go (by simp [stepG, stepG.exec, on, h])
theorem step_on_goto {id : Nat} {k' : List Item} (h : Go.gotoIn id k = some k') : step P (lone (on b T ds (.code (.goto id) :: k)) cs w) = .next (lone (on b T ds k') cs w) :=
  step_lone_go (by simp [stepG, stepG.exec, on, h])

/-- a frame that leaves -/
def unwinding (b : Frame) (T : Array Value) (ds : List Deferred) (todo : List Item) (mode : FrameMode) : Frame := { on b T ds todo with mode := mode }

theorem step_on_nil (hr : b.roundOf = none) : step P (lone (on b T ds []) cs w) = .next (lone (unwinding b T ds [] .returning) cs w) :=
  step_lone_go (by simp [stepG, stepG.exec, on, hr, unwinding])
theorem step_on_ret (hr : b.roundOf = none) : step P (lone (on b T ds (.code .ret :: k)) cs w) = .next (lone (unwinding b T ds (.code .ret :: k) .returning) cs w) :=
  step_lone_go (by simp [stepG, stepG.exec, on, hr, unwinding])

theorem step_round_nil {l : Nat} {c : Frame} {v : Value} (hr : b.roundOf = some l) (hk : b.kind = .normal) (h : (Instr.endRound l none).run P w = .ok v w') :
    step P (lone (on b T ds []) (c :: cs) w) = .next (lone (c.finish v) cs w') :=
  step_lone_go (by simp [stepG, stepG.exec, on, hr, h, doReturn, hk])
theorem step_round_ret {l : Nat} {c : Frame} {v : Value} (hr : b.roundOf = some l) (hk : b.kind = .normal) (h : (Instr.endRound l (some .ret)).run P w = .ok v w') :
    step P (lone (on b T ds (.code .ret :: k)) (c :: cs) w) = .next (lone (c.finish v) cs w') :=
  step_lone_go (by simp [stepG, stepG.exec, on, hr, h, doReturn, hk])
theorem step_round_exit {l id : Nat} {c : Frame} {v : Value} (hr : b.roundOf = some l) (hk : b.kind = .normal) (he : Go.exitTo id k = none) (h : (Instr.endRound l (some (.exit id))).run P w = .ok v w') :
    step P (lone (on b T ds (.code (.exit id) :: k)) (c :: cs) w) = .next (lone (c.finish v) cs w') :=
  step_lone_go (by simp [stepG, stepG.exec, on, hr, he, h, doReturn, hk])
theorem step_round_goto {l id : Nat} {c : Frame} {v : Value} (hr : b.roundOf = some l) (hk : b.kind = .normal) (he : Go.gotoIn id k = none) (h : (Instr.endRound l (some (.goto id))).run P w = .ok v w') :
    step P (lone (on b T ds (.code (.goto id) :: k)) (c :: cs) w) = .next (lone (c.finish v) cs w') :=
  step_lone_go (by simp [stepG, stepG.exec, on, hr, he, h, doReturn, hk])

theorem step_round_panic {c : Frame} {todo : List Item} {chain : List PanicEntry} {fn : Func} (hf : P.funcs[b.fn]? = some fn) :
    step P (lone (unwinding b T [] todo (.panicking chain)) (c :: cs) w) = .next (lone (c.raise chain) cs w) :=
  step_lone_go (by simp [stepG, unwind, unwinding, on, Frame.catches, hf])

theorem step_begin {l : Nat} (hr : b.roundOf = some l) (h : (Instr.beginRound l).run P w = .ok () w') :
    step P (lone (on b T ds (.beginRound :: k)) cs w) = .next (lone (on b T ds k) cs w') :=
  step_lone_go (by simp [stepG, stepG.exec, stepG.apply, on, hr, h, Frame.finish])

theorem step_endLoop {l : Nat} {j : Option Code} (h : (Instr.endLoop l).run P w = .ok j w') :
    step P (lone (on b T ds (.endRangeFunc l :: k)) cs w) = .next (lone (on b T ds ((j.map Item.code).toList ++ k)) cs w') :=
  step_lone_go (by simp [stepG, stepG.exec, on, h])

theorem step_collect {r : Nat} {args : Array Value} {todo : List Item} {mode : FrameMode} {calls : List Deferred} (hm : mode ≠ .run) (h : (Instr.takeDeferred r).run P w = .ok calls w') :
    step P (lone (unwinding b T ({ target := .collected r, args } :: ds) todo mode) cs w) = .next (lone (unwinding b T (calls ++ ds) todo mode) cs w') :=
  step_lone_go (by
    cases mode with
    | run => exact (hm rfl).elim
    | returning => simp [stepG, unwind, unwinding, on, h]
    | panicking c => simp [stepG, unwind, unwinding, on, h])

theorem step_deferred {fn : Fn} {cap args : Array Value} {todo : List Item} {mode : FrameMode} {f : FuncId} {as : Array Value} (hm : mode ≠ .run)
    (h : (invoke (.fn fn cap) args).run P w = .ok (.enter f as) w) :
    step P (lone (unwinding b T ({ target := .fn fn cap, args } :: ds) todo mode) cs w) = .next (lone (Frame.enter P f as .deferred) (unwinding b T ds todo mode :: cs) w) :=
  step_lone_go (by
    cases mode with
    | run => exact (hm rfl).elim
    | returning => simp [stepG, unwind, unwinding, on, h, callDeferred]
    | panicking c => simp [stepG, unwind, unwinding, on, h, callDeferred])

theorem step_range_func {f : Operand} {params : Array Tmp} {assign body : Code} {l : Nat} {mark : List Deferred} {g : FuncId} {as : Array Value}
    (h : (Instr.enterLoop b.fn T params assign body b.roundOf).run P w = .ok (l, mark) w')
    (hi : (do let d ← Deferred.ofValue (evT T f) #[.func (.yield l) #[] #[]]; invoke d.target d.args : Sem Next).run P w' = .ok (.enter g as) w') :
    step P (lone (on b T ds (.code (.rangeFunc f params assign body) :: k)) cs w) =
      .next (lone (Frame.enter P g as .normal) (on b T (mark ++ ds) (.inRangeFunc l :: k) :: cs) w') := by
  refine step_lone_go ?_
  have he : ({ b with tmps := T, defers := mark ++ ds, todo := .inRangeFunc l :: k, mode := .run } : Frame).eval = evT T := on_eval b T _ _
  have hi' : (do let d ← resolve (evT T) { callee := .value f, args := #[.const (.func (.yield l) #[] #[])], argTypes := #[] } 0; invoke d.target d.args : Sem Next).run P w' = .ok (.enter g as) w' := by
    simpa [resolve, evT] using hi
  simp [stepG, stepG.exec, on, h, stepG.apply, he, hi']

theorem step_range_round {f : Operand} {params : Array Tmp} {assign body : Code} {l l' : Nat} {mark : List Deferred} {g : FuncId} {tmps : Array Value} {as bd : Code}
    (h : (Instr.enterLoop b.fn T params assign body b.roundOf).run P w = .ok (l, mark) w')
    (hi : (do let d ← Deferred.ofValue (evT T f) #[.func (.yield l) #[] #[]]; invoke d.target d.args : Sem Next).run P w' = .ok (.round l' g tmps as bd) w') :
    step P (lone (on b T ds (.code (.rangeFunc f params assign body) :: k)) cs w) =
      .next (lone (Frame.round l' g tmps as bd .normal) (on b T (mark ++ ds) (.inRangeFunc l :: k) :: cs) w') := by
  refine step_lone_go ?_
  have he : ({ b with tmps := T, defers := mark ++ ds, todo := .inRangeFunc l :: k, mode := .run } : Frame).eval = evT T := on_eval b T _ _
  have hi' : (do let d ← resolve (evT T) { callee := .value f, args := #[.const (.func (.yield l) #[] #[])], argTypes := #[] } 0; invoke d.target d.args : Sem Next).run P w' = .ok (.round l' g tmps as bd) w' := by
    simpa [resolve, evT] using hi
  simp [stepG, stepG.exec, on, h, stepG.apply, he, hi']

end

/-- a deferred call has come back -/
def backTo (c : Frame) : Frame :=
  match c.mode with
  | .panicking ({ recovered := true, .. } :: older) =>
    match older.dropWhile (!·.goexit) with
    | [] => { c with mode := .returning }
    | rest => { c with mode := .panicking rest }
  | _ => c

theorem step_back {P : Program} {fr c : Frame} {cs : List Frame} {w : World} {v : Value} {fn : Func} (hm : fr.mode = .returning) (hd : fr.defers = []) (hk : fr.kind = .deferred)
    (hf : P.funcs[fr.fn]? = some fn) (hr : (results fn fr.tmps).run P w = .ok v w) : step P (lone fr (c :: cs) w) = .next (lone (backTo c) cs w) :=
  step_lone_go (by
    have key : ∀ c : Frame, (match c.mode with
        | .panicking ({ recovered := true, .. } :: older) =>
          match older.dropWhile (!·.goexit) with
          | [] => { c with mode := .returning }
          | rest => { c with mode := .panicking rest }
        | _ => c) = backTo c := fun c => rfl
    simp [stepG, unwind, doReturn, hm, hd, hk, hf, hr]
    unfold backTo
    cases hc : c.mode with
    | run => rfl
    | returning => rfl
    | panicking chain =>
      cases chain with
      | nil => rfl
      | cons e older =>
        obtain ⟨v, r, g⟩ := e
        cases r with
        | false => rfl
        | true => cases hh : List.dropWhile (fun x : PanicEntry => !x.goexit) older <;> simp [hh])

theorem step_raise {P : Program} {fr c : Frame} {cs : List Frame} {w : World} {chain : List PanicEntry} {fn : Func} (hm : fr.mode = .panicking chain) (hd : fr.defers = [])
    (hf : P.funcs[fr.fn]? = some fn) : step P (lone fr (c :: cs) w) = .next (lone (c.raise chain) cs w) :=
  step_lone_go (by simp [stepG, unwind, Frame.catches, hm, hd, hf])

end Go.Dt
namespace Go.Dt

section
variable {D : Tab} {P : Program}

def modeOf (ι : Nat → Loc) : Option AV → FrameMode
  | none => .returning
  | some v => .panicking [{ v := conc ι v, recovered := false }]

/-- a frame has ended -/
def Gone (P : Program) (X : Ctx) (b : Frame) (ι : Nat → Loc) (pan : Pan) (w : World) (e : AEnd) (m : Machine) : Prop :=
  match b.roundOf with
  | none => ∃ fr, Steps P m (lone fr (X.cs ι pan) w) ∧ fr.fn = b.fn ∧ fr.defers = [] ∧ fr.kind = b.kind ∧ ∃ fn, P.funcs[b.fn]? = some fn ∧
      match e with
      | .ret v => fr.mode = .returning ∧ (results fn fr.tmps).run P w = .ok (conc ι v) w
      | .panic v => fr.mode = .panicking [{ v := conc ι v, recovered := false }]
  | some _ => ∀ c cs, X.cs ι pan = c :: cs → Steps P m (lone (after c (concEnd ι e)) cs w)

theorem Gone.of_steps {X : Ctx} {b : Frame} {ι : Nat → Loc} {pan : Pan} {w : World} {e : AEnd} {m m' : Machine} (h : Steps P m m') (g : Gone P X b ι pan w e m') : Gone P X b ι pan w e m := by
  unfold Gone at *
  split
  · rename_i hr
    simp only [hr] at g
    obtain ⟨fr, hs, r⟩ := g
    exact ⟨fr, Steps.trans h hs, r⟩
  · rename_i hr
    simp only [hr] at g
    exact fun c cs hc => Steps.trans h (g c cs hc)

structure Base (P : Program) (X : Ctx) (b : Frame) (fr : AFr) (ι : Nat → Loc) (σ : St) : Prop where
  kind : b.kind = X.kind
  fn : b.fn = fr.fn
  round : b.roundOf = fr.round.map fun l => (ι l).block
  rnd : ∀ l, fr.round = some l → l < σ.n ∧ ∃ cs, X = .norm cs
  has : ∃ fn, P.funcs[b.fn]? = some fn

theorem Base.ext {X : Ctx} {b : Frame} {fr fr' : AFr} {ι ι' : Nat → Loc} {σ σ' : St} {w w' : World} (B : Base P X b fr ι σ) (E : Ext ι σ w ι' σ' w') (hf : fr'.fn = fr.fn) (hr : fr'.round = fr.round) :
    Base P X b fr' ι' σ' where
  kind := B.kind
  fn := B.fn.trans hf.symm
  round := by
    rw [B.round, hr]
    cases h : fr.round with
    | none => rfl
    | some l => simp [E.agree l (B.rnd l h).1]
  rnd := fun l h => by rw [hr] at h; exact ⟨Nat.lt_of_lt_of_le (B.rnd l h).1 E.n, (B.rnd l h).2⟩
  has := B.has

/-- what a frame leaves -/
def Out (D : Tab) (P : Program) (X : Ctx) (b : Frame) (ι : Nat → Loc) (σ : St) (w : World) (e : AEnd) (pan' : Pan) (σ' : St) (m : Machine) : Prop :=
  ∃ ι' w', Rep D ι' σ' w' ∧ Ext ι σ w ι' σ' w' ∧ idsEnd ι' (· < σ'.n) e ∧ idsPan ι' (· < σ'.n) pan' ∧ X.fits pan' ∧ Gone P X b ι' pan' w' e m

theorem Out.of_steps {X : Ctx} {b : Frame} {ι ι1 : Nat → Loc} {σ σ1 σ' : St} {w w1 : World} {e : AEnd} {pan' : Pan} {m m1 : Machine} (h : Steps P m m1) (E : Ext ι σ w ι1 σ1 w1)
    (o : Out D P X b ι1 σ1 w1 e pan' σ' m1) : Out D P X b ι σ w e pan' σ' m := by
  obtain ⟨ι', w', h1, h2, h3, h4, h5, h6⟩ := o
  exact ⟨ι', w', h1, E.trans h2, h3, h4, h5, h6.of_steps h⟩

def RunOK (D : Tab) (P : Program) (run : AFr → Pan → St → R (AEnd × Pan × St)) : Prop :=
  ∀ fr pan σ e pan' σ', run fr pan σ = .ok (e, pan', σ') → ∀ X b ι w, Base P X b fr ι σ → Rep D ι σ w → IdsF ι (· < σ.n) X fr.T fr.defers pan →
    Out D P X b ι σ w e pan' σ' (mach X b ι fr.T fr.defers pan (fr.todo.map cItem) w)

def FinOK (D : Tab) (P : Program) (finish : FuncId → List AV → List ADef → Option AV → Pan → St → R (AEnd × Pan × St)) : Prop :=
  ∀ f T ds mode pan σ e pan' σ', finish f T ds mode pan σ = .ok (e, pan', σ') → ∀ X b ι w todo, b.kind = X.kind → b.fn = f → b.roundOf = none → (∃ fn, P.funcs[b.fn]? = some fn) →
    Rep D ι σ w → IdsF ι (· < σ.n) X T ds pan → (∀ v, mode = some v → ids ι (· < σ.n) v) →
    Out D P X b ι σ w e pan' σ' (lone (unwinding b (concL ι T).toArray (ds.map (concDef ι)) todo (modeOf ι mode)) (X.cs ι pan) w)

def EndOK (D : Tab) (P : Program) (endLoop : AFr → Nat → AEnd → Pan → St → R (AEnd × Pan × St)) : Prop :=
  ∀ fr l en pan σ e pan' σ', endLoop fr l en pan σ = .ok (e, pan', σ') → ∀ X b ι w, Base P X b fr ι σ → Rep D ι σ w → IdsF ι (· < σ.n) X fr.T fr.defers pan → l < σ.n →
    idsEnd ι (· < σ.n) en →
    Out D P X b ι σ w e pan' σ' (lone (after (on b (concL ι fr.T).toArray (fr.defers.map (concDef ι)) (.inRangeFunc (ι l).block :: fr.todo.map cItem)) (concEnd ι en)) (X.cs ι pan) w)

structure FnsOK (D : Tab) (P : Program) (F : Fns) : Prop where
  run : RunOK D P F.run
  finish : FinOK D P F.finish
  endLoop : EndOK D P F.endLoop
  call : CallOK D P F.call
  round : RoundOK D P F.round

section loops
variable {ι : Nat → Loc} {σ : St} {w : World}

theorem getLoop_ok {l : Nat} {r : ALoop} (h : getLoop σ l = .ok r) : l < σ.n ∧ σ.getO l = .loop r := by
  unfold getLoop at h
  split at h
  · rename_i hl
    split at h
    · rename_i r' he
      simp at h
      subst h
      exact ⟨hl, he⟩
    · simp at h
  · simp at h

theorem loop_heap (R : Rep D ι σ w) {l : Nat} {r : ALoop} (h : getLoop σ l = .ok r) :
    w.heap[(ι l).block]? = some (.loop (concLoop ι r)) ∧ (ι l).shift = 0 ∧ idsL ι (· < σ.n) r.T ∧ r.defers < σ.n := by
  obtain ⟨h1, h2⟩ := getLoop_ok h
  have := R.obj l h1
  rw [h2] at this
  exact ⟨this.2.1, this.1, this.2.2.1, this.2.2.2⟩

theorem run_instrGet (R : Rep D ι σ w) {l : Nat} {r : ALoop} (h : getLoop σ l = .ok r) : (Instr.getLoop (ι l).block).run P w = .ok (concLoop ι r) w := by
  have := run_getObj P w (ι l).block _ (loop_heap R h).1 (by simp)
  simp only [Instr.getLoop, Sem.run_bind, this, Result.andThen_ok, Sem.run_pure]

theorem loop_set (R : Rep D ι σ w) {l : Nat} {r : ALoop} (h : getLoop σ l = .ok r) (r' : ALoop) (hT : r'.T = r.T) (hd : r'.defers = r.defers) :
    ∃ w', (setObj (ι l).block (.loop (concLoop ι r'))).run P w = .ok () w' ∧ Rep D ι (σ.set l (.loop r')) w' ∧ Ext ι σ w ι (σ.set l (.loop r')) w' := by
  obtain ⟨h1, h2⟩ := getLoop_ok h
  obtain ⟨hh, hs, hi, hdn⟩ := loop_heap R h
  have hlt : (ι l).block < w.heap.size := (Array.getElem?_eq_some_iff.1 hh).1
  have ho := only_setIf w (ι l).block (.loop (concLoop ι r'))
  have hset := R.set (o := .loop r') h1 (by rw [h2]; rfl) ho.size ho.other ho.os ⟨hs, heap_setIf w _ _ hlt, hT ▸ hi, hd ▸ hdn⟩
  exact ⟨_, run_setObj P w _ _ _ hh (by simp), hset.1, hset.2⟩

theorem run_endRound (R : Rep D ι σ w) {l : Nat} {r : ALoop} (h : getLoop σ l = .ok r) (jump : Option Code) :
    ∃ w', (Instr.endRound (ι l).block jump).run P w = .ok (.bool jump.isNone) w' ∧
      Rep D ι (σ.set l (.loop { r with state := if jump.isNone then .ready else .done, pending := jump })) w' ∧
      Ext ι σ w ι (σ.set l (.loop { r with state := if jump.isNone then .ready else .done, pending := jump })) w' := by
  obtain ⟨w', h1, h2, h3⟩ := loop_set (P := P) R h { r with state := if jump.isNone then .ready else .done, pending := jump } rfl rfl
  refine ⟨w', ?_, h2, h3⟩
  simp only [Instr.endRound, Sem.run_bind, run_instrGet R h, Result.andThen_ok, Sem.run_pure]
  simp only [concLoop] at h1 ⊢
  rw [h1]
  rfl

theorem run_beginRound (R : Rep D ι σ w) {l : Nat} {r : ALoop} (h : getLoop σ l = .ok r) (hs : r.state = .ready) :
    ∃ w', (Instr.beginRound (ι l).block).run P w = .ok () w' ∧ Rep D ι (σ.set l (.loop { r with state := .busy })) w' ∧ Ext ι σ w ι (σ.set l (.loop { r with state := .busy })) w' := by
  obtain ⟨w', h1, h2, h3⟩ := loop_set (P := P) R h { r with state := .busy } rfl rfl
  refine ⟨w', ?_, h2, h3⟩
  simp only [Instr.beginRound, Sem.run_bind, run_instrGet R h, Result.andThen_ok]
  simp only [concLoop] at h1 ⊢
  rw [h1]
  simp [hs]

theorem run_endLoop (R : Rep D ι σ w) {l : Nat} {r : ALoop} (h : getLoop σ l = .ok r) (hs : r.state ≠ .busy) :
    ∃ w', (Instr.endLoop (ι l).block).run P w = .ok r.pending w' ∧ Rep D ι (σ.set l (.loop { r with state := .exhausted })) w' ∧ Ext ι σ w ι (σ.set l (.loop { r with state := .exhausted })) w' := by
  obtain ⟨w', h1, h2, h3⟩ := loop_set (P := P) R h { r with state := .exhausted } rfl rfl
  refine ⟨w', ?_, h2, h3⟩
  simp only [Instr.endLoop, Sem.run_bind, run_instrGet R h, Result.andThen_ok]
  have : ((concLoop ι r).state == LoopState.busy) = false := by simpa [concLoop] using hs
  simp only [concLoop] at h1 this ⊢
  simp [this, h1]

theorem set_n (l : Nat) (o : AO) : (σ.set l o).n = σ.n := rfl
end loops

theorem leave_round {X : Ctx} {b : Frame} {fr : AFr} {ι : Nat → Loc} {σ σ' : St} {w : World} {pan pan' : Pan} {e : AEnd} {l : Nat} {jump : Option Code} {F : Fns} {m : Machine}
    (hl : fr.round = some l) (B : Base P X b fr ι σ) (Rp : Rep D ι σ w) (I : IdsF ι (· < σ.n) X fr.T fr.defers pan) (h : leaveF F fr jump pan σ = .ok (e, pan', σ'))
    (st : ∀ (c : Frame) (cs : List Frame) (v : Value) (w' : World), X.cs ι pan = c :: cs → (Instr.endRound (ι l).block jump).run P w = .ok v w' → Steps P m (lone (c.finish v) cs w')) :
    Out D P X b ι σ w e pan' σ' m := by
  simp only [leaveF, hl] at h
  split at h
  · simp only [bind_ok, pure_ok, Prod.mk.injEq] at h
    obtain ⟨r, hr, rfl, rfl, rfl⟩ := h
    obtain ⟨w', h1, h2, h3⟩ := run_endRound (P := P) Rp hr jump
    refine ⟨ι, w', h2, h3, trivial, I.pan, I.fit, ?_⟩
    unfold Gone
    have hb : b.roundOf = some (ι l).block := by rw [B.round, hl]; rfl
    simp only [hb]
    intro c cs hc
    simpa [concEnd, after, boolV, conc] using st c cs _ _ hc h1
  · simp at h

theorem panic_ok {F : Fns} (HF : FnsOK D P F) {X : Ctx} {b : Frame} {fr : AFr} {ι : Nat → Loc} {σ σ' : St} {w : World} {pan pan' : Pan} {e : AEnd} {v : AV} {todo : List Item}
    (B : Base P X b fr ι σ) (Rp : Rep D ι σ w) (I : IdsF ι (· < σ.n) X fr.T fr.defers pan) (hv : ids ι (· < σ.n) v) (h : panicF F fr v pan σ = .ok (e, pan', σ')) :
    Out D P X b ι σ w e pan' σ' (machP X b ι fr.T fr.defers pan todo v w) := by
  unfold panicF at h
  split at h
  · rename_i hr
    have hb : b.roundOf = none := by rw [B.round, hr]; rfl
    exact HF.finish _ _ _ _ _ _ _ _ _ h X b ι w todo B.kind B.fn hb B.has Rp I (by intro v' hv'; cases hv'; exact hv)
  · rename_i l hr
    split at h
    · rename_i hds
      simp at h
      obtain ⟨rfl, rfl, rfl⟩ := h
      have hb : b.roundOf = some (ι l).block := by rw [B.round, hr]; rfl
      refine ⟨ι, w, Rp, Ext.refl _ _ _, hv, I.pan, I.fit, ?_⟩
      unfold Gone
      simp only [hb]
      intro c cs hc
      obtain ⟨fn, hfn⟩ := B.has
      have hds' : fr.defers = [] := by simpa using hds
      have := step_round_panic (P := P) (b := b) (T := (concL ι fr.T).toArray) (c := c) (cs := cs) (w := w) (todo := todo) (chain := [{ v := conc ι v, recovered := false }]) hfn
      unfold machP
      rw [hc, hds']
      exact .one this
    · simp at h

theorem endLoop_ok {F : Fns} (HF : FnsOK D P F) : EndOK D P (endLoopF F) := by
  intro fr l en pan σ e pan' σ' h X b ι w B Rp I hl hen
  unfold endLoopF at h
  split at h
  · rename_i v
    simp only [bind_ok] at h
    obtain ⟨r, hr, h⟩ := h
    split at h
    · simp at h
    · rename_i hs
      obtain ⟨w1, h1, h2, h3⟩ := run_endLoop (P := P) Rp hr hs
      have hst : Steps P (lone (after (on b (concL ι fr.T).toArray (fr.defers.map (concDef ι)) (.inRangeFunc (ι l).block :: fr.todo.map cItem)) (concEnd ι (.ret v))) (X.cs ι pan) w)
          (lone (on b (concL ι fr.T).toArray (fr.defers.map (concDef ι)) ((r.pending.map Item.code).toList ++ fr.todo.map cItem)) (X.cs ι pan) w1) := .one (step_endLoop h1)
      refine Out.of_steps hst h3 ?_
      have I' : IdsF ι (· < (σ.set l (.loop { r with state := .exhausted })).n) X fr.T fr.defers pan := I
      split at h
      · rename_i hp
        have hp' : (r.pending.map Item.code).toList = [] := by rw [hp]; rfl
        rw [hp']
        exact HF.run _ _ _ _ _ _ h X b ι w1 (B.ext h3 rfl rfl) h2 I'
      · rename_i c hp
        have hp' : (r.pending.map Item.code).toList = [.code c] := by rw [hp]; rfl
        rw [hp']
        exact HF.run _ _ _ _ _ _ h X b ι w1 (B.ext h3 rfl rfl) h2 I'
  · rename_i v
    exact panic_ok HF B Rp I hen h

def resM (T : Array Value) : ResultVar → Sem Value
  | .tmp t => pure (T.getD t undef)
  | .cell a t => do loadVar t (← asAddr (T.getD a undef))

theorem resultV_ok (F : Fits D P) {ι : Nat → Loc} {σ : St} {w : World} (Rp : Rep D ι σ w) {T : List AV} (hT : idsL ι (· < σ.n) T) : ∀ (l : List ResultVar) (vs : List AV), resultV D σ T l = .ok vs →
    (l.mapM (resM (concL ι T).toArray)).run P w = .ok (concL ι vs) w ∧ idsL ι (· < σ.n) vs := by
  intro l
  induction l with
  | nil => intro vs h; simp [resultV] at h; subst h; simp [concL, idsL]
  | cons x l ih =>
    intro vs h
    cases x with
    | tmp t =>
      simp only [resultV, bind_ok, pure_ok] at h
      obtain ⟨r, h1, rfl⟩ := h
      obtain ⟨h2, h3⟩ := ih r h1
      refine ⟨?_, ?_, h3⟩
      · simp only [List.mapM_cons, Sem.run_bind, Sem.run_pure, Result.andThen_ok, h2, resM, getD_conc, concL]
      · have := evalO_ids (D := D) Rp Rp.glob_lt hT (.tmp t)
        simpa [evalO] using this
    | cell a t =>
      simp only [resultV, bind_ok, pure_ok] at h
      obtain ⟨v, hv, r, h1, rfl⟩ := h
      obtain ⟨h2, h3⟩ := ih r h1
      obtain ⟨h4, h5⟩ := run_loadV F Rp hv
      refine ⟨?_, h5, h3⟩
      have hp : ∃ b o, T.getD a .undef = .ptr b o := by
        unfold loadV at hv
        split at hv
        · rename_i b o hb
          exact ⟨b, o, hb⟩
        · simp at hv
      obtain ⟨b, o, hp⟩ := hp
      rw [hp] at h4
      simp only [Instr.loadAt, conc, Instr.sureAddr, Sem.run_bind, Sem.run_pure, Result.andThen_ok] at h4
      simp only [List.mapM_cons, Sem.run_bind, Sem.run_pure, Result.andThen_ok, resM, getD_conc, hp, conc, asAddr, h4, h2, concL]

theorem results_ok (F : Fits D P) {ι : Nat → Loc} {σ : St} {w : World} (Rp : Rep D ι σ w) {T : List AV} (hT : idsL ι (· < σ.n) T) {f : FuncId} {v : AV} (h : resultsV D σ f T = .ok v) :
    ∃ fn, P.funcs[f]? = some fn ∧ (results fn (concL ι T).toArray).run P w = .ok (conc ι v) w ∧ ids ι (· < σ.n) v := by
  unfold resultsV at h
  split at h
  · rename_i fn hfn
    simp only [bind_ok] at h
    obtain ⟨vs, hvs, h⟩ := h
    obtain ⟨h1, h2⟩ := resultV_ok F Rp hT _ _ hvs
    refine ⟨fn, F.func _ _ hfn, ?_, ?_⟩
    · have hm : results fn (concL ι T).toArray = (do let vs ← fn.results.mapM (resM (concL ι T).toArray); pure (if h : vs.size = 1 then vs[0] else .tuple vs) : Sem Value) := by
        unfold results
        congr
      rw [hm, Array.mapM_eq_mapM_toList]
      simp only [Sem.run_bind, Sem.run_map, h1, Result.andThen_ok]
      split at h
      · rename_i x
        simp at h; subst h
        simp [concL]
      · rename_i hne
        simp at h; subst h
        have : vs.length ≠ 1 := by
          intro e
          obtain ⟨x, hx⟩ := List.length_eq_one_iff.1 e
          exact hne x hx
        simp [this, conc]
    · split at h
      · rename_i x
        simp at h; subst h
        exact h2.1
      · simp at h; subst h
        exact h2
  · simp at h

end
end Go.Dt
