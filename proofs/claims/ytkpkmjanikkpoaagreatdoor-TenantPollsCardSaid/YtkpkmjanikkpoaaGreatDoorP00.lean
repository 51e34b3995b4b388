/-
  A deterministic reading of the model's code: values, the heap, and the operations. No statement of this seat stands here.
-/
import GoSem.Step
namespace Go.Dt

inductive AV where
  | base (v : Value)
  | ptr (b o : Nat)
  | slice (b o len : Nat) (cap : Option Nat) (sz : Nat)
  | sliceZ (b o0 l sz : Nat)
  | mapv (b : Nat)
  | func (fn : Fn) (first captured : List AV)
  | yield (l : Nat)
  | iface (t : TypeId) (v : AV)
  | agg (cs : List AV)
  | tuple (vs : List AV)
  deriving Inhabited

abbrev R (α : Type) := Except String α

def beqBase : Value → Value → Bool
  | .bool a, .bool b => a == b
  | .int k a, .int k' b => k == k' && a == b
  | .string ⟨⟨a⟩⟩, .string ⟨⟨b⟩⟩ => a == b
  | .pointer none, .pointer none => true
  | .slice none a b, .slice none c d => a == c && b == d
  | .map none, .map none => true
  | .nilFunc, .nilFunc => true
  | .nilIface, .nilIface => true
  | _, _ => false

def beqFn : Fn → Fn → Bool
  | .func f, .func g => f == g
  | _, _ => false

mutual
def beqA : AV → AV → Bool
  | .base a, .base b => beqBase a b
  | .ptr b o, .ptr b' o' => b == b' && o == o'
  | .slice b o l c s, .slice b' o' l' c' s' => b == b' && o == o' && l == l' && c == c' && s == s'
  | .sliceZ b o l s, .sliceZ b' o' l' s' => b == b' && o == o' && l == l' && s == s'
  | .mapv b, .mapv b' => b == b'
  | .func f a b, .func g a' b' => beqFn f g && beqL a a' && beqL b b'
  | .yield l, .yield l' => l == l'
  | .iface t v, .iface t' v' => t == t' && beqA v v'
  | .agg l, .agg l' => beqL l l'
  | .tuple l, .tuple l' => beqL l l'
  | _, _ => false
def beqL : List AV → List AV → Bool
  | [], [] => true
  | x :: xs, y :: ys => beqA x y && beqL xs ys
  | _, _ => false
end


def AV.undef : AV := .tuple []

def ofConst1 : Value → AV
  | .agg cs => .agg (cs.toList.map .base)
  | .tuple vs => .tuple (vs.toList.map .base)
  | v => .base v
def ofConst : Value → AV
  | .agg cs => .agg (cs.toList.map .base)
  | .tuple vs => .tuple (vs.toList.map ofConst1)
  | v => .base v

structure ALoop where
  state : LoopState
  pending : Option Code
  fn : FuncId
  T : List AV
  params : List Tmp
  assign : Code
  body : Code
  defers : Nat

inductive ADef where
  | fn (fn : Fn) (captured args : List AV)
  | collected (r : Nat)

inductive AO where
  | cells (cs : List AV) (elem : TypeId) (own : Bool) (sz : Nat)
  | map (es : List (AV × AV × Nat)) (clock : Nat)
  | striter (s : List UInt8) (pos : Nat)
  | mapiter (m : Option Nat) (since : Nat) (seen : List Nat) (stepped : Nat)
  | loop (l : ALoop)
  | deferred (calls : Option (List ADef))
  | gone

structure Memo where
  f : FuncId
  args : List AV
  heap : List AO
  val : AV
  res : List AO

/-- a place in a tree -/
inductive Pth where
  | z
  | l (p : Pth)
  | r (p : Pth)
def pthF : Nat → Nat → Pth
  | 0, _ => .z
  | n + 1, k => bif Nat.beq k 0 then .z else bif Nat.beq (Nat.mod k 2) 1 then .l (pthF n (Nat.div k 2)) else .r (pthF n (Nat.sub (Nat.div k 2) 1))
def pth (k : Nat) : Pth := pthF k k

/-- memos, by the function's number -/
inductive MTree where
  | e
  | n (l : List Memo) (a b : MTree)
def MTree.get : Pth → MTree → List Memo
  | _, .e => []
  | .z, .n l _ _ => l
  | .l p, .n _ a _ => MTree.get p a
  | .r p, .n _ _ b => MTree.get p b
def MTree.add (m : Memo) : Pth → MTree → MTree
  | .z, .e => .n [m] .e .e
  | .l p, .e => .n [] (MTree.add m p .e) .e
  | .r p, .e => .n [] .e (MTree.add m p .e)
  | .z, .n l a b => .n (m :: l) a b
  | .l p, .n l a b => .n l (MTree.add m p a) b
  | .r p, .n l a b => .n l a (MTree.add m p b)
def MTree.mem (m : Memo) : MTree → Prop
  | .e => False
  | .n l a b => m ∈ l ∨ MTree.mem m a ∨ MTree.mem m b

theorem MTree.mem_get {m : Memo} : ∀ (p : Pth) (t : MTree), m ∈ t.get p → t.mem m
  | _, .e, h => by simp [MTree.get] at h
  | .z, .n l a b, h => .inl h
  | .l p, .n l a b, h => .inr (.inl (MTree.mem_get p a h))
  | .r p, .n l a b, h => .inr (.inr (MTree.mem_get p b h))
theorem MTree.mem_add {m x : Memo} : ∀ (p : Pth) (t : MTree), (t.add x p).mem m → m = x ∨ t.mem m
  | .z, .e, h => by simpa [MTree.add, MTree.mem] using h
  | .l p, .e, h => by
    simp only [MTree.add, MTree.mem] at h
    rcases h with h | h | h
    · simp at h
    · rcases MTree.mem_add p .e h with h | h
      · exact .inl h
      · exact h.elim
    · exact h.elim
  | .r p, .e, h => by
    simp only [MTree.add, MTree.mem] at h
    rcases h with h | h | h
    · simp at h
    · exact h.elim
    · rcases MTree.mem_add p .e h with h | h
      · exact .inl h
      · exact h.elim
  | .z, .n l a b, h => by
    simp only [MTree.add, MTree.mem, List.mem_cons] at h ⊢
    rcases h with (h | h) | h
    · exact .inl h
    · exact .inr (.inl h)
    · exact .inr (.inr h)
  | .l p, .n l a b, h => by
    simp only [MTree.add, MTree.mem] at h ⊢
    rcases h with h | h | h
    · exact .inr (.inl h)
    · rcases MTree.mem_add p a h with h | h
      · exact .inl h
      · exact .inr (.inr (.inl h))
    · exact .inr (.inr (.inr h))
  | .r p, .n l a b, h => by
    simp only [MTree.add, MTree.mem] at h ⊢
    rcases h with h | h | h
    · exact .inr (.inl h)
    · exact .inr (.inr (.inl h))
    · rcases MTree.mem_add p b h with h | h
      · exact .inl h
      · exact .inr (.inr (.inr h))

structure St where
  n : Nat
  l : List AO
  M : MTree

def St.getO (σ : St) (b : Nat) : AO := if b < σ.n then (σ.l[σ.n - 1 - b]?).getD .gone else .gone
def St.get (σ : St) (b : Nat) : R AO := if b < σ.n then .ok (σ.getO b) else .error "get"
def St.set (σ : St) (b : Nat) (o : AO) : St := { σ with l := σ.l.set (σ.n - 1 - b) o }
def St.push (σ : St) (o : AO) : St := { σ with n := σ.n + 1, l := o :: σ.l }

/-- functions without a body that the reading knows: plain: a row that asks nothing but its arguments -/
inductive ExtKind where
  | atomicAdd64
  | atomicLoad64
  | same
  | noZero (ps rs : Array TypeId)
  | plain (f : Array Value → Sem Value)

def ExtKind.sem : ExtKind → Array Value → Sem Value
  | .atomicAdd64 => Extern.Atomic.update (Op.intArith .add) .i64 true
  | .atomicLoad64 => Extern.Atomic.loadT (.int .i64)
  | .same => Extern.AbiNoEscape.same
  | .noZero ps rs => Extern.BytealgMakeNoZero.makeNoZero ps rs
  | .plain f => f

def add64 : Array Value → Sem Value := match Extern.MathBitsCarry.rows with | (_, f) :: _ => f | [] => fun _ => .halt default
def sub64 : Array Value → Sem Value := match Extern.MathBitsCarry.rows with | _ :: (_, f) :: _ => f | _ => fun _ => .halt default

structure Tab where
  func : Nat → Option Func
  info : Nat → Option TypeInfo
  nglob : Nat
  pure : Nat → Bool
  eqOk : Nat → Bool
  ext : Nat → Option ExtKind
  cut : Array Oper → Nat
  memo : Memo → Prop

def inf (D : Tab) (t : Nat) : R TypeInfo := match D.info t with | some i => .ok i | none => .error "type"
def und (D : Tab) (t : Nat) : R TypeDesc :=
  match D.info t with
  | some i => match i.desc with
    | .named _ u => match D.info u with
      | some j => .ok j.desc
      | none => .error "und"
    | d => .ok d
  | none => .error "und"
def size (D : Tab) (t : Nat) : R Nat := match D.info t with | some i => .ok i.size | none => .error "size"
def zero (D : Tab) (t : Nat) : R AV :=
  match D.info t with
  | some i => match i.zero with
    | some v => .ok (ofConst v)
    | none => .error "zero"
  | none => .error "zero"

def isAggD : TypeDesc → Bool
  | .struct _ | .array _ _ => true
  | _ => false

def isIfaceD : TypeDesc → Bool
  | .interface _ => true
  | _ => false

def isIntD : TypeDesc → Bool
  | .int _ => true
  | _ => false

def evalO (D : Tab) (T : List AV) : Operand → AV
  | .tmp t => T.getD t .undef
  | .const v => ofConst v
  | .global g => if g < D.nglob then .ptr g 0 else .base (.pointer (some ⟨g, 0, none⟩))
  | .func f => .func (.func f) [] []

def AV.cells : AV → List AV
  | .agg cs => cs
  | .base (.agg cs) => cs.toList.map .base
  | v => [v]
def AV.oneCell : AV → Bool
  | .base (.agg _) | .base (.tuple _) | .agg _ | .tuple _ => false
  | _ => true

def cellsOf (σ : St) (b : Nat) : R (List AV) :=
  if b < σ.n then
    match σ.getO b with
    | .cells cs _ _ _ => .ok cs
    | _ => .error "cells"
  else .error "cells"

def takeN (cs : List AV) (o n : Nat) : R (List AV) :=
  if ((cs.drop o).take n).length = n then .ok ((cs.drop o).take n) else .error "takeN"

def loadV (D : Tab) (σ : St) (t : Nat) (a : AV) : R AV :=
  match a with
  | .ptr b o => do
    let cs ← cellsOf σ b
    let d ← und D t
    if isAggD d then do
      let n ← size D t
      let l ← takeN cs o n
      return .agg l
    else match cs[o]? with
      | some v => return v
      | none => .error "load"
  | _ => .error "load pointer"

def overwrite : List AV → List AV → List AV
  | _ :: cs, x :: l => x :: overwrite cs l
  | cs, [] => cs
  | [], _ => []
def splice : List AV → Nat → List AV → List AV
  | c :: cs, o + 1, l => c :: splice cs o l
  | cs, _, l => overwrite cs l

def storeCells (σ : St) (b o : Nat) (l : List AV) : R St :=
  match l with
  | [] => .ok σ
  | _ =>
  if b < σ.n then
    match σ.getO b with
    | .cells cs elem own sz =>
      if own && decide (o + l.length ≤ cs.length) && l.all AV.oneCell then .ok (σ.set b (.cells (splice cs o l) elem own sz))
      else .error "store"
    | _ => .error "store"
  else .error "store"

def storeV (D : Tab) (σ : St) (t : Nat) (a x : AV) : R St :=
  match a with
  | .ptr b o => do
    let n ← size D t
    if x.cells.length = n then storeCells σ b o x.cells else .error "store size"
  | _ => .error "store pointer"

def part (D : Tab) (t : Nat) (cs : List AV) (off : Nat) : R AV := do
  let d ← und D t
  if isAggD d then do
    let n ← size D t
    return .agg ((cs.drop off).take n)
  else match cs[off]? with
    | some v => return v
    | none => .error "part"

def asI : AV → R (IntKind × Int)
  | .base (.int k n) => .ok (k, n)
  | _ => .error "int"
def str (l : List UInt8) : AV := .base (.string ⟨⟨l⟩⟩)
def asB : AV → R Bool
  | .base (.bool b) => .ok b
  | _ => .error "bool"
def intV (k : IntKind) (n : Int) : AV := .base (.int k n)
def goI (n : Nat) : AV := .base (.int .i64 n)
def boolV (b : Bool) : AV := .base (.bool b)

def eqFields (D : Tab) (rec_ : Nat → AV → AV → R Bool) (xs ys : List AV) : List Field → R Bool
  | [] => .ok true
  | f :: fs =>
    if f.name = "_" then eqFields D rec_ xs ys fs else do
    let a ← part D f.type xs f.offset
    let b ← part D f.type ys f.offset
    let r ← rec_ f.type a b
    if r then eqFields D rec_ xs ys fs else return false
def eqElems (D : Tab) (rec_ : Nat → AV → AV → R Bool) (elem n : Nat) (xs ys : List AV) : Nat → Nat → R Bool
  | 0, _ => .ok true
  | m + 1, i => do
    let a ← part D elem xs (i * n)
    let b ← part D elem ys (i * n)
    let r ← rec_ elem a b
    if r then eqElems D rec_ elem n xs ys m (i + 1) else return false

def eqLeaf : TypeDesc → AV → AV → R Bool
  | .bool, .base (.bool a), .base (.bool b) => .ok (a == b)
  | .int _, .base (.int k a), .base (.int k' b) => if k = k' then .ok (a == b) else .error "eq kinds"
  | .string, .base (.string ⟨⟨a⟩⟩), .base (.string ⟨⟨b⟩⟩) => .ok (a == b)
  | .pointer _, .base (.pointer none), .base (.pointer none) => .ok true
  | .pointer _, .base (.pointer none), .ptr _ _ => .ok false
  | .pointer _, .ptr _ _, .base (.pointer none) => .ok false
  | .slice _, .base (.slice none _ _), .base (.slice none _ _) => .ok true
  | .slice _, .base (.slice none _ _), .slice _ _ _ _ _ => .ok false
  | .slice _, .base (.slice none _ _), .sliceZ _ _ _ _ => .ok false
  | .slice _, .slice _ _ _ _ _, .base (.slice none _ _) => .ok false
  | .slice _, .sliceZ _ _ _ _, .base (.slice none _ _) => .ok false
  | .func _ _ _, .base .nilFunc, .base .nilFunc => .ok true
  | .func _ _ _, .base .nilFunc, .func _ _ _ => .ok false
  | .func _ _ _, .func _ _ _, .base .nilFunc => .ok false
  | .interface _, .base .nilIface, .base .nilIface => .ok true
  | .interface _, .base .nilIface, .iface _ _ => .ok false
  | .interface _, .iface _ _, .base .nilIface => .ok false
  | _, _, _ => .error "eq"

def eqV (D : Tab) : Nat → Nat → AV → AV → R Bool
  | 0, _, _, _ => .error "eq depth"
  | d + 1, t, x, y => do
    let ty ← und D t
    match ty, x, y with
    | .struct fields, .agg xs, .agg ys => if D.eqOk t then eqFields D (eqV D d) xs ys fields.toList else .error "eq struct"
    | .array len elem, .agg xs, .agg ys => do
      let n ← size D elem
      eqElems D (eqV D d) elem n xs ys len 0
    | .pointer elem, .ptr b o, .ptr b' o' => do
      let n ← size D elem
      if b = b' ∧ n ≠ 0 then return o == o' else .error "eq pointers"
    | ty, x, y => eqLeaf ty x y

def guardFields (rec_ : Nat → Bool) : List Field → Bool
  | [] => true
  | f :: fs => (f.name == "_" || rec_ f.type) && guardFields rec_ fs
def guardFree (D : Tab) : Nat → Nat → Bool
  | 0, _ => false
  | d + 1, t =>
    match und D t with
    | .ok (.interface ms) => ms.isEmpty
    | .ok (.struct fs) => guardFields (guardFree D d) fs.toList
    | .ok (.array _ e) => guardFree D d e
    | .ok _ => true
    | .error _ => false

def intOp (op : BinOp) (k k' : IntKind) (a b : Int) : R AV :=
  match op with
  | .shl => if b < 0 then .error "shift" else .ok (intV k (k.wrap (a * 2 ^ (min b.toNat k.bits))))
  | .shr => if b < 0 then .error "shift" else .ok (intV k (a.fdiv (2 ^ (min b.toNat k.bits))))
  | op =>
  if k = k' then
    match op with
    | .add => .ok (intV k (k.wrap (a + b)))
    | .sub => .ok (intV k (k.wrap (a - b)))
    | .mul => .ok (intV k (k.wrap (a * b)))
    | .quo => if b = 0 then .error "div" else .ok (intV k (k.wrap (a.tdiv b)))
    | .rem => if b = 0 then .error "div" else .ok (intV k (a.tmod b))
    | .and => .ok (intV k (k.wrap (BitVec.ofInt k.bits a &&& BitVec.ofInt k.bits b).toNat))
    | .or => .ok (intV k (k.wrap (BitVec.ofInt k.bits a ||| BitVec.ofInt k.bits b).toNat))
    | .xor => .ok (intV k (k.wrap (BitVec.ofInt k.bits a ^^^ BitVec.ofInt k.bits b).toNat))
    | .andNot => .ok (intV k (k.wrap (BitVec.ofInt k.bits a &&& ~~~(BitVec.ofInt k.bits b)).toNat))
    | .eql => .ok (boolV (a == b))
    | .neq => .ok (boolV (a != b))
    | .lss => .ok (boolV (decide (a < b)))
    | .leq => .ok (boolV (decide (a ≤ b)))
    | .gtr => .ok (boolV (decide (a > b)))
    | .geq => .ok (boolV (decide (a ≥ b)))
    | _ => .error "int op"
  else .error "kinds"

def strOp (op : BinOp) (a b : List UInt8) : R AV :=
  match op with
  | .add => if a.length + b.length < 2 ^ 40 then .ok (str (a ++ b)) else .error "concat"
  | .eql => .ok (boolV (a == b))
  | .neq => .ok (boolV (!(a == b)))
  | .lss => .ok (boolV (Op.bytesLess a b))
  | .leq => .ok (boolV (Op.bytesLess a b || a == b))
  | .gtr => .ok (boolV (!(Op.bytesLess a b || a == b)))
  | .geq => .ok (boolV (!Op.bytesLess a b))
  | _ => .error "string op"

def eqOp (D : Tab) (op : BinOp) (t : Nat) (x y : AV) : R AV :=
  match op with
  | .eql => do return boolV (← eqV D 10 t x y)
  | .neq => do return boolV (!(← eqV D 10 t x y))
  | _ => .error "binOp"

def binOp (D : Tab) (op : BinOp) (t : Nat) (x y : AV) (c : Bool) : R AV :=
  match x, y with
  | .base (.int k a), .base (.int k' b) => intOp op k k' a b
  | .base (.string ⟨⟨a⟩⟩), .base (.string ⟨⟨b⟩⟩) => strOp op a b
  | .base .nilIface, .base .nilIface => if c then eqOp D op t (.base .nilIface) (.base .nilIface) else .error "nil ifaces"
  | .agg xs, .agg ys => if guardFree D 10 t then eqOp D op t (.agg xs) (.agg ys) else .error "guard"
  | .base (.bool a), .base (.bool b) => eqOp D op t (.base (.bool a)) (.base (.bool b))
  | .base (.slice none l c), y => eqOp D op t (.base (.slice none l c)) y
  | .slice b o n k s, .base (.slice none l c) => eqOp D op t (.slice b o n k s) (.base (.slice none l c))
  | .sliceZ b o n s, .base (.slice none l c) => eqOp D op t (.sliceZ b o n s) (.base (.slice none l c))
  | .base (.pointer none), .ptr b o => eqOp D op t (.base (.pointer none)) (.ptr b o)
  | .ptr b o, .base (.pointer none) => eqOp D op t (.ptr b o) (.base (.pointer none))
  | .base (.pointer none), .base (.pointer none) => eqOp D op t (.base (.pointer none)) (.base (.pointer none))
  | .ptr b o, .ptr b' o' => eqOp D op t (.ptr b o) (.ptr b' o')
  | .base .nilFunc, y => eqOp D op t (.base .nilFunc) y
  | .func f a b, .base .nilFunc => eqOp D op t (.func f a b) (.base .nilFunc)
  | .iface u v, .base .nilIface => eqOp D op t (.iface u v) (.base .nilIface)
  | .base .nilIface, .iface u v => eqOp D op t (.base .nilIface) (.iface u v)
  | _, _ => .error "binOp"

def unOp (op : UnOp) (x : AV) : R AV :=
  match op, x with
  | .neg, .base (.int k n) => .ok (intV k (k.wrap (0 - n)))
  | .not, .base (.bool b) => .ok (boolV (!b))
  | _, _ => .error "unOp"

def convertV (D : Tab) (src dst : Nat) (x : AV) : R AV := do
  let s ← und D src
  let d ← und D dst
  match s, d, x with
  | .int _, .int k, .base (.int _ n) => return intV k (k.wrap n)
  | .string, .string, .base (.string s) => return .base (.string s)
  | .int _, .string, .base (.int _ n) => return str (Utf8.encode n).data.toList
  | _, _, _ => .error "convert"

def fill (place : Nat → Option (Nat × Nat)) (cells : List AV) : List (Nat × AV) → R (List AV)
  | [] => .ok cells
  | (i, v) :: rest =>
    match place i with
    | none => .error "fill"
    | some (off, sz) =>
      if v.cells.length = sz ∧ off + v.cells.length ≤ cells.length then fill place (splice cells off v.cells) rest
      else .error "fill size"

def repeatL (z : List AV) : Nat → List AV
  | 0 => []
  | n + 1 => z ++ repeatL z n

def structPlaces (D : Tab) : List Field → R (List (Nat × Nat))
  | [] => .ok []
  | f :: fs => do
    let n ← size D f.type
    let l ← structPlaces D fs
    return (f.offset, n) :: l

def build (D : Tab) (t : Nat) (parts : List (Nat × AV)) : R AV := do
  let z ← zero D t
  let d ← und D t
  match d with
  | .struct fields => do
    let ps ← structPlaces D fields.toList
    let cs ← fill (fun i => ps[i]?) z.cells parts
    return .agg cs
  | .array _ elem => do
    let s ← size D elem
    let cs ← fill (fun i => some (i * s, s)) z.cells parts
    return .agg cs
  | _ => .error "build"

def sliceElem (D : Tab) (t : Nat) : R Nat := do
  let d ← und D t
  match d with
  | .slice e => return e
  | _ => .error "slice type"

/-- the zero cells of n elements -/
def zeroRow (D : Tab) (elem n : Nat) : R (List AV) := do
  let s ← size D elem
  if n * s = 0 then return [] else do
  let z ← zero D elem
  if z.cells.length = s then return repeatL z.cells n else .error "zeroRow"

def bound (x : AV) (y : Nat) : R Nat := do
  let (_, i) ← asI x
  if 0 ≤ i ∧ i ≤ y then return i.toNat else .error "bound"
def boundO (x : Option AV) (y d : Nat) : R Nat := match x with | some v => bound v y | none => .ok d

def sliceV (D : Tab) (t : Nat) (x : AV) (lo hi mx : Option AV) : R AV := do
  let d ← und D t
  match d, x with
  | .string, .base (.string ⟨⟨s⟩⟩) =>
    if mx.isSome then .error "slice3" else do
    let h ← boundO hi s.length s.length
    let l ← boundO lo h 0
    return str ((s.drop l).take (h - l))
  | .slice elem, .base (.slice none len cap) =>
    if mx.isSome && hi.isNone then .error "slice3" else do
    let _ ← size D elem
    let m ← boundO mx cap cap
    let h ← boundO hi m len
    let l ← boundO lo h 0
    return .base (.slice none (h - l) (m - l))
  | .slice elem, .slice b o len (some cap) sz =>
    if mx.isSome && hi.isNone then .error "slice3" else do
    let m ← boundO mx cap cap
    let h ← boundO hi m len
    let l ← boundO lo h 0
    let s ← size D elem
    if s = sz then return .slice b (if m = l then o else o + l * s) (h - l) (some (m - l)) sz else .error "slice sz"
  | .slice elem, .slice b o len none sz => do
    let s ← size D elem
    if s = sz ∧ 0 < sz then
      match mx with
      | some mv =>
        if hi.isNone then .error "slice3" else do
        let m ← bound mv len
        let h ← boundO hi m len
        let l ← boundO lo h 0
        return .slice b (if m = l then o else o + l * s) (h - l) (some (m - l)) sz
      | none => do
        let h ← boundO hi len len
        let l ← boundO lo h 0
        if l = 0 then return .slice b o h none sz
        else if l < len then return .slice b (o + l * s) (h - l) none sz
        else return .sliceZ b o l sz
    else .error "slice sz"
  | .array n elem, .ptr b o =>
    if mx.isSome && hi.isNone then .error "slice3" else do
    let m ← boundO mx n n
    let h ← boundO hi m n
    let l ← boundO lo h 0
    let s ← size D elem
    return .slice b (if m = l then o else o + l * s) (h - l) (some (m - l)) s
  | _, _ => .error "slice"

def indexAddr (D : Tab) (t : Nat) (x ix : AV) : R AV := do
  let (_, i) ← asI ix
  let d ← und D t
  match d, x with
  | .array len elem, .ptr b o => do
    let s ← size D elem
    if 0 ≤ i ∧ i < len then return .ptr b (o + i.toNat * s) else .error "index"
  | .slice elem, .slice b o len _ _ => do
    let s ← size D elem
    if 0 ≤ i ∧ i < len then return .ptr b (o + i.toNat * s) else .error "index"
  | _, _ => .error "indexAddr"

def indexV (D : Tab) (t : Nat) (x ix : AV) : R AV := do
  let (_, i) ← asI ix
  let d ← und D t
  match d, x with
  | .array len elem, .agg cs => do
    let s ← size D elem
    if 0 ≤ i ∧ i < len then part D elem cs (i.toNat * s) else .error "index"
  | .string, .base (.string ⟨⟨s⟩⟩) =>
    if 0 ≤ i then match s[i.toNat]? with
      | some b => return intV .u8 b.toNat
      | none => .error "index"
    else .error "index"
  | _, _ => .error "indexV"

def fieldOf (D : Tab) (t f : Nat) : R Field := do
  let d ← und D t
  match d with
  | .struct fields => match fields.toList[f]? with
    | some fd => return fd
    | none => .error "field"
  | _ => .error "field"

def fieldAddr (D : Tab) (t : Nat) (x : AV) (f : Nat) : R AV := do
  let fd ← fieldOf D t f
  let s ← size D fd.type
  match x with
  | .ptr b o => if s = 0 then .error "field of size 0" else return .ptr b (o + fd.offset)
  | _ => .error "fieldAddr"

def fieldV (D : Tab) (t : Nat) (x : AV) (f : Nat) : R AV := do
  let fd ← fieldOf D t f
  match x with
  | .agg cs => part D fd.type cs fd.offset
  | _ => .error "field"

def typeAssert (D : Tab) (x : AV) (asserted : Nat) (ok : Bool) : R AV := do
  let d ← und D asserted
  if isIfaceD d then .error "typeAssert" else
  match x with
  | .iface t v =>
    if t = asserted then return (if ok then .tuple [v, boolV true] else v)
    else if ok then do
      let z ← zero D asserted
      return .tuple [z, boolV false]
    else .error "typeAssert panics"
  | .base .nilIface =>
    if ok then do
      let z ← zero D asserted
      return .tuple [z, boolV false]
    else .error "typeAssert panics"
  | _ => .error "typeAssert"

def minMax (mx : Bool) : AV → List AV → R AV
  | x, [] => .ok x
  | .base (.int k a), .base (.int _ b) :: l => minMax mx (intV k (if mx then (if b > a then b else a) else (if b < a then b else a))) l
  | _, _ => .error "min max"

def lenV (D : Tab) (t : Nat) (x : AV) : R AV := do
  let d ← und D t
  match d, x with
  | .string, .base (.string ⟨⟨l⟩⟩) => return goI l.length
  | .array n _, _ => return goI n
  | .slice _, .slice _ _ n _ _ => return goI n
  | .slice _, .sliceZ _ _ _ _ => return goI 0
  | .slice _, .base (.slice _ n _) => return goI n
  | _, _ => .error "len"

def capV (D : Tab) (t : Nat) (x : AV) : R AV := do
  let d ← und D t
  match d, x with
  | .array n _, _ => return goI n
  | .slice _, .slice _ _ _ (some n) _ => return goI n
  | .slice _, .base (.slice _ _ n) => return goI n
  | _, _ => .error "cap"

inductive Cls where
  | pure | read | alloc | act
  deriving DecidableEq

def clsOf : Op → Cls
  | .move _ | .assign _ | .pick .. | .build .. | .nilCheck _ | .binOp .. | .unOp .. | .makeInterface ..
  | .makeFunc .. | .slice .. | .fieldAddr .. | .field .. | .indexAddr .. | .index .. | .typeAssert .. | .extract .. => .pure
  | .call { callee := .builtin .len, .. } | .call { callee := .builtin .cap, .. } | .call { callee := .builtin .min, .. } | .call { callee := .builtin .max, .. } => .pure
  | .load .. | .lookup .. | .convert .. => .read
  | .alloc _ | .box .. | .buildSlice .. | .makeMap .. | .makeSlice .. => .alloc
  | _ => .act

/-- a string to its bytes -/
def strBytesD (D : Tab) (s d : Nat) : Bool :=
  match und D s, und D d with
  | .ok .string, .ok (.slice el) => match und D el with
    | .ok (.int .u8) => true
    | _ => false
  | _, _ => false

/-- the class, the types seen: a string to its bytes draws and makes a block -/
def clsD (D : Tab) : Op → Cls
  | .convert s d _ => bif strBytesD D s d then .act else .read
  | op => clsOf op

def isConstO : Operand → Bool
  | .const _ => true
  | _ => false

/-- operations that ask nothing of memory -/
def pureOp (D : Tab) (e : Operand → AV) (op : Op) : R AV :=
  match op with
  | .move x | .assign x => .ok (e x)
  | .pick c a b => do
    let t ← asB (e c)
    return if t then e a else e b
  | .build t parts => build D t (parts.toList.map fun p => (p.1, e p.2))
  | .nilCheck x =>
    match e x with
    | .ptr b o => .ok (.ptr b o)
    | .func (.func f) a b => .ok (.func (.func f) a b)
    | .yield l => .ok (.yield l)
    | .iface t v => .ok (.iface t v)
    | _ => .error "nilCheck"
  | .binOp op t x y _ => binOp D op t (e x) (e y) (isConstO x || isConstO y)
  | .unOp op _ x => unOp op (e x)
  | .convert s d x => convertV D s d (e x)
  | .makeInterface t x => do
    let d ← und D t
    if isIfaceD d then .error "makeInterface" else return .iface t (e x)
  | .makeFunc fn first captured => .ok (.func fn (first.toList.map e) (captured.toList.map e))
  | .slice t x lo hi mx => sliceV D t (e x) (lo.map e) (hi.map e) (mx.map e)
  | .fieldAddr t x f => fieldAddr D t (e x) f
  | .field t x f => fieldV D t (e x) f
  | .indexAddr t x ix => indexAddr D t (e x) (e ix)
  | .index t x ix => indexV D t (e x) (e ix)
  | .typeAssert x _ t ok => typeAssert D (e x) t ok
  | .extract t ix =>
    match e t with
    | .tuple vs => match vs[ix]? with
      | some x => .ok x
      | none => .error "extract"
    | _ => .error "extract"
  | .call { callee := .builtin b, args, argTypes } =>
    match b, argTypes.toList, args.toList with
    | .len, t :: _, [x] => lenV D t (e x)
    | .cap, t :: _, [x] => capV D t (e x)
    | .min, _, x :: l => minMax false (e x) (l.map e)
    | .max, _, x :: l => minMax true (e x) (l.map e)
    | _, _, _ => .error "builtin"
  | _ => .error "no pure op"

def plainFields (rec_ : Nat → Bool) : List Field → Bool
  | [] => true
  | f :: fs => f.name != "_" && rec_ f.type && plainFields rec_ fs
def plainKey (D : Tab) : Nat → Nat → Bool
  | 0, _ => false
  | d + 1, t =>
    match und D t with
    | .ok .bool | .ok (.int _) | .ok .string => true
    | .ok (.struct fs) => plainFields (plainKey D d) fs.toList
    | .ok (.array _ e) => plainKey D d e
    | _ => false

def findKey (D : Tab) (t : Nat) (k : AV) : List (AV × AV × Nat) → Nat → R (Option (Nat × AV))
  | [], _ => .ok none
  | (k', v, _) :: es, i => do
    let r ← eqV D 10 t k k'
    if r then return some (i, v) else findKey D t k es (i + 1)

def mapOf (σ : St) (x : AV) : R (List (AV × AV × Nat) × Nat) :=
  match x with
  | .base (.map none) => .ok ([], 0)
  | .mapv b =>
    if b < σ.n then
      match σ.getO b with
      | .map es clock => .ok (es, clock)
      | _ => .error "map"
    else .error "map"
  | _ => .error "map"

def lookupV (D : Tab) (σ : St) (t : Nat) (x ix : AV) (ok : Bool) : R AV := do
  let d ← und D t
  match d with
  | .map key elem =>
    if plainKey D 10 key then do
      let (es, _) ← mapOf σ x
      let r ← eqV D 10 key ix ix
      if !r then .error "lookup" else do
      let r ← findKey D key ix es 0
      match r with
      | some (_, v) => return (if ok then .tuple [v, boolV true] else v)
      | none => do
        let z ← zero D elem
        return (if ok then .tuple [z, boolV false] else z)
    else .error "key type"
  | _ => .error "lookup"

def bytesL : List AV → R (List UInt8)
  | [] => .ok []
  | .base (.int .u8 n) :: l => do
    let r ← bytesL l
    return UInt8.ofNat n.toNat :: r
  | _ => .error "bytes"

/-- bytes to a string -/
def bytesV (D : Tab) (σ : St) (src dst : Nat) (x : AV) : R AV := do
  let s ← und D src
  let d ← und D dst
  match s, d with
  | .slice el, .string => do
    let et ← und D el
    match et, x with
    | .int .u8, .base (.slice none _ _) => return str []
    | .int .u8, .slice b o len _ _ => do
      let cs ← cellsOf σ b
      let l ← takeN cs o len
      let r ← bytesL l
      return str r
    | _, _ => .error "convert"
  | _, _ => .error "convert"

/-- a pointer to an unsafe.Pointer and back to a variable of its own type -/
def ptrV (D : Tab) (σ : St) (src dst : Nat) (x : AV) : R AV := do
  let s ← und D src
  let d ← und D dst
  match s, d, x with
  | .pointer t, .unsafePointer, .ptr b o => do
    let cs ← cellsOf σ b
    let n ← size D t
    if 0 < n ∧ o < cs.length then return .ptr b o else .error "convert pointer"
  | .unsafePointer, .pointer u, .ptr b o => do
    let sz ← size D u
    if b < σ.n then
      match σ.getO b with
      | .cells cs elem own szb =>
        if own && elem == u && szb == sz && decide (0 < sz) && o % sz == 0 && decide (o + sz ≤ cs.length) then return .ptr b o else .error "convert unsafe.Pointer"
      | _ => .error "convert"
    else .error "convert"
  | _, _, _ => .error "convert"

def convR (D : Tab) (σ : St) (src dst : Nat) (x : AV) : R AV :=
  match convertV D src dst x with
  | .ok v => .ok v
  | .error _ =>
    match bytesV D σ src dst x with
    | .ok v => .ok v
    | .error _ => ptrV D σ src dst x

/-- operations that read memory -/
def readOp (D : Tab) (σ : St) (e : Operand → AV) (op : Op) : R AV :=
  match op with
  | .load t a => loadV D σ t (e a)
  | .lookup t x ix ok => lookupV D σ t (e x) (e ix) ok
  | .convert s d x => convR D σ s d (e x)
  | _ => .error "no read op"

/-- operations that make one new block: it, and what names it -/
def allocOp (D : Tab) (e : Operand → AV) (op : Op) (b : Nat) : R (AV × AO) :=
  match op with
  | .alloc elem => do
    let z ← zero D elem
    let s ← size D elem
    return (.ptr b 0, .cells z.cells elem true s)
  | .box elem x => do
    let s ← size D elem
    return (.ptr b 0, .cells (e x).cells elem true s)
  | .buildSlice t len parts => do
    let elem ← sliceElem D t
    let s ← size D elem
    if len * s > 2 ^ 24 then .error "buildSlice" else do
    let z ← zeroRow D elem len
    let cells ← fill (fun i => some (i * s, s)) z (parts.toList.map fun p => (p.1, e p.2))
    return (.slice b 0 len (some len) s, .cells cells elem true s)
  | .makeMap t r =>
    match r with
    | none => .ok (.mapv b, .map [] 0)
    | some h => do
      let d ← und D t
      let _ ← asI (e h)
      match d with
      | .map _ _ => return (.mapv b, .map [] 0)
      | _ => .error "makeMap"
  | .makeSlice t l c => do
    let elem ← sliceElem D t
    let (_, l) ← asI (e l)
    let (_, c) ← asI (e c)
    let i ← inf D elem
    if 0 ≤ l ∧ l ≤ c ∧ c < 2 ^ 30 ∧ i.bytes < 2 ^ 16 then do
      let s ← size D elem
      let z ← zeroRow D elem c.toNat
      return (.slice b 0 l.toNat (some c.toNat) s, .cells z elem true s)
    else .error "makeSlice"
  | _ => .error "no alloc op"

inductive ANext where
  | value (v : AV)
  | skip
  | enter (f : FuncId) (args : List AV)
  | round (l : Nat) (args : List AV)
  | defer (d : ADef)
  | recover
  | panic (v : AV)

def plainBase : AV → Bool
  | .base (.bool _) | .base (.int _ _) | .base (.string _) => true
  | _ => false
def plainVal : AV → Bool
  | .agg cs => cs.all plainBase
  | v => plainBase v

def setVal (v : AV) : Nat → List (AV × AV × Nat) → List (AV × AV × Nat)
  | _, [] => []
  | 0, (k, _, b) :: es => (k, v, b) :: es
  | i + 1, e :: es => e :: setVal v i es

def mapUpdate (D : Tab) (σ : St) (t : Nat) (m k v : AV) : R St := do
  let d ← und D t
  match d, m with
  | .map key _, .mapv b =>
    if plainKey D 10 key then do
      let (es, clock) ← mapOf σ m
      let r ← eqV D 10 key k k
      if !r then .error "mapUpdate" else do
      let r ← findKey D key k es 0
      match r with
      | some (i, _) =>
        if plainVal k && (match es[i]? with | some e => beqA e.1 k | none => false) then return σ.set b (.map (setVal v i es) clock) else .error "mapUpdate key"
      | none => return σ.set b (.map (es ++ [(k, v, clock)]) (clock + 1))
    else .error "key type"
  | _, _ => .error "mapUpdate"

def rangeV (D : Tab) (σ : St) (t : Nat) (x : AV) : R (AV × St) := do
  let d ← und D t
  match d, x with
  | .string, .base (.string ⟨⟨s⟩⟩) => return (.ptr σ.n 0, σ.push (.striter s 0))
  | .map _ _, .base (.map none) => return (.ptr σ.n 0, σ.push (.mapiter none 0 [] 0))
  | .map _ _, .mapv m => do
    let (_, clock) ← mapOf σ (.mapv m)
    return (.ptr σ.n 0, σ.push (.mapiter (some m) clock [] clock))
  | _, _ => .error "range"

def nextV (σ : St) (it : AV) (isString : Bool) : R (AV × St) :=
  match it with
  | .ptr r 0 => do
    let o ← σ.get r
    match o, isString with
    | .striter s pos, true =>
      if pos < s.length then
        return (.tuple [boolV true, goI pos, intV .i32 (Utf8.decode ⟨⟨s⟩⟩ pos).1], σ.set r (.striter s (pos + (Utf8.decode ⟨⟨s⟩⟩ pos).2)))
      else return (.tuple [boolV false], σ)
    | .mapiter none _ _ _, false => return (.tuple [boolV false], σ)
    | .mapiter (some m) since seen last, false => do
      let (es, clock) ← mapOf σ (.mapv m)
      if !seen.isEmpty && !es.isEmpty && es.all (fun e => decide (e.2.2 ≥ last)) then .error "next gone" else
      match (es.filter fun e => !seen.contains e.2.2).filter (fun e => decide (e.2.2 < since)), (es.filter fun e => !seen.contains e.2.2).filter (fun e => decide (e.2.2 ≥ since)) with
      | [], [] => return (.tuple [boolV false], σ)
      | [e], [] => return (.tuple [boolV true, e.1, e.2.1], σ.set r (.mapiter (some m) since (seen ++ [e.2.2]) clock))
      | _, _ => .error "next several candidates"
    | _, _ => .error "next"
  | _ => .error "next"

def entryV (σ : St) (it : AV) : R AV :=
  match it with
  | .ptr r 0 => do
    let o ← σ.get r
    match o with
    | .mapiter (some m) _ seen stepped => do
      let (es, clock) ← mapOf σ (.mapv m)
      if clock = stepped then
        match seen.getLast? with
        | some stamp => match es.find? (fun x => x.2.2 == stamp) with
          | some x => return .tuple [x.1, x.2.1]
          | none => .error "entry removed"
        | none => .error "entry"
      else .error "entry"
    | _ => .error "entry"
  | _ => .error "entry"

def srcCells (σ : St) (sz : Nat) (x : AV) : R (List AV × Nat) :=
  match x with
  | .base (.slice none 0 _) => .ok ([], 0)
  | .sliceZ _ _ _ _ => .ok ([], 0)
  | .base (.string ⟨⟨l⟩⟩) => if sz = 1 then .ok (l.map fun c => intV .u8 c.toNat, l.length) else .error "source"
  | .slice b o len _ _ => do
    let cs ← cellsOf σ b
    let l ← takeN cs o (len * sz)
    return (l, len)
  | _ => .error "source"

def appendV (D : Tab) (σ : St) (sT xT : Nat) (s x : AV) : R (AV × St) := do
  let elem ← sliceElem D sT
  let sz ← size D elem
  let i ← inf D elem
  let xd ← und D xT
  let z ← zero D elem
  let (new, n) ← srcCells σ sz x
  if !(decide (n < 2 ^ 30) && decide (0 < i.bytes ∧ i.bytes < 2 ^ 14 ∧ 0 < sz) && !isIntD xd && z.cells.length == sz) then .error "append n" else
  match s with
  | .base (.slice none 0 0) =>
    if n = 0 then return (s, σ)
    else return (.slice σ.n 0 n none sz, σ.push (.cells new elem true sz))
  | .slice b o len cap sz' =>
    if !(decide (len + n < 2 ^ 30) && sz' == sz) then .error "append need" else do
    let cs ← cellsOf σ b
    let old ← takeN cs o (len * sz)
    match cap with
    | some c =>
      if len + n ≤ c then do
        let σ' ← storeCells σ b (o + len * sz) new
        return (.slice b o (len + n) cap sz, σ')
      else return (.slice σ.n 0 (len + n) none sz, σ.push (.cells (old ++ new) elem true sz))
    | none =>
      match σ.getO b with
      | .cells _ elem' own szb =>
        if !(elem' == elem && own && szb == sz && o % sz == 0) then .error "append not own" else
        if !(new.all AV.oneCell) then .error "append cells"
        else return (.slice σ.n 0 (len + n) none sz, (σ.set b .gone).push (.cells (old ++ new) elem true sz))
      | _ => .error "append block"
  | _ => .error "append"

def copyV (D : Tab) (σ : St) (dT : Nat) (dst src : AV) : R (AV × St) := do
  let elem ← sliceElem D dT
  let sz ← size D elem
  match dst with
  | .slice b o dlen _ _ => do
    let (new, n) ← srcCells σ sz src
    let σ' ← storeCells σ b o (new.take (min n dlen * sz))
    return (goI (min n dlen), σ')
  | _ => .error "copy"

def clearV (D : Tab) (σ : St) (t : Nat) (x : AV) : R (AV × St) := do
  let elem ← sliceElem D t
  match x with
  | .base (.slice none _ _) => return (.undef, σ)
  | .slice b o n _ _ => do
    let z ← zero D elem
    let σ' ← storeCells σ b o (repeatL z.cells n)
    return (.undef, σ')
  | _ => .error "clear"

def methodOf (D : Tab) (t : Nat) (v : AV) (name : String) : R (FuncId × AV) := do
  let i ← inf D t
  match i.methods.toList.find? (fun m => m.name == name) with
  | none => .error "method"
  | some m =>
    if !m.path.isEmpty then .error "method path" else
    match m.func with
    | none => .error "method func"
    | some (f, ptrRecv) => do
      let d ← und D t
      match d, ptrRecv with
      | .pointer _, true => return (f, v)
      | .pointer _, false => .error "method pointer"
      | _, false => return (f, v)
      | _, true => .error "method recv"

def callFn (D : Tab) (f : FuncId) (args : List AV) : R ANext :=
  match D.func f with
  | some fn =>
    if fn.name == "runtime.NumGoroutine" then .error "NumGoroutine" else
    if fn.body.isSome then .ok (.enter f args) else .error "no body"
  | none => .error "no func"

def callM (D : Tab) (recv : AV) (name : String) (args : List AV) : R ANext :=
  match recv with
  | .iface t v => do
    let (f, r) ← methodOf D t v name
    callFn D f (r :: args)
  | _ => .error "invoke nil"

def invokeT (D : Tab) (fn : Fn) (captured args : List AV) : R ANext :=
  match fn with
  | .func f => callFn D f (args ++ captured)
  | .method name => match args with
    | recv :: args => callM D recv name args
    | [] => .error "method value"
  | .methodOf t name => match args with
    | recv :: args => do
      let d ← und D t
      callM D (if isIfaceD d then recv else .iface t recv) name args
    | [] => .error "methodOf"
  | .via t path f pointer => match args with
    | x :: args =>
      if !path.isEmpty then .error "via path" else do
      let d ← und D t
      match d, pointer with
      | .pointer _, true => callFn D f (x :: args)
      | .pointer _, false => .error "via pointer"
      | _, false => callFn D f (x :: args)
      | _, true => .error "via"
    | [] => .error "via"
  | .yield _ => .error "yield"

/-- a call of a value -/
def callV (D : Tab) (f : AV) (args : List AV) : R ANext :=
  match f with
  | .yield l => .ok (.round l args)
  | .func fn first captured => invokeT D fn captured (first ++ args)
  | _ => .error "call function"

def extOf (D : Tab) : AV → Option ExtKind
  | .func (.func g) [] [] => D.ext g
  | _ => none

def baseVals : List AV → Option (List Value)
  | [] => some []
  | .base v :: l => match baseVals l with
    | some r => some (v :: r)
    | none => none
  | _ => none

/-- what a function without a body answers -/
def extV (D : Tab) (σ : St) (k : ExtKind) (args : List AV) : R (AV × St) :=
  match k, args with
  | .same, [x] => .ok (x, σ)
  | .noZero _ rs, [.base (.int .i64 n)] =>
    match rs[0]? with
    | some t => do
      let elem ← sliceElem D t
      if 0 ≤ n ∧ n < 2 ^ 30 then return (.slice σ.n 0 n.toNat none 1, σ.push (.cells [] elem true 1)) else .error "MakeNoZero"
    | none => .error "MakeNoZero"
  | .plain f, args =>
    match baseVals args with
    | some vs => match f vs.toArray with
      | .pure v => .ok (ofConst v, σ)
      | _ => .error "plain row"
    | none => .error "plain row"
  | .atomicLoad64, [.ptr b o] => do
    let cs ← cellsOf σ b
    match cs[o]? with
    | some (.base (.int .i64 n)) => return (.base (.int .i64 n), σ)
    | _ => .error "atomic"
  | .atomicAdd64, [.ptr b o, .base (.int _ d)] => do
    let cs ← cellsOf σ b
    match cs[o]? with
    | some (.base (.int .i64 n)) => do
      let σ' ← storeCells σ b o [.base (.int .i64 (IntKind.i64.wrap (n + d)))]
      return (.base (.int .i64 (IntKind.i64.wrap (n + d))), σ')
    | _ => .error "atomic"
  | _, _ => .error "no row"

/-- a string to its bytes -/
def toBytesV (D : Tab) (σ : St) (src dst : Nat) (x : AV) : R (AV × St) := do
  let _ ← und D src
  let d ← und D dst
  match d, x with
  | .slice el, .base (.string ⟨⟨l⟩⟩) => do
    let et ← und D el
    match et with
    | .int .u8 => return (.slice σ.n 0 l.length none 1, σ.push (.cells (l.map fun c => intV .u8 c.toNat) el false 1))
    | _ => .error "to bytes"
  | _, _ => .error "to bytes"

def sliceDataV (x : AV) : R AV :=
  match x with
  | .base (.slice none _ _) => .ok (.base (.pointer none))
  | .slice b o _ (some c) _ => if 0 < c then .ok (.ptr b o) else .error "SliceData"
  | .slice b o len none _ => if 0 < len then .ok (.ptr b o) else .error "SliceData"
  | _ => .error "SliceData"

/-- bytes that are a string from now on: never written again -/
def unsafeStringV (D : Tab) (σ : St) (t : Nat) (p n : AV) : R (AV × St) := do
  let (_, n) ← asI n
  if 0 ≤ n ∧ n < 2 ^ 40 then
    if n = 0 then
      match p with
      | .base (.pointer none) | .ptr _ _ => return (str [], σ)
      | _ => .error "unsafe.String"
    else do
      let d ← und D t
      match d, p with
      | .pointer el, .ptr b o => do
        let sz ← size D el
        let _ ← und D el
        if b < σ.n then
          match σ.getO b with
          | .cells cs elem own szb =>
            if own && elem == el && szb == 1 && sz == 1 then do
              let l ← takeN cs o n.toNat
              let r ← bytesL l
              return (str r, σ.set b (.cells cs elem false szb))
            else .error "unsafe.String own"
          | _ => .error "unsafe.String"
        else .error "unsafe.String"
      | _, _ => .error "unsafe.String"
  else .error "unsafe.String"

def actOp (D : Tab) (σ : St) (e : Operand → AV) (op : Op) : R (ANext × St) :=
  match op with
  | .store t a x => do
    let σ' ← storeV D σ t (e a) (e x)
    return (.skip, σ')
  | .mapUpdate t m k x | .insert t m k x => do
    let σ' ← mapUpdate D σ t (e m) (e k) (e x)
    return (.skip, σ')
  | .range t x => do
    let (v, σ') ← rangeV D σ t (e x)
    return (.value v, σ')
  | .next it isS => do
    let (v, σ') ← nextV σ (e it) isS
    return (.value v, σ')
  | .entry it => do
    let v ← entryV σ (e it)
    return (.value v, σ)
  | .convert s d x => do
    let (v, σ') ← toBytesV D σ s d (e x)
    return (.value v, σ')
  | .call c =>
    match c.callee with
    | .builtin b =>
      match b, c.argTypes.toList, c.args.toList with
      | .append, [t, u], [s, x] => do
        let (v, σ') ← appendV D σ t u (e s) (e x)
        return (.value v, σ')
      | .copy, t :: _, [d, s] => do
        let (v, σ') ← copyV D σ t (e d) (e s)
        return (.value v, σ')
      | .clear, t :: _, [x] => do
        let (v, σ') ← clearV D σ t (e x)
        return (.value v, σ')
      | .recover, _, _ => .ok (.recover, σ)
      | .unsafeSliceData, _, [x] => do
        let v ← sliceDataV (e x)
        return (.value v, σ)
      | .unsafeString, t :: _, [p, n] => do
        let (v, σ') ← unsafeStringV D σ t (e p) (e n)
        return (.value v, σ')
      | _, _, _ => .error "builtin"
    | .invoke recv name => do
      let nx ← callM D (e recv) name (c.args.toList.map e)
      return (nx, σ)
    | .value f =>
      match extOf D (e f) with
      | some k => do
        let (v, σ') ← extV D σ k (c.args.toList.map e)
        return (.value v, σ')
      | none => do
        let nx ← callV D (e f) (c.args.toList.map e)
        return (nx, σ)
  | .defer c =>
    match c.callee with
    | .value f => match e f with
      | .func fn first captured => .ok (.defer (.fn fn captured (first ++ c.args.toList.map e)), σ)
      | _ => .error "defer"
    | _ => .error "defer"
  | .panic x => match e x with
    | .iface t y => .ok (.panic (.iface t y), σ)
    | _ => .error "panic"
  | _ => .error "op"

def execOp (D : Tab) (e : Operand → AV) (σ : St) (op : Op) : R (ANext × St) :=
  match clsD D op with
  | .pure => do
    let v ← pureOp D e op
    return (.value v, σ)
  | .read => do
    let v ← readOp D σ e op
    return (.value v, σ)
  | .alloc => do
    let (v, o) ← allocOp D e op σ.n
    return (.value v, σ.push o)
  | .act => actOp D σ e op

end Go.Dt
namespace Go.Dt

def beqO : AO → AO → Bool
  | .cells cs e o s, .cells cs' e' o' s' => e == e' && o == o' && s == s' && beqL cs cs'
  | .gone, .gone => true
  | _, _ => false
def beqH : List AO → List AO → Bool
  | [], [] => true
  | x :: xs, y :: ys => beqO x y && beqH xs ys
  | _, _ => false

/- copies of data from one heap to another. own: from blocks of their own into such, else read only -/
def capChk (own : Bool) (cap : Option Nat) (o len sz k : Nat) : Bool :=
  match cap with
  | none => !own || Nat.beq (o % sz) 0
  | some c => Nat.blt 0 sz && Nat.ble len c && (!own || (Nat.ble (o + c * sz) k && Nat.beq (o % sz) 0))
def copyL (f : AV → St → R (AV × St)) : List AV → St → R (List AV × St)
  | [], dst => .ok ([], dst)
  | x :: l, dst => do
    let (x, dst) ← f x dst
    let (l, dst) ← copyL f l dst
    return (x :: l, dst)
def copyA (own : Bool) (src : St) : Nat → AV → St → R (AV × St)
  | 0, _, _ => .error "copy fuel"
  | n + 1, v, dst =>
    match v with
    | .base v => .ok (.base v, dst)
    | .slice b o len cap sz =>
      match src.getO b with
      | .cells cs elem ow sz' =>
        if (!own || (ow && sz' == sz)) && capChk own cap o len sz cs.length then do
          let l ← takeN cs o (len * sz)
          let (l, dst) ← copyL (copyA own src n) l dst
          return (.slice dst.n 0 len none sz, dst.push (.cells l elem own sz))
        else .error "copy not own"
      | _ => .error "copy cells"
    | .iface t v => do
      let (v, dst) ← copyA own src n v dst
      return (.iface t v, dst)
    | .agg l => do
      let (l, dst) ← copyL (copyA own src n) l dst
      return (.agg l, dst)
    | .tuple l => do
      let (l, dst) ← copyL (copyA own src n) l dst
      return (.tuple l, dst)
    | .func (.func f) [] [] => .ok (.func (.func f) [] [], dst)
    | _ => .error "copy"

/- the blocks that a value names -/
def refsL (f : AV → List Nat) : List AV → List Nat
  | [] => []
  | x :: l => f x ++ refsL f l
def refsA (src : St) : Nat → AV → List Nat
  | 0, _ => []
  | n + 1, v =>
    match v with
    | .slice b o len _ sz =>
      match src.getO b with
      | .cells cs _ _ _ => b :: refsL (refsA src n) ((cs.drop o).take (len * sz))
      | _ => []
    | .iface _ v => refsA src n v
    | .agg l => refsL (refsA src n) l
    | .tuple l => refsL (refsA src n) l
    | _ => []
def nodup : List Nat → Bool
  | [] => true
  | x :: l => !l.contains x && nodup l

def copyFuel : Nat := 30

def replGone : Nat → List AO
  | 0 => []
  | n + 1 => .gone :: replGone n
def freshSt (D : Tab) (M : MTree) : St := { n := D.nglob, l := replGone D.nglob, M }

def findMemo (f : FuncId) (args : List AV) (h : List AO) : List Memo → Option Memo
  | [] => none
  | m :: ms => if m.f == f && beqL m.args args && beqH m.heap h then some m else findMemo f args h ms

/- the ids of a value all lie below a bound -/
mutual
def bndA (n : Nat) : AV → Bool
  | .base _ => true
  | .ptr b _ => Nat.blt b n
  | .slice b _ _ _ _ => Nat.blt b n
  | .sliceZ b _ _ _ => Nat.blt b n
  | .mapv b => Nat.blt b n
  | .func _ a c => bndL n a && bndL n c
  | .yield l => Nat.blt l n
  | .iface _ v => bndA n v
  | .agg cs => bndL n cs
  | .tuple vs => bndL n vs
def bndL (n : Nat) : List AV → Bool
  | [] => true
  | v :: l => bndA n v && bndL n l
end
def bndO (n : Nat) : AO → Bool
  | .cells cs _ _ _ => bndL n cs
  | .map [] _ => true
  | _ => false

/- drawn regions -/

structure PlanItem where
  i : Nat
  lo : Nat
  act : Bool

def isAct (ops : Array Oper) (i : Nat) : Bool := clsOf (ops.getD i default).op == .act
def idxs (ops : Array Oper) : List Nat := List.range ops.size
def acts (ops : Array Oper) : List Nat := (idxs ops).filter (isAct ops)
def isBefore (b : Array Nat) (i j : Nat) : Bool := (b.getD j 0).testBit i

/- the plan: a guess that drawOk checks -/
def bitOf (m i : Nat) : Bool := Nat.beq (Nat.land (Nat.shiftRight m i) 1) 1
def nthN : List Nat → Nat → Nat
  | [], _ => 0
  | x :: l, i => bif Nat.beq i 0 then x else nthN l (Nat.sub i 1)
/-- acc: the masks so far, the last one first; k: how many -/
def edgesM (acc : List Nat) (k : Nat) : List Edge → Nat
  | [] => 0
  | e :: l =>
    bif Region.binds .any e then Nat.lor (Nat.lor (Nat.shiftLeft 1 e.on) (bif Nat.blt e.on k then nthN acc (Nat.sub (Nat.sub k 1) e.on) else 0)) (edgesM acc k l)
    else edgesM acc k l
def befL : List Oper → List Nat → Nat → List Nat
  | [], _, _ => []
  | o :: l, acc, k => edgesM acc k o.after.toList :: befL l (edgesM acc k o.after.toList :: acc) (Nat.succ k)
def isActO (o : Oper) : Bool :=
  match clsOf o.op with
  | .act => true
  | _ => false
def actIx : List Oper → Nat → List Nat
  | [], _ => []
  | o :: l, i => bif isActO o then i :: actIx l (Nat.succ i) else actIx l (Nat.succ i)
def inertIx : List Oper → Nat → List Nat
  | [], _ => []
  | o :: l, i => bif isActO o then inertIx l (Nat.succ i) else i :: inertIx l (Nat.succ i)
def cntB (m : Nat) : List Nat → Nat
  | [] => 0
  | a :: l => bif bitOf m a then Nat.succ (cntB m l) else cntB m l
def inertsBefore (bs as : List Nat) (m : Nat) (more : List PlanItem) : List Nat → List PlanItem
  | [] => more
  | i :: l => bif bitOf m i then ⟨i, cntB (nthN bs i) as, false⟩ :: inertsBefore bs as m more l else inertsBefore bs as m more l
def restOf (m : Nat) : List Nat → List Nat
  | [] => []
  | i :: l => bif bitOf m i then restOf m l else i :: restOf m l
def inertsAll (bs as : List Nat) : List Nat → List PlanItem
  | [] => []
  | i :: l => ⟨i, cntB (nthN bs i) as, false⟩ :: inertsAll bs as l
/-- the actives in their order, each behind the inert operations that must stand before it -/
def planFrom (bs as : List Nat) : List Nat → List Nat → List PlanItem
  | [], inert => inertsAll bs as inert
  | a :: rest, inert => inertsBefore bs as (nthN bs a) (⟨a, 0, true⟩ :: planFrom bs as rest (restOf (nthN bs a) inert)) inert
def planOf (ops : Array Oper) : List PlanItem :=
  planFrom (befL ops.toList [] 0) (actIx ops.toList 0) (actIx ops.toList 0) (inertIx ops.toList 0)

def dstAt (ops : Array Oper) (i : Nat) : Option Tmp := (ops[i]?).bind (·.dst)
def writes (ops : Array Oper) (p : List PlanItem) (t : Tmp) : Bool := p.any fun it => dstAt ops it.i == some t
def firstAct : List PlanItem → Option Nat
  | [] => none
  | it :: rest => if it.act then some it.i else firstAct rest
def looksAt (ops : Array Oper) (o : Oper) : List Tmp :=
  (o.op.operands.toList.filterMap fun | .tmp t => some t | _ => none) ++
  (match o.guard with
   | some (g, _) => ((ops[g]?).bind (·.dst)).toList
   | none => [])
def isSelect : Op → Bool
  | .select .. => true
  | _ => false

/-- b: what stands before what, as numbers; every mark in it rests on an edge -/
def marksOk (ops : Array Oper) (b : Array Nat) : Bool :=
  (idxs ops).all fun j => (idxs ops).all fun i => !isBefore b i j ||
    match ops[j]? with
    | some o => o.after.toList.any fun e => Region.binds .any e && (e.on == i || isBefore b i e.on)
    | none => false

def planChk (ops : Array Oper) (m : Nat) (b : Array Nat) (as : List Nat) : List Nat → List PlanItem → Bool
  | _, [] => true
  | seen, it :: rest =>
    (match ops[it.i]? with
    | none => false
    | some o =>
      Nat.blt it.i m && !isSelect o.op && !seen.contains it.i &&
      (o.after.toList.all fun e => !Region.binds .any e || seen.contains e.on) &&
      (match firstAct rest with
        | some a => isBefore b it.i a
        | none => true) &&
      (it.lo == 0 || match as[it.lo - 1]? with
        | some a => isBefore b a it.i
        | none => false) &&
      ((looksAt ops o).all fun t => !writes ops (it :: rest) t && (List.range m).all fun j => dstAt ops j != some t || isBefore b j it.i) &&
      (match o.dst with
        | some d => !writes ops rest d
        | none => true)) &&
    planChk ops m b as (it.i :: seen) rest

def befA (ops : Array Oper) : Array Nat := (befL ops.toList [] 0).toArray

/-- the first m operations stand ahead of all others -/
def aheadOk (ops : Array Oper) (m : Nat) : Bool :=
  (List.range m).all fun i => (idxs ops).all fun j => Nat.blt j m || isBefore (befA ops) i j

/-- the plan of the first m operations -/
def planM (ops : Array Oper) (m : Nat) : List PlanItem := (planOf ops).filter fun it => Nat.blt it.i m

def drawOk (ops : Array Oper) (m : Nat) : Bool :=
  Nat.ble m ops.size && aheadOk ops m && planChk ops m (befA ops) (((planM ops m).filter (·.act)).map (·.i)) [] (planM ops m) &&
  (List.range m).all fun i => (planM ops m).any fun it => it.i == i

def put (T : List AV) (dst : Option Tmp) (v : AV) : List AV :=
  match dst with
  | some d => T.set d v
  | none => T

def yieldedA (ops : Array Oper) (T : List AV) (j : Nat) : Option Bool :=
  match ((ops[j]?).bind (·.dst)).bind (T[·]?) with
  | some (.base (.bool b)) => some b
  | _ => none

def wantedA (ops : Array Oper) (o : Oper) (T : List AV) : Bool :=
  match o.guard with
  | none => true
  | some (j, want) => yieldedA ops T j == some want

inductive AEnd where
  | ret (v : AV)
  | panic (v : AV)

abbrev Pan := Option (AV × Bool)
abbrev CallT := FuncId → List AV → St → R (AEnd × St)
abbrev RoundT := Nat → List AV → St → R (AEnd × St)

inductive OpEnd where
  | go (T : List AV) (defers : List ADef) (pan : Pan) (σ : St)
  | panic (v : AV) (T : List AV) (defers : List ADef) (pan : Pan) (σ : St)

def runOne (D : Tab) (call : CallT) (round : RoundT) (isRound : Bool) (o : Oper) (T : List AV) (ds : List ADef) (pan : Pan) (σ : St) : R OpEnd := do
  let (nx, σ) ← execOp D (evalO D T) σ o.op
  match nx with
  | .value v => return .go (put T o.dst v) ds pan σ
  | .skip => return .go (put T o.dst .undef) ds pan σ
  | .defer d => if isRound then .error "defer in a round" else return .go (put T o.dst .undef) (d :: ds) pan σ
  | .recover =>
    if isRound then .error "recover in a round" else
    match pan with
    | some (v, false) => return .go (put T o.dst v) ds (some (v, true)) σ
    | _ => return .go (put T o.dst (.base .nilIface)) ds pan σ
  | .panic v => return .panic v T ds pan σ
  | .enter f args => do
    let (e, σ) ← call f args σ
    match e with
    | .ret v => return .go (put T o.dst v) ds pan σ
    | .panic v => return .panic v T ds pan σ
  | .round l args => do
    let (e, σ) ← round l args σ
    match e with
    | .ret v => return .go (put T o.dst v) ds pan σ
    | .panic v => return .panic v T ds pan σ

def runSeq (D : Tab) (call : CallT) (round : RoundT) (isRound : Bool) (ops : Array Oper) : List Oper → List AV → List ADef → Pan → St → R OpEnd
  | [], T, ds, pan, σ => .ok (.go T ds pan σ)
  | o :: rest, T, ds, pan, σ =>
    if wantedA ops o T then do
      let r ← runOne D call round isRound o T ds pan σ
      match r with
      | .go T ds pan σ => runSeq D call round isRound ops rest T ds pan σ
      | .panic v T ds pan σ => return .panic v T ds pan σ
    else runSeq D call round isRound ops rest (put T o.dst .undef) ds pan σ

/-- a read gives one value in each of these memories -/
def sameAt (D : Tab) (T : List AV) (op : Op) (v : AV) (snap : St) : Bool :=
  match readOp D snap (evalO D T) op with
  | .ok v' => beqA v' v
  | .error _ => false

/-- snaps: memory at the region's begin, and behind each active operation so far, the last one first -/
def runDraw (D : Tab) (call : CallT) (round : RoundT) (isRound : Bool) (ops : Array Oper) : List PlanItem → List St → List AV → List ADef → Pan → St → R OpEnd
  | [], _, T, ds, pan, σ => .ok (.go T ds pan σ)
  | it :: rest, snaps, T, ds, pan, σ =>
    match ops[it.i]? with
    | none => .error "runDraw"
    | some o =>
    if wantedA ops o T then
      if it.act then do
        if o.op.operands.toList.all fun x => bndA σ.n (evalO D T x) then do
          let r ← runOne D call round isRound o T ds pan σ
          match r with
          | .go T ds pan σ' => if σ.n ≤ σ'.n then runDraw D call round isRound ops rest (σ' :: snaps) T ds pan σ' else .error "runDraw n"
          | .panic .. => .error "panic in a drawn region"
        else .error "runDraw ids"
      else
        match clsD D o.op with
        | .pure => do
          let v ← pureOp D (evalO D T) o.op
          runDraw D call round isRound ops rest snaps (put T o.dst v) ds pan σ
        | .read => do
          let v ← readOp D σ (evalO D T) o.op
          if it.lo < snaps.length && (snaps.take (snaps.length - it.lo)).all (sameAt D T o.op v) then
            runDraw D call round isRound ops rest snaps (put T o.dst v) ds pan σ
          else .error "unstable read"
        | .alloc => do
          let (v, ob) ← allocOp D (evalO D T) o.op σ.n
          if bndO (σ.n + 1) ob then runDraw D call round isRound ops rest snaps (put T o.dst v) ds pan (σ.push ob) else .error "runDraw object"
        | .act => .error "runDraw"
    else
      runDraw D call round isRound ops rest (if it.act then σ :: snaps else snaps) (put T o.dst .undef) ds pan σ

/- the rest of a drawn region, in every order -/
structure ES where
  mask : Nat
  T : List AV
  n : Nat
  l : List AO

def stepE (D : Tab) (ops : Array Oper) (o : Oper) (T : List AV) (σ : St) : R (List AV × St) :=
  if wantedA ops o T then
    match clsD D o.op with
    | .pure => do
      let v ← pureOp D (evalO D T) o.op
      return (put T o.dst v, σ)
    | .read => do
      let v ← readOp D σ (evalO D T) o.op
      return (put T o.dst v, σ)
    | .act =>
      match o.op with
      | .store t a x => do
        let σ' ← storeV D σ t (evalO D T a) (evalO D T x)
        return (put T o.dst .undef, σ')
      | _ => .error "enum act"
    | .alloc => .error "enum alloc"
  else .ok (put T o.dst .undef, σ)

def insE (eqT : List AV → List AV → Bool) (eqH : List AO → List AO → Bool) (s : ES) : List ES → R (List ES)
  | [] => .ok [s]
  | x :: l =>
    bif Nat.beq x.mask s.mask then
      (bif eqT x.T s.T then bif Nat.beq x.n s.n then bif eqH x.l s.l then .ok (x :: l) else .error "enum heap" else .error "enum n" else .error "enum T")
    else
      match insE eqT eqH s l with
      | .ok l => .ok (x :: l)
      | .error e => .error e

def readyE (m mask : Nat) : List Edge → Bool
  | [] => true
  | e :: l => bif Region.binds .any e then bif Nat.blt e.on m then readyE m mask l else bif bitOf mask e.on then readyE m mask l else false else readyE m mask l

def canE (ops : Array Oper) (m mask i : Nat) : Bool :=
  bif bitOf mask i then false else
  match ops[i]? with
  | some o => readyE m mask o.after.toList
  | none => false

def expE (D : Tab) (eqT : List AV → List AV → Bool) (eqH : List AO → List AO → Bool) (ops : Array Oper) (m : Nat) (M : MTree) (s : ES) : List Nat → List ES → R (List ES)
  | [], acc => .ok acc
  | i :: is, acc =>
    bif canE ops m s.mask i then
      match ops[i]? with
      | none => .error "enum"
      | some o =>
        match stepE D ops o s.T { n := s.n, l := s.l, M := M } with
        | .ok r =>
          (match insE eqT eqH { mask := Nat.lor s.mask (Nat.shiftLeft 1 i), T := r.1, n := r.2.n, l := r.2.l } acc with
          | .ok acc => expE D eqT eqH ops m M s is acc
          | .error e => .error e)
        | .error e => .error e
    else expE D eqT eqH ops m M s is acc

def anyE (ops : Array Oper) (m mask : Nat) : List Nat → Bool
  | [] => false
  | i :: is => bif canE ops m mask i then true else anyE ops m mask is

def levE (D : Tab) (eqT : List AV → List AV → Bool) (eqH : List AO → List AO → Bool) (ops : Array Oper) (m : Nat) (M : MTree) (is : List Nat) : List ES → List ES → R (List ES)
  | [], acc => .ok acc
  | s :: fr, acc =>
    bif anyE ops m s.mask is then
      match expE D eqT eqH ops m M s is acc with
      | .ok acc => levE D eqT eqH ops m M is fr acc
      | .error e => .error e
    else .error "enum stuck"

def fullE (mask : Nat) : List Nat → Bool
  | [] => true
  | i :: is => bif bitOf mask i then fullE mask is else false

def enumE (D : Tab) (eqT : List AV → List AV → Bool) (eqH : List AO → List AO → Bool) (ops : Array Oper) (m : Nat) (M : MTree) (is : List Nat) : Nat → List ES → R ES
  | 0, fr =>
    (match fr with
    | [s] => bif fullE s.mask is then .ok s else .error "enum end"
    | _ => .error "enum end")
  | k + 1, fr =>
    match levE D eqT eqH ops m M is fr [] with
    | .ok fr => enumE D eqT eqH ops m M is k fr
    | .error e => .error e

/-- the operations behind the first m -/
def tailIx (ops : Array Oper) (m : Nat) : List Nat := (List.range ops.size).drop m

def runRest (D : Tab) (eqT : List AV → List AV → Bool) (eqH : List AO → List AO → Bool) (ops : Array Oper) (m : Nat) (T : List AV) (σ : St) : R (List AV × St) :=
  if ops.size ≤ m then .ok (T, σ) else
  match enumE D eqT eqH ops m σ.M (tailIx ops m) (ops.size - m) [{ mask := 0, T := T, n := σ.n, l := σ.l }] with
  | .ok s => .ok (s.T, { n := s.n, l := s.l, M := σ.M })
  | .error e => .error e

def runRegion (D : Tab) (call : CallT) (round : RoundT) (isRound : Bool) (ops : Array Oper) (draw : Bool) (T : List AV) (ds : List ADef) (pan : Pan) (σ : St) : R OpEnd :=
  if draw then
    if drawOk ops (D.cut ops) then do
      let r ← runDraw D call round isRound ops (planM ops (D.cut ops)) [σ] T ds pan σ
      match r with
      | .go T ds pan σ =>
        if ops.size = D.cut ops + 1 then
          if canE ops (D.cut ops) 0 (D.cut ops) then runSeq D call round isRound ops (ops.toList.drop (D.cut ops)) T ds pan σ else .error "last"
        else do
        let r ← runRest D beqL beqH ops (D.cut ops) T σ
        return .go r.1 ds pan r.2
      | .panic .. => .error "panic in a drawn region"
    else .error ("plan " ++ (ops[0]?.map (·.pos)).getD "")
  else runSeq D call round isRound ops ops.toList T ds pan σ

/- where to cut: a guess out of a table, by the region's length and the first and last targets -/
def dstCode : Option Tmp → Nat
  | none => 0
  | some d => Nat.succ d
def lastCode : List Oper → Nat
  | [] => 0
  | o :: l =>
    match l with
    | [] => dstCode o.dst
    | _ => lastCode l
def lenO : List Oper → Nat
  | [] => 0
  | _ :: l => Nat.succ (lenO l)
def cutIn (n a b : Nat) : List (Nat × Nat × Nat × Nat) → Nat
  | [] => n
  | (n', a', b', m) :: l => bif Nat.beq n n' then bif Nat.beq a a' then bif Nat.beq b b' then m else cutIn n a b l else cutIn n a b l else cutIn n a b l
def cutBy (tbl : List (Nat × Nat × Nat × Nat)) (ops : Array Oper) : Nat :=
  match ops.toList with
  | [] => 0
  | o :: l => cutIn (lenO (o :: l)) (dstCode o.dst) (lastCode (o :: l)) tbl

/-- a call of a function, which may panic, as the last operation: cut ahead of it -/
def isCallO : Option Oper → Bool
  | some o => match o.op with
    | .call c => match c.callee with
      | .builtin _ => false
      | _ => true
    | _ => false
  | none => false

/-- where to cut: a guess -/
def findCut0 (ops : Array Oper) : Nat → Nat
  | 0 => 0
  | m + 1 => if drawOk ops (m + 1) then m + 1 else findCut0 ops m

def findCut (ops : Array Oper) (n : Nat) : Nat :=
  if isCallO ops[ops.size - 1]? && decide (2 ≤ ops.size) && drawOk ops (ops.size - 1) && canE ops (ops.size - 1) 0 (ops.size - 1) then ops.size - 1 else findCut0 ops n

end Go.Dt
