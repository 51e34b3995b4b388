/-
  A deterministic reading of the model's code: values, the heap, and the operations. No statement of this seat stands here.
-/
import GoSem.Step
import Derived.Laws.Sem
import Derived.Laws.Entries
import Derived.Laws.StructEq
import Derived.ChangeKeysEq
import Derived.Orders
import Derived.Laws.World
import Derived.Calls
namespace Go.Dt

inductive AV where
  | base (v : Value)
  | ptr (b o : Nat)
  | slice (b o len : Nat) (cap : Option Nat) (sz : Nat)
  | sliceZ (b o0 l sz : Nat)
  | mapv (b : Nat)
  | func (fn : Fn) (first captured : List AV)
  | yield (l : Nat)
  | iface (t : TypeId) (v : AV)
  | agg (cs : List AV)
  | tuple (vs : List AV)
  deriving Inhabited

abbrev R (α : Type) := Except String α

def beqBase : Value → Value → Bool
  | .bool a, .bool b => a == b
  | .int k a, .int k' b => k == k' && a == b
  | .string ⟨⟨a⟩⟩, .string ⟨⟨b⟩⟩ => a == b
  | .pointer none, .pointer none => true
  | .slice none a b, .slice none c d => a == c && b == d
  | .map none, .map none => true
  | .nilFunc, .nilFunc => true
  | .nilIface, .nilIface => true
  | _, _ => false

def beqFn : Fn → Fn → Bool
  | .func f, .func g => f == g
  | _, _ => false

mutual
def beqA : AV → AV → Bool
  | .base a, .base b => beqBase a b
  | .ptr b o, .ptr b' o' => b == b' && o == o'
  | .slice b o l c s, .slice b' o' l' c' s' => b == b' && o == o' && l == l' && c == c' && s == s'
  | .sliceZ b o l s, .sliceZ b' o' l' s' => b == b' && o == o' && l == l' && s == s'
  | .mapv b, .mapv b' => b == b'
  | .func f a b, .func g a' b' => beqFn f g && beqL a a' && beqL b b'
  | .yield l, .yield l' => l == l'
  | .iface t v, .iface t' v' => t == t' && beqA v v'
  | .agg l, .agg l' => beqL l l'
  | .tuple l, .tuple l' => beqL l l'
  | _, _ => false
def beqL : List AV → List AV → Bool
  | [], [] => true
  | x :: xs, y :: ys => beqA x y && beqL xs ys
  | _, _ => false
end


def AV.undef : AV := .tuple []

def ofConst1 : Value → AV
  | .agg cs => .agg (cs.toList.map .base)
  | .tuple vs => .tuple (vs.toList.map .base)
  | v => .base v
def ofConst : Value → AV
  | .agg cs => .agg (cs.toList.map .base)
  | .tuple vs => .tuple (vs.toList.map ofConst1)
  | v => .base v

structure ALoop where
  state : LoopState
  pending : Option Code
  fn : FuncId
  T : List AV
  params : List Tmp
  assign : Code
  body : Code
  defers : Nat

inductive ADef where
  | fn (fn : Fn) (captured args : List AV)
  | collected (r : Nat)

inductive AO where
  | cells (cs : List AV) (elem : TypeId) (own : Bool) (sz : Nat)
  | map (es : List (AV × AV × Nat)) (clock : Nat)
  | striter (s : List UInt8) (pos : Nat)
  | mapiter (m : Option Nat) (since : Nat) (seen : List Nat) (stepped : Nat)
  | loop (l : ALoop)
  | deferred (calls : Option (List ADef))
  | gone

structure Memo where
  f : FuncId
  args : List AV
  heap : List AO
  val : AV
  res : List AO

/-- a place in a tree -/
inductive Pth where
  | z
  | l (p : Pth)
  | r (p : Pth)
def pthF : Nat → Nat → Pth
  | 0, _ => .z
  | n + 1, k => bif Nat.beq k 0 then .z else bif Nat.beq (Nat.mod k 2) 1 then .l (pthF n (Nat.div k 2)) else .r (pthF n (Nat.sub (Nat.div k 2) 1))
def pth (k : Nat) : Pth := pthF k k

/-- memos, by the function's number -/
inductive MTree where
  | e
  | n (l : List Memo) (a b : MTree)
def MTree.get : Pth → MTree → List Memo
  | _, .e => []
  | .z, .n l _ _ => l
  | .l p, .n _ a _ => MTree.get p a
  | .r p, .n _ _ b => MTree.get p b
def MTree.add (m : Memo) : Pth → MTree → MTree
  | .z, .e => .n [m] .e .e
  | .l p, .e => .n [] (MTree.add m p .e) .e
  | .r p, .e => .n [] .e (MTree.add m p .e)
  | .z, .n l a b => .n (m :: l) a b
  | .l p, .n l a b => .n l (MTree.add m p a) b
  | .r p, .n l a b => .n l a (MTree.add m p b)
def MTree.mem (m : Memo) : MTree → Prop
  | .e => False
  | .n l a b => m ∈ l ∨ MTree.mem m a ∨ MTree.mem m b

theorem MTree.mem_get {m : Memo} : ∀ (p : Pth) (t : MTree), m ∈ t.get p → t.mem m
  | _, .e, h => by simp [MTree.get] at h
  | .z, .n l a b, h => .inl h
  | .l p, .n l a b, h => .inr (.inl (MTree.mem_get p a h))
  | .r p, .n l a b, h => .inr (.inr (MTree.mem_get p b h))
theorem MTree.mem_add {m x : Memo} : ∀ (p : Pth) (t : MTree), (t.add x p).mem m → m = x ∨ t.mem m
  | .z, .e, h => by simpa [MTree.add, MTree.mem] using h
  | .l p, .e, h => by
    simp only [MTree.add, MTree.mem] at h
    rcases h with h | h | h
    · simp at h
    · rcases MTree.mem_add p .e h with h | h
      · exact .inl h
      · exact h.elim
    · exact h.elim
  | .r p, .e, h => by
    simp only [MTree.add, MTree.mem] at h
    rcases h with h | h | h
    · simp at h
    · exact h.elim
    · rcases MTree.mem_add p .e h with h | h
      · exact .inl h
      · exact h.elim
  | .z, .n l a b, h => by
    simp only [MTree.add, MTree.mem, List.mem_cons] at h ⊢
    rcases h with (h | h) | h
    · exact .inl h
    · exact .inr (.inl h)
    · exact .inr (.inr h)
  | .l p, .n l a b, h => by
    simp only [MTree.add, MTree.mem] at h ⊢
    rcases h with h | h | h
    · exact .inr (.inl h)
    · rcases MTree.mem_add p a h with h | h
      · exact .inl h
      · exact .inr (.inr (.inl h))
    · exact .inr (.inr (.inr h))
  | .r p, .n l a b, h => by
    simp only [MTree.add, MTree.mem] at h ⊢
    rcases h with h | h | h
    · exact .inr (.inl h)
    · exact .inr (.inr (.inl h))
    · rcases MTree.mem_add p b h with h | h
      · exact .inl h
      · exact .inr (.inr (.inr h))

structure St where
  n : Nat
  l : List AO
  M : MTree

def St.getO (σ : St) (b : Nat) : AO := if b < σ.n then (σ.l[σ.n - 1 - b]?).getD .gone else .gone
def St.get (σ : St) (b : Nat) : R AO := if b < σ.n then .ok (σ.getO b) else .error "get"
def St.set (σ : St) (b : Nat) (o : AO) : St := { σ with l := σ.l.set (σ.n - 1 - b) o }
def St.push (σ : St) (o : AO) : St := { σ with n := σ.n + 1, l := o :: σ.l }

/-- functions without a body that the reading knows: plain: a row that asks nothing but its arguments -/
inductive ExtKind where
  | atomicAdd64
  | atomicLoad64
  | same
  | noZero (ps rs : Array TypeId)
  | plain (f : Array Value → Sem Value)

def ExtKind.sem : ExtKind → Array Value → Sem Value
  | .atomicAdd64 => Extern.Atomic.update (Op.intArith .add) .i64 true
  | .atomicLoad64 => Extern.Atomic.loadT (.int .i64)
  | .same => Extern.AbiNoEscape.same
  | .noZero ps rs => Extern.BytealgMakeNoZero.makeNoZero ps rs
  | .plain f => f

def add64 : Array Value → Sem Value := match Extern.MathBitsCarry.rows with | (_, f) :: _ => f | [] => fun _ => .halt default
def sub64 : Array Value → Sem Value := match Extern.MathBitsCarry.rows with | _ :: (_, f) :: _ => f | _ => fun _ => .halt default

structure Tab where
  func : Nat → Option Func
  info : Nat → Option TypeInfo
  nglob : Nat
  pure : Nat → Bool
  eqOk : Nat → Bool
  ext : Nat → Option ExtKind
  cut : Array Oper → Nat
  memo : Memo → Prop

def inf (D : Tab) (t : Nat) : R TypeInfo := match D.info t with | some i => .ok i | none => .error "type"
def und (D : Tab) (t : Nat) : R TypeDesc :=
  match D.info t with
  | some i => match i.desc with
    | .named _ u => match D.info u with
      | some j => .ok j.desc
      | none => .error "und"
    | d => .ok d
  | none => .error "und"
def size (D : Tab) (t : Nat) : R Nat := match D.info t with | some i => .ok i.size | none => .error "size"
def zero (D : Tab) (t : Nat) : R AV :=
  match D.info t with
  | some i => match i.zero with
    | some v => .ok (ofConst v)
    | none => .error "zero"
  | none => .error "zero"

def isAggD : TypeDesc → Bool
  | .struct _ | .array _ _ => true
  | _ => false

def isIfaceD : TypeDesc → Bool
  | .interface _ => true
  | _ => false

def isIntD : TypeDesc → Bool
  | .int _ => true
  | _ => false

def evalO (D : Tab) (T : List AV) : Operand → AV
  | .tmp t => T.getD t .undef
  | .const v => ofConst v
  | .global g => if g < D.nglob then .ptr g 0 else .base (.pointer (some ⟨g, 0, none⟩))
  | .func f => .func (.func f) [] []

def AV.cells : AV → List AV
  | .agg cs => cs
  | .base (.agg cs) => cs.toList.map .base
  | v => [v]
def AV.oneCell : AV → Bool
  | .base (.agg _) | .base (.tuple _) | .agg _ | .tuple _ => false
  | _ => true

def cellsOf (σ : St) (b : Nat) : R (List AV) :=
  if b < σ.n then
    match σ.getO b with
    | .cells cs _ _ _ => .ok cs
    | _ => .error "cells"
  else .error "cells"

def takeN (cs : List AV) (o n : Nat) : R (List AV) :=
  if ((cs.drop o).take n).length = n then .ok ((cs.drop o).take n) else .error "takeN"

def loadV (D : Tab) (σ : St) (t : Nat) (a : AV) : R AV :=
  match a with
  | .ptr b o => do
    let cs ← cellsOf σ b
    let d ← und D t
    if isAggD d then do
      let n ← size D t
      let l ← takeN cs o n
      return .agg l
    else match cs[o]? with
      | some v => return v
      | none => .error "load"
  | _ => .error "load pointer"

def overwrite : List AV → List AV → List AV
  | _ :: cs, x :: l => x :: overwrite cs l
  | cs, [] => cs
  | [], _ => []
def splice : List AV → Nat → List AV → List AV
  | c :: cs, o + 1, l => c :: splice cs o l
  | cs, _, l => overwrite cs l

def storeCells (σ : St) (b o : Nat) (l : List AV) : R St :=
  match l with
  | [] => .ok σ
  | _ =>
  if b < σ.n then
    match σ.getO b with
    | .cells cs elem own sz =>
      if own && decide (o + l.length ≤ cs.length) && l.all AV.oneCell then .ok (σ.set b (.cells (splice cs o l) elem own sz))
      else .error "store"
    | _ => .error "store"
  else .error "store"

def storeV (D : Tab) (σ : St) (t : Nat) (a x : AV) : R St :=
  match a with
  | .ptr b o => do
    let n ← size D t
    if x.cells.length = n then storeCells σ b o x.cells else .error "store size"
  | _ => .error "store pointer"

def part (D : Tab) (t : Nat) (cs : List AV) (off : Nat) : R AV := do
  let d ← und D t
  if isAggD d then do
    let n ← size D t
    return .agg ((cs.drop off).take n)
  else match cs[off]? with
    | some v => return v
    | none => .error "part"

def asI : AV → R (IntKind × Int)
  | .base (.int k n) => .ok (k, n)
  | _ => .error "int"
def str (l : List UInt8) : AV := .base (.string ⟨⟨l⟩⟩)
def asB : AV → R Bool
  | .base (.bool b) => .ok b
  | _ => .error "bool"
def intV (k : IntKind) (n : Int) : AV := .base (.int k n)
def goI (n : Nat) : AV := .base (.int .i64 n)
def boolV (b : Bool) : AV := .base (.bool b)

def eqFields (D : Tab) (rec_ : Nat → AV → AV → R Bool) (xs ys : List AV) : List Field → R Bool
  | [] => .ok true
  | f :: fs =>
    if f.name = "_" then eqFields D rec_ xs ys fs else do
    let a ← part D f.type xs f.offset
    let b ← part D f.type ys f.offset
    let r ← rec_ f.type a b
    if r then eqFields D rec_ xs ys fs else return false
def eqElems (D : Tab) (rec_ : Nat → AV → AV → R Bool) (elem n : Nat) (xs ys : List AV) : Nat → Nat → R Bool
  | 0, _ => .ok true
  | m + 1, i => do
    let a ← part D elem xs (i * n)
    let b ← part D elem ys (i * n)
    let r ← rec_ elem a b
    if r then eqElems D rec_ elem n xs ys m (i + 1) else return false

def eqLeaf : TypeDesc → AV → AV → R Bool
  | .bool, .base (.bool a), .base (.bool b) => .ok (a == b)
  | .int _, .base (.int k a), .base (.int k' b) => if k = k' then .ok (a == b) else .error "eq kinds"
  | .string, .base (.string ⟨⟨a⟩⟩), .base (.string ⟨⟨b⟩⟩) => .ok (a == b)
  | .pointer _, .base (.pointer none), .base (.pointer none) => .ok true
  | .pointer _, .base (.pointer none), .ptr _ _ => .ok false
  | .pointer _, .ptr _ _, .base (.pointer none) => .ok false
  | .slice _, .base (.slice none _ _), .base (.slice none _ _) => .ok true
  | .slice _, .base (.slice none _ _), .slice _ _ _ _ _ => .ok false
  | .slice _, .base (.slice none _ _), .sliceZ _ _ _ _ => .ok false
  | .slice _, .slice _ _ _ _ _, .base (.slice none _ _) => .ok false
  | .slice _, .sliceZ _ _ _ _, .base (.slice none _ _) => .ok false
  | .func _ _ _, .base .nilFunc, .base .nilFunc => .ok true
  | .func _ _ _, .base .nilFunc, .func _ _ _ => .ok false
  | .func _ _ _, .func _ _ _, .base .nilFunc => .ok false
  | .interface _, .base .nilIface, .base .nilIface => .ok true
  | .interface _, .base .nilIface, .iface _ _ => .ok false
  | .interface _, .iface _ _, .base .nilIface => .ok false
  | _, _, _ => .error "eq"

def eqV (D : Tab) : Nat → Nat → AV → AV → R Bool
  | 0, _, _, _ => .error "eq depth"
  | d + 1, t, x, y => do
    let ty ← und D t
    match ty, x, y with
    | .struct fields, .agg xs, .agg ys => if D.eqOk t then eqFields D (eqV D d) xs ys fields.toList else .error "eq struct"
    | .array len elem, .agg xs, .agg ys => do
      let n ← size D elem
      eqElems D (eqV D d) elem n xs ys len 0
    | .pointer elem, .ptr b o, .ptr b' o' => do
      let n ← size D elem
      if b = b' ∧ n ≠ 0 then return o == o' else .error "eq pointers"
    | ty, x, y => eqLeaf ty x y

def guardFields (rec_ : Nat → Bool) : List Field → Bool
  | [] => true
  | f :: fs => (f.name == "_" || rec_ f.type) && guardFields rec_ fs
def guardFree (D : Tab) : Nat → Nat → Bool
  | 0, _ => false
  | d + 1, t =>
    match und D t with
    | .ok (.interface ms) => ms.isEmpty
    | .ok (.struct fs) => guardFields (guardFree D d) fs.toList
    | .ok (.array _ e) => guardFree D d e
    | .ok _ => true
    | .error _ => false

def intOp (op : BinOp) (k k' : IntKind) (a b : Int) : R AV :=
  match op with
  | .shl => if b < 0 then .error "shift" else .ok (intV k (k.wrap (a * 2 ^ (min b.toNat k.bits))))
  | .shr => if b < 0 then .error "shift" else .ok (intV k (a.fdiv (2 ^ (min b.toNat k.bits))))
  | op =>
  if k = k' then
    match op with
    | .add => .ok (intV k (k.wrap (a + b)))
    | .sub => .ok (intV k (k.wrap (a - b)))
    | .mul => .ok (intV k (k.wrap (a * b)))
    | .quo => if b = 0 then .error "div" else .ok (intV k (k.wrap (a.tdiv b)))
    | .rem => if b = 0 then .error "div" else .ok (intV k (a.tmod b))
    | .and => .ok (intV k (k.wrap (BitVec.ofInt k.bits a &&& BitVec.ofInt k.bits b).toNat))
    | .or => .ok (intV k (k.wrap (BitVec.ofInt k.bits a ||| BitVec.ofInt k.bits b).toNat))
    | .xor => .ok (intV k (k.wrap (BitVec.ofInt k.bits a ^^^ BitVec.ofInt k.bits b).toNat))
    | .andNot => .ok (intV k (k.wrap (BitVec.ofInt k.bits a &&& ~~~(BitVec.ofInt k.bits b)).toNat))
    | .eql => .ok (boolV (a == b))
    | .neq => .ok (boolV (a != b))
    | .lss => .ok (boolV (decide (a < b)))
    | .leq => .ok (boolV (decide (a ≤ b)))
    | .gtr => .ok (boolV (decide (a > b)))
    | .geq => .ok (boolV (decide (a ≥ b)))
    | _ => .error "int op"
  else .error "kinds"

def strOp (op : BinOp) (a b : List UInt8) : R AV :=
  match op with
  | .add => if a.length + b.length < 2 ^ 40 then .ok (str (a ++ b)) else .error "concat"
  | .eql => .ok (boolV (a == b))
  | .neq => .ok (boolV (!(a == b)))
  | .lss => .ok (boolV (Op.bytesLess a b))
  | .leq => .ok (boolV (Op.bytesLess a b || a == b))
  | .gtr => .ok (boolV (!(Op.bytesLess a b || a == b)))
  | .geq => .ok (boolV (!Op.bytesLess a b))
  | _ => .error "string op"

def eqOp (D : Tab) (op : BinOp) (t : Nat) (x y : AV) : R AV :=
  match op with
  | .eql => do return boolV (← eqV D 10 t x y)
  | .neq => do return boolV (!(← eqV D 10 t x y))
  | _ => .error "binOp"

def binOp (D : Tab) (op : BinOp) (t : Nat) (x y : AV) (c : Bool) : R AV :=
  match x, y with
  | .base (.int k a), .base (.int k' b) => intOp op k k' a b
  | .base (.string ⟨⟨a⟩⟩), .base (.string ⟨⟨b⟩⟩) => strOp op a b
  | .base .nilIface, .base .nilIface => if c then eqOp D op t (.base .nilIface) (.base .nilIface) else .error "nil ifaces"
  | .agg xs, .agg ys => if guardFree D 10 t then eqOp D op t (.agg xs) (.agg ys) else .error "guard"
  | .base (.bool a), .base (.bool b) => eqOp D op t (.base (.bool a)) (.base (.bool b))
  | .base (.slice none l c), y => eqOp D op t (.base (.slice none l c)) y
  | .slice b o n k s, .base (.slice none l c) => eqOp D op t (.slice b o n k s) (.base (.slice none l c))
  | .sliceZ b o n s, .base (.slice none l c) => eqOp D op t (.sliceZ b o n s) (.base (.slice none l c))
  | .base (.pointer none), .ptr b o => eqOp D op t (.base (.pointer none)) (.ptr b o)
  | .ptr b o, .base (.pointer none) => eqOp D op t (.ptr b o) (.base (.pointer none))
  | .base (.pointer none), .base (.pointer none) => eqOp D op t (.base (.pointer none)) (.base (.pointer none))
  | .ptr b o, .ptr b' o' => eqOp D op t (.ptr b o) (.ptr b' o')
  | .base .nilFunc, y => eqOp D op t (.base .nilFunc) y
  | .func f a b, .base .nilFunc => eqOp D op t (.func f a b) (.base .nilFunc)
  | .iface u v, .base .nilIface => eqOp D op t (.iface u v) (.base .nilIface)
  | .base .nilIface, .iface u v => eqOp D op t (.base .nilIface) (.iface u v)
  | _, _ => .error "binOp"

def unOp (op : UnOp) (x : AV) : R AV :=
  match op, x with
  | .neg, .base (.int k n) => .ok (intV k (k.wrap (0 - n)))
  | .not, .base (.bool b) => .ok (boolV (!b))
  | _, _ => .error "unOp"

def convertV (D : Tab) (src dst : Nat) (x : AV) : R AV := do
  let s ← und D src
  let d ← und D dst
  match s, d, x with
  | .int _, .int k, .base (.int _ n) => return intV k (k.wrap n)
  | .string, .string, .base (.string s) => return .base (.string s)
  | .int _, .string, .base (.int _ n) => return str (Utf8.encode n).data.toList
  | _, _, _ => .error "convert"

def fill (place : Nat → Option (Nat × Nat)) (cells : List AV) : List (Nat × AV) → R (List AV)
  | [] => .ok cells
  | (i, v) :: rest =>
    match place i with
    | none => .error "fill"
    | some (off, sz) =>
      if v.cells.length = sz ∧ off + v.cells.length ≤ cells.length then fill place (splice cells off v.cells) rest
      else .error "fill size"

def repeatL (z : List AV) : Nat → List AV
  | 0 => []
  | n + 1 => z ++ repeatL z n

def structPlaces (D : Tab) : List Field → R (List (Nat × Nat))
  | [] => .ok []
  | f :: fs => do
    let n ← size D f.type
    let l ← structPlaces D fs
    return (f.offset, n) :: l

def build (D : Tab) (t : Nat) (parts : List (Nat × AV)) : R AV := do
  let z ← zero D t
  let d ← und D t
  match d with
  | .struct fields => do
    let ps ← structPlaces D fields.toList
    let cs ← fill (fun i => ps[i]?) z.cells parts
    return .agg cs
  | .array _ elem => do
    let s ← size D elem
    let cs ← fill (fun i => some (i * s, s)) z.cells parts
    return .agg cs
  | _ => .error "build"

def sliceElem (D : Tab) (t : Nat) : R Nat := do
  let d ← und D t
  match d with
  | .slice e => return e
  | _ => .error "slice type"

/-- the zero cells of n elements -/
def zeroRow (D : Tab) (elem n : Nat) : R (List AV) := do
  let s ← size D elem
  if n * s = 0 then return [] else do
  let z ← zero D elem
  if z.cells.length = s then return repeatL z.cells n else .error "zeroRow"

def bound (x : AV) (y : Nat) : R Nat := do
  let (_, i) ← asI x
  if 0 ≤ i ∧ i ≤ y then return i.toNat else .error "bound"
def boundO (x : Option AV) (y d : Nat) : R Nat := match x with | some v => bound v y | none => .ok d

def sliceV (D : Tab) (t : Nat) (x : AV) (lo hi mx : Option AV) : R AV := do
  let d ← und D t
  match d, x with
  | .string, .base (.string ⟨⟨s⟩⟩) =>
    if mx.isSome then .error "slice3" else do
    let h ← boundO hi s.length s.length
    let l ← boundO lo h 0
    return str ((s.drop l).take (h - l))
  | .slice elem, .base (.slice none len cap) =>
    if mx.isSome && hi.isNone then .error "slice3" else do
    let _ ← size D elem
    let m ← boundO mx cap cap
    let h ← boundO hi m len
    let l ← boundO lo h 0
    return .base (.slice none (h - l) (m - l))
  | .slice elem, .slice b o len (some cap) sz =>
    if mx.isSome && hi.isNone then .error "slice3" else do
    let m ← boundO mx cap cap
    let h ← boundO hi m len
    let l ← boundO lo h 0
    let s ← size D elem
    if s = sz then return .slice b (if m = l then o else o + l * s) (h - l) (some (m - l)) sz else .error "slice sz"
  | .slice elem, .slice b o len none sz => do
    let s ← size D elem
    if s = sz ∧ 0 < sz then
      match mx with
      | some mv =>
        if hi.isNone then .error "slice3" else do
        let m ← bound mv len
        let h ← boundO hi m len
        let l ← boundO lo h 0
        return .slice b (if m = l then o else o + l * s) (h - l) (some (m - l)) sz
      | none => do
        let h ← boundO hi len len
        let l ← boundO lo h 0
        if l = 0 then return .slice b o h none sz
        else if l < len then return .slice b (o + l * s) (h - l) none sz
        else return .sliceZ b o l sz
    else .error "slice sz"
  | .array n elem, .ptr b o =>
    if mx.isSome && hi.isNone then .error "slice3" else do
    let m ← boundO mx n n
    let h ← boundO hi m n
    let l ← boundO lo h 0
    let s ← size D elem
    return .slice b (if m = l then o else o + l * s) (h - l) (some (m - l)) s
  | _, _ => .error "slice"

def indexAddr (D : Tab) (t : Nat) (x ix : AV) : R AV := do
  let (_, i) ← asI ix
  let d ← und D t
  match d, x with
  | .array len elem, .ptr b o => do
    let s ← size D elem
    if 0 ≤ i ∧ i < len then return .ptr b (o + i.toNat * s) else .error "index"
  | .slice elem, .slice b o len _ _ => do
    let s ← size D elem
    if 0 ≤ i ∧ i < len then return .ptr b (o + i.toNat * s) else .error "index"
  | _, _ => .error "indexAddr"

def indexV (D : Tab) (t : Nat) (x ix : AV) : R AV := do
  let (_, i) ← asI ix
  let d ← und D t
  match d, x with
  | .array len elem, .agg cs => do
    let s ← size D elem
    if 0 ≤ i ∧ i < len then part D elem cs (i.toNat * s) else .error "index"
  | .string, .base (.string ⟨⟨s⟩⟩) =>
    if 0 ≤ i then match s[i.toNat]? with
      | some b => return intV .u8 b.toNat
      | none => .error "index"
    else .error "index"
  | _, _ => .error "indexV"

def fieldOf (D : Tab) (t f : Nat) : R Field := do
  let d ← und D t
  match d with
  | .struct fields => match fields.toList[f]? with
    | some fd => return fd
    | none => .error "field"
  | _ => .error "field"

def fieldAddr (D : Tab) (t : Nat) (x : AV) (f : Nat) : R AV := do
  let fd ← fieldOf D t f
  let s ← size D fd.type
  match x with
  | .ptr b o => if s = 0 then .error "field of size 0" else return .ptr b (o + fd.offset)
  | _ => .error "fieldAddr"

def fieldV (D : Tab) (t : Nat) (x : AV) (f : Nat) : R AV := do
  let fd ← fieldOf D t f
  match x with
  | .agg cs => part D fd.type cs fd.offset
  | _ => .error "field"

def typeAssert (D : Tab) (x : AV) (asserted : Nat) (ok : Bool) : R AV := do
  let d ← und D asserted
  if isIfaceD d then .error "typeAssert" else
  match x with
  | .iface t v =>
    if t = asserted then return (if ok then .tuple [v, boolV true] else v)
    else if ok then do
      let z ← zero D asserted
      return .tuple [z, boolV false]
    else .error "typeAssert panics"
  | .base .nilIface =>
    if ok then do
      let z ← zero D asserted
      return .tuple [z, boolV false]
    else .error "typeAssert panics"
  | _ => .error "typeAssert"

def minMax (mx : Bool) : AV → List AV → R AV
  | x, [] => .ok x
  | .base (.int k a), .base (.int _ b) :: l => minMax mx (intV k (if mx then (if b > a then b else a) else (if b < a then b else a))) l
  | _, _ => .error "min max"

def lenV (D : Tab) (t : Nat) (x : AV) : R AV := do
  let d ← und D t
  match d, x with
  | .string, .base (.string ⟨⟨l⟩⟩) => return goI l.length
  | .array n _, _ => return goI n
  | .slice _, .slice _ _ n _ _ => return goI n
  | .slice _, .sliceZ _ _ _ _ => return goI 0
  | .slice _, .base (.slice _ n _) => return goI n
  | _, _ => .error "len"

def capV (D : Tab) (t : Nat) (x : AV) : R AV := do
  let d ← und D t
  match d, x with
  | .array n _, _ => return goI n
  | .slice _, .slice _ _ _ (some n) _ => return goI n
  | .slice _, .base (.slice _ _ n) => return goI n
  | _, _ => .error "cap"

inductive Cls where
  | pure | read | alloc | act
  deriving DecidableEq

def clsOf : Op → Cls
  | .move _ | .assign _ | .pick .. | .build .. | .nilCheck _ | .binOp .. | .unOp .. | .makeInterface ..
  | .makeFunc .. | .slice .. | .fieldAddr .. | .field .. | .indexAddr .. | .index .. | .typeAssert .. | .extract .. => .pure
  | .call { callee := .builtin .len, .. } | .call { callee := .builtin .cap, .. } | .call { callee := .builtin .min, .. } | .call { callee := .builtin .max, .. } => .pure
  | .load .. | .lookup .. | .convert .. => .read
  | .alloc _ | .box .. | .buildSlice .. | .makeMap .. | .makeSlice .. => .alloc
  | _ => .act

/-- a string to its bytes -/
def strBytesD (D : Tab) (s d : Nat) : Bool :=
  match und D s, und D d with
  | .ok .string, .ok (.slice el) => match und D el with
    | .ok (.int .u8) => true
    | _ => false
  | _, _ => false

/-- the class, the types seen: a string to its bytes draws and makes a block -/
def clsD (D : Tab) : Op → Cls
  | .convert s d _ => bif strBytesD D s d then .act else .read
  | op => clsOf op

def isConstO : Operand → Bool
  | .const _ => true
  | _ => false

/-- operations that ask nothing of memory -/
def pureOp (D : Tab) (e : Operand → AV) (op : Op) : R AV :=
  match op with
  | .move x | .assign x => .ok (e x)
  | .pick c a b => do
    let t ← asB (e c)
    return if t then e a else e b
  | .build t parts => build D t (parts.toList.map fun p => (p.1, e p.2))
  | .nilCheck x =>
    match e x with
    | .ptr b o => .ok (.ptr b o)
    | .func (.func f) a b => .ok (.func (.func f) a b)
    | .yield l => .ok (.yield l)
    | .iface t v => .ok (.iface t v)
    | _ => .error "nilCheck"
  | .binOp op t x y _ => binOp D op t (e x) (e y) (isConstO x || isConstO y)
  | .unOp op _ x => unOp op (e x)
  | .convert s d x => convertV D s d (e x)
  | .makeInterface t x => do
    let d ← und D t
    if isIfaceD d then .error "makeInterface" else return .iface t (e x)
  | .makeFunc fn first captured => .ok (.func fn (first.toList.map e) (captured.toList.map e))
  | .slice t x lo hi mx => sliceV D t (e x) (lo.map e) (hi.map e) (mx.map e)
  | .fieldAddr t x f => fieldAddr D t (e x) f
  | .field t x f => fieldV D t (e x) f
  | .indexAddr t x ix => indexAddr D t (e x) (e ix)
  | .index t x ix => indexV D t (e x) (e ix)
  | .typeAssert x _ t ok => typeAssert D (e x) t ok
  | .extract t ix =>
    match e t with
    | .tuple vs => match vs[ix]? with
      | some x => .ok x
      | none => .error "extract"
    | _ => .error "extract"
  | .call { callee := .builtin b, args, argTypes } =>
    match b, argTypes.toList, args.toList with
    | .len, t :: _, [x] => lenV D t (e x)
    | .cap, t :: _, [x] => capV D t (e x)
    | .min, _, x :: l => minMax false (e x) (l.map e)
    | .max, _, x :: l => minMax true (e x) (l.map e)
    | _, _, _ => .error "builtin"
  | _ => .error "no pure op"

def plainFields (rec_ : Nat → Bool) : List Field → Bool
  | [] => true
  | f :: fs => f.name != "_" && rec_ f.type && plainFields rec_ fs
def plainKey (D : Tab) : Nat → Nat → Bool
  | 0, _ => false
  | d + 1, t =>
    match und D t with
    | .ok .bool | .ok (.int _) | .ok .string => true
    | .ok (.struct fs) => plainFields (plainKey D d) fs.toList
    | .ok (.array _ e) => plainKey D d e
    | _ => false

def findKey (D : Tab) (t : Nat) (k : AV) : List (AV × AV × Nat) → Nat → R (Option (Nat × AV))
  | [], _ => .ok none
  | (k', v, _) :: es, i => do
    let r ← eqV D 10 t k k'
    if r then return some (i, v) else findKey D t k es (i + 1)

def mapOf (σ : St) (x : AV) : R (List (AV × AV × Nat) × Nat) :=
  match x with
  | .base (.map none) => .ok ([], 0)
  | .mapv b =>
    if b < σ.n then
      match σ.getO b with
      | .map es clock => .ok (es, clock)
      | _ => .error "map"
    else .error "map"
  | _ => .error "map"

def lookupV (D : Tab) (σ : St) (t : Nat) (x ix : AV) (ok : Bool) : R AV := do
  let d ← und D t
  match d with
  | .map key elem =>
    if plainKey D 10 key then do
      let (es, _) ← mapOf σ x
      let r ← eqV D 10 key ix ix
      if !r then .error "lookup" else do
      let r ← findKey D key ix es 0
      match r with
      | some (_, v) => return (if ok then .tuple [v, boolV true] else v)
      | none => do
        let z ← zero D elem
        return (if ok then .tuple [z, boolV false] else z)
    else .error "key type"
  | _ => .error "lookup"

def bytesL : List AV → R (List UInt8)
  | [] => .ok []
  | .base (.int .u8 n) :: l => do
    let r ← bytesL l
    return UInt8.ofNat n.toNat :: r
  | _ => .error "bytes"

/-- bytes to a string -/
def bytesV (D : Tab) (σ : St) (src dst : Nat) (x : AV) : R AV := do
  let s ← und D src
  let d ← und D dst
  match s, d with
  | .slice el, .string => do
    let et ← und D el
    match et, x with
    | .int .u8, .base (.slice none _ _) => return str []
    | .int .u8, .slice b o len _ _ => do
      let cs ← cellsOf σ b
      let l ← takeN cs o len
      let r ← bytesL l
      return str r
    | _, _ => .error "convert"
  | _, _ => .error "convert"

/-- a pointer to an unsafe.Pointer and back to a variable of its own type -/
def ptrV (D : Tab) (σ : St) (src dst : Nat) (x : AV) : R AV := do
  let s ← und D src
  let d ← und D dst
  match s, d, x with
  | .pointer t, .unsafePointer, .ptr b o => do
    let cs ← cellsOf σ b
    let n ← size D t
    if 0 < n ∧ o < cs.length then return .ptr b o else .error "convert pointer"
  | .unsafePointer, .pointer u, .ptr b o => do
    let sz ← size D u
    if b < σ.n then
      match σ.getO b with
      | .cells cs elem own szb =>
        if own && elem == u && szb == sz && decide (0 < sz) && o % sz == 0 && decide (o + sz ≤ cs.length) then return .ptr b o else .error "convert unsafe.Pointer"
      | _ => .error "convert"
    else .error "convert"
  | _, _, _ => .error "convert"

def convR (D : Tab) (σ : St) (src dst : Nat) (x : AV) : R AV :=
  match convertV D src dst x with
  | .ok v => .ok v
  | .error _ =>
    match bytesV D σ src dst x with
    | .ok v => .ok v
    | .error _ => ptrV D σ src dst x

/-- operations that read memory -/
def readOp (D : Tab) (σ : St) (e : Operand → AV) (op : Op) : R AV :=
  match op with
  | .load t a => loadV D σ t (e a)
  | .lookup t x ix ok => lookupV D σ t (e x) (e ix) ok
  | .convert s d x => convR D σ s d (e x)
  | _ => .error "no read op"

/-- operations that make one new block: it, and what names it -/
def allocOp (D : Tab) (e : Operand → AV) (op : Op) (b : Nat) : R (AV × AO) :=
  match op with
  | .alloc elem => do
    let z ← zero D elem
    let s ← size D elem
    return (.ptr b 0, .cells z.cells elem true s)
  | .box elem x => do
    let s ← size D elem
    return (.ptr b 0, .cells (e x).cells elem true s)
  | .buildSlice t len parts => do
    let elem ← sliceElem D t
    let s ← size D elem
    if len * s > 2 ^ 24 then .error "buildSlice" else do
    let z ← zeroRow D elem len
    let cells ← fill (fun i => some (i * s, s)) z (parts.toList.map fun p => (p.1, e p.2))
    return (.slice b 0 len (some len) s, .cells cells elem true s)
  | .makeMap t r =>
    match r with
    | none => .ok (.mapv b, .map [] 0)
    | some h => do
      let d ← und D t
      let _ ← asI (e h)
      match d with
      | .map _ _ => return (.mapv b, .map [] 0)
      | _ => .error "makeMap"
  | .makeSlice t l c => do
    let elem ← sliceElem D t
    let (_, l) ← asI (e l)
    let (_, c) ← asI (e c)
    let i ← inf D elem
    if 0 ≤ l ∧ l ≤ c ∧ c < 2 ^ 30 ∧ i.bytes < 2 ^ 16 then do
      let s ← size D elem
      let z ← zeroRow D elem c.toNat
      return (.slice b 0 l.toNat (some c.toNat) s, .cells z elem true s)
    else .error "makeSlice"
  | _ => .error "no alloc op"

inductive ANext where
  | value (v : AV)
  | skip
  | enter (f : FuncId) (args : List AV)
  | round (l : Nat) (args : List AV)
  | defer (d : ADef)
  | recover
  | panic (v : AV)

def plainBase : AV → Bool
  | .base (.bool _) | .base (.int _ _) | .base (.string _) => true
  | _ => false
def plainVal : AV → Bool
  | .agg cs => cs.all plainBase
  | v => plainBase v

def setVal (v : AV) : Nat → List (AV × AV × Nat) → List (AV × AV × Nat)
  | _, [] => []
  | 0, (k, _, b) :: es => (k, v, b) :: es
  | i + 1, e :: es => e :: setVal v i es

def mapUpdate (D : Tab) (σ : St) (t : Nat) (m k v : AV) : R St := do
  let d ← und D t
  match d, m with
  | .map key _, .mapv b =>
    if plainKey D 10 key then do
      let (es, clock) ← mapOf σ m
      let r ← eqV D 10 key k k
      if !r then .error "mapUpdate" else do
      let r ← findKey D key k es 0
      match r with
      | some (i, _) =>
        if plainVal k && (match es[i]? with | some e => beqA e.1 k | none => false) then return σ.set b (.map (setVal v i es) clock) else .error "mapUpdate key"
      | none => return σ.set b (.map (es ++ [(k, v, clock)]) (clock + 1))
    else .error "key type"
  | _, _ => .error "mapUpdate"

def rangeV (D : Tab) (σ : St) (t : Nat) (x : AV) : R (AV × St) := do
  let d ← und D t
  match d, x with
  | .string, .base (.string ⟨⟨s⟩⟩) => return (.ptr σ.n 0, σ.push (.striter s 0))
  | .map _ _, .base (.map none) => return (.ptr σ.n 0, σ.push (.mapiter none 0 [] 0))
  | .map _ _, .mapv m => do
    let (_, clock) ← mapOf σ (.mapv m)
    return (.ptr σ.n 0, σ.push (.mapiter (some m) clock [] clock))
  | _, _ => .error "range"

def nextV (σ : St) (it : AV) (isString : Bool) : R (AV × St) :=
  match it with
  | .ptr r 0 => do
    let o ← σ.get r
    match o, isString with
    | .striter s pos, true =>
      if pos < s.length then
        return (.tuple [boolV true, goI pos, intV .i32 (Utf8.decode ⟨⟨s⟩⟩ pos).1], σ.set r (.striter s (pos + (Utf8.decode ⟨⟨s⟩⟩ pos).2)))
      else return (.tuple [boolV false], σ)
    | .mapiter none _ _ _, false => return (.tuple [boolV false], σ)
    | .mapiter (some m) since seen last, false => do
      let (es, clock) ← mapOf σ (.mapv m)
      if !seen.isEmpty && !es.isEmpty && es.all (fun e => decide (e.2.2 ≥ last)) then .error "next gone" else
      match (es.filter fun e => !seen.contains e.2.2).filter (fun e => decide (e.2.2 < since)), (es.filter fun e => !seen.contains e.2.2).filter (fun e => decide (e.2.2 ≥ since)) with
      | [], [] => return (.tuple [boolV false], σ)
      | [e], [] => return (.tuple [boolV true, e.1, e.2.1], σ.set r (.mapiter (some m) since (seen ++ [e.2.2]) clock))
      | _, _ => .error "next several candidates"
    | _, _ => .error "next"
  | _ => .error "next"

def entryV (σ : St) (it : AV) : R AV :=
  match it with
  | .ptr r 0 => do
    let o ← σ.get r
    match o with
    | .mapiter (some m) _ seen stepped => do
      let (es, clock) ← mapOf σ (.mapv m)
      if clock = stepped then
        match seen.getLast? with
        | some stamp => match es.find? (fun x => x.2.2 == stamp) with
          | some x => return .tuple [x.1, x.2.1]
          | none => .error "entry removed"
        | none => .error "entry"
      else .error "entry"
    | _ => .error "entry"
  | _ => .error "entry"

def srcCells (σ : St) (sz : Nat) (x : AV) : R (List AV × Nat) :=
  match x with
  | .base (.slice none 0 _) => .ok ([], 0)
  | .sliceZ _ _ _ _ => .ok ([], 0)
  | .base (.string ⟨⟨l⟩⟩) => if sz = 1 then .ok (l.map fun c => intV .u8 c.toNat, l.length) else .error "source"
  | .slice b o len _ _ => do
    let cs ← cellsOf σ b
    let l ← takeN cs o (len * sz)
    return (l, len)
  | _ => .error "source"

def appendV (D : Tab) (σ : St) (sT xT : Nat) (s x : AV) : R (AV × St) := do
  let elem ← sliceElem D sT
  let sz ← size D elem
  let i ← inf D elem
  let xd ← und D xT
  let z ← zero D elem
  let (new, n) ← srcCells σ sz x
  if !(decide (n < 2 ^ 30) && decide (0 < i.bytes ∧ i.bytes < 2 ^ 14 ∧ 0 < sz) && !isIntD xd && z.cells.length == sz) then .error "append n" else
  match s with
  | .base (.slice none 0 0) =>
    if n = 0 then return (s, σ)
    else return (.slice σ.n 0 n none sz, σ.push (.cells new elem true sz))
  | .slice b o len cap sz' =>
    if !(decide (len + n < 2 ^ 30) && sz' == sz) then .error "append need" else do
    let cs ← cellsOf σ b
    let old ← takeN cs o (len * sz)
    match cap with
    | some c =>
      if len + n ≤ c then do
        let σ' ← storeCells σ b (o + len * sz) new
        return (.slice b o (len + n) cap sz, σ')
      else return (.slice σ.n 0 (len + n) none sz, σ.push (.cells (old ++ new) elem true sz))
    | none =>
      match σ.getO b with
      | .cells _ elem' own szb =>
        if !(elem' == elem && own && szb == sz && o % sz == 0) then .error "append not own" else
        if !(new.all AV.oneCell) then .error "append cells"
        else return (.slice σ.n 0 (len + n) none sz, (σ.set b .gone).push (.cells (old ++ new) elem true sz))
      | _ => .error "append block"
  | _ => .error "append"

def copyV (D : Tab) (σ : St) (dT : Nat) (dst src : AV) : R (AV × St) := do
  let elem ← sliceElem D dT
  let sz ← size D elem
  match dst with
  | .slice b o dlen _ _ => do
    let (new, n) ← srcCells σ sz src
    let σ' ← storeCells σ b o (new.take (min n dlen * sz))
    return (goI (min n dlen), σ')
  | _ => .error "copy"

def clearV (D : Tab) (σ : St) (t : Nat) (x : AV) : R (AV × St) := do
  let elem ← sliceElem D t
  match x with
  | .base (.slice none _ _) => return (.undef, σ)
  | .slice b o n _ _ => do
    let z ← zero D elem
    let σ' ← storeCells σ b o (repeatL z.cells n)
    return (.undef, σ')
  | _ => .error "clear"

def methodOf (D : Tab) (t : Nat) (v : AV) (name : String) : R (FuncId × AV) := do
  let i ← inf D t
  match i.methods.toList.find? (fun m => m.name == name) with
  | none => .error "method"
  | some m =>
    if !m.path.isEmpty then .error "method path" else
    match m.func with
    | none => .error "method func"
    | some (f, ptrRecv) => do
      let d ← und D t
      match d, ptrRecv with
      | .pointer _, true => return (f, v)
      | .pointer _, false => .error "method pointer"
      | _, false => return (f, v)
      | _, true => .error "method recv"

def callFn (D : Tab) (f : FuncId) (args : List AV) : R ANext :=
  match D.func f with
  | some fn =>
    if fn.name == "runtime.NumGoroutine" then .error "NumGoroutine" else
    if fn.body.isSome then .ok (.enter f args) else .error "no body"
  | none => .error "no func"

def callM (D : Tab) (recv : AV) (name : String) (args : List AV) : R ANext :=
  match recv with
  | .iface t v => do
    let (f, r) ← methodOf D t v name
    callFn D f (r :: args)
  | _ => .error "invoke nil"

def invokeT (D : Tab) (fn : Fn) (captured args : List AV) : R ANext :=
  match fn with
  | .func f => callFn D f (args ++ captured)
  | .method name => match args with
    | recv :: args => callM D recv name args
    | [] => .error "method value"
  | .methodOf t name => match args with
    | recv :: args => do
      let d ← und D t
      callM D (if isIfaceD d then recv else .iface t recv) name args
    | [] => .error "methodOf"
  | .via t path f pointer => match args with
    | x :: args =>
      if !path.isEmpty then .error "via path" else do
      let d ← und D t
      match d, pointer with
      | .pointer _, true => callFn D f (x :: args)
      | .pointer _, false => .error "via pointer"
      | _, false => callFn D f (x :: args)
      | _, true => .error "via"
    | [] => .error "via"
  | .yield _ => .error "yield"

/-- a call of a value -/
def callV (D : Tab) (f : AV) (args : List AV) : R ANext :=
  match f with
  | .yield l => .ok (.round l args)
  | .func fn first captured => invokeT D fn captured (first ++ args)
  | _ => .error "call function"

def extOf (D : Tab) : AV → Option ExtKind
  | .func (.func g) [] [] => D.ext g
  | _ => none

def baseVals : List AV → Option (List Value)
  | [] => some []
  | .base v :: l => match baseVals l with
    | some r => some (v :: r)
    | none => none
  | _ => none

/-- what a function without a body answers -/
def extV (D : Tab) (σ : St) (k : ExtKind) (args : List AV) : R (AV × St) :=
  match k, args with
  | .same, [x] => .ok (x, σ)
  | .noZero _ rs, [.base (.int .i64 n)] =>
    match rs[0]? with
    | some t => do
      let elem ← sliceElem D t
      if 0 ≤ n ∧ n < 2 ^ 30 then return (.slice σ.n 0 n.toNat none 1, σ.push (.cells [] elem true 1)) else .error "MakeNoZero"
    | none => .error "MakeNoZero"
  | .plain f, args =>
    match baseVals args with
    | some vs => match f vs.toArray with
      | .pure v => .ok (ofConst v, σ)
      | _ => .error "plain row"
    | none => .error "plain row"
  | .atomicLoad64, [.ptr b o] => do
    let cs ← cellsOf σ b
    match cs[o]? with
    | some (.base (.int .i64 n)) => return (.base (.int .i64 n), σ)
    | _ => .error "atomic"
  | .atomicAdd64, [.ptr b o, .base (.int _ d)] => do
    let cs ← cellsOf σ b
    match cs[o]? with
    | some (.base (.int .i64 n)) => do
      let σ' ← storeCells σ b o [.base (.int .i64 (IntKind.i64.wrap (n + d)))]
      return (.base (.int .i64 (IntKind.i64.wrap (n + d))), σ')
    | _ => .error "atomic"
  | _, _ => .error "no row"

/-- a string to its bytes -/
def toBytesV (D : Tab) (σ : St) (src dst : Nat) (x : AV) : R (AV × St) := do
  let _ ← und D src
  let d ← und D dst
  match d, x with
  | .slice el, .base (.string ⟨⟨l⟩⟩) => do
    let et ← und D el
    match et with
    | .int .u8 => return (.slice σ.n 0 l.length none 1, σ.push (.cells (l.map fun c => intV .u8 c.toNat) el false 1))
    | _ => .error "to bytes"
  | _, _ => .error "to bytes"

def sliceDataV (x : AV) : R AV :=
  match x with
  | .base (.slice none _ _) => .ok (.base (.pointer none))
  | .slice b o _ (some c) _ => if 0 < c then .ok (.ptr b o) else .error "SliceData"
  | .slice b o len none _ => if 0 < len then .ok (.ptr b o) else .error "SliceData"
  | _ => .error "SliceData"

/-- bytes that are a string from now on: never written again -/
def unsafeStringV (D : Tab) (σ : St) (t : Nat) (p n : AV) : R (AV × St) := do
  let (_, n) ← asI n
  if 0 ≤ n ∧ n < 2 ^ 40 then
    if n = 0 then
      match p with
      | .base (.pointer none) | .ptr _ _ => return (str [], σ)
      | _ => .error "unsafe.String"
    else do
      let d ← und D t
      match d, p with
      | .pointer el, .ptr b o => do
        let sz ← size D el
        let _ ← und D el
        if b < σ.n then
          match σ.getO b with
          | .cells cs elem own szb =>
            if own && elem == el && szb == 1 && sz == 1 then do
              let l ← takeN cs o n.toNat
              let r ← bytesL l
              return (str r, σ.set b (.cells cs elem false szb))
            else .error "unsafe.String own"
          | _ => .error "unsafe.String"
        else .error "unsafe.String"
      | _, _ => .error "unsafe.String"
  else .error "unsafe.String"

def actOp (D : Tab) (σ : St) (e : Operand → AV) (op : Op) : R (ANext × St) :=
  match op with
  | .store t a x => do
    let σ' ← storeV D σ t (e a) (e x)
    return (.skip, σ')
  | .mapUpdate t m k x | .insert t m k x => do
    let σ' ← mapUpdate D σ t (e m) (e k) (e x)
    return (.skip, σ')
  | .range t x => do
    let (v, σ') ← rangeV D σ t (e x)
    return (.value v, σ')
  | .next it isS => do
    let (v, σ') ← nextV σ (e it) isS
    return (.value v, σ')
  | .entry it => do
    let v ← entryV σ (e it)
    return (.value v, σ)
  | .convert s d x => do
    let (v, σ') ← toBytesV D σ s d (e x)
    return (.value v, σ')
  | .call c =>
    match c.callee with
    | .builtin b =>
      match b, c.argTypes.toList, c.args.toList with
      | .append, [t, u], [s, x] => do
        let (v, σ') ← appendV D σ t u (e s) (e x)
        return (.value v, σ')
      | .copy, t :: _, [d, s] => do
        let (v, σ') ← copyV D σ t (e d) (e s)
        return (.value v, σ')
      | .clear, t :: _, [x] => do
        let (v, σ') ← clearV D σ t (e x)
        return (.value v, σ')
      | .recover, _, _ => .ok (.recover, σ)
      | .unsafeSliceData, _, [x] => do
        let v ← sliceDataV (e x)
        return (.value v, σ)
      | .unsafeString, t :: _, [p, n] => do
        let (v, σ') ← unsafeStringV D σ t (e p) (e n)
        return (.value v, σ')
      | _, _, _ => .error "builtin"
    | .invoke recv name => do
      let nx ← callM D (e recv) name (c.args.toList.map e)
      return (nx, σ)
    | .value f =>
      match extOf D (e f) with
      | some k => do
        let (v, σ') ← extV D σ k (c.args.toList.map e)
        return (.value v, σ')
      | none => do
        let nx ← callV D (e f) (c.args.toList.map e)
        return (nx, σ)
  | .defer c =>
    match c.callee with
    | .value f => match e f with
      | .func fn first captured => .ok (.defer (.fn fn captured (first ++ c.args.toList.map e)), σ)
      | _ => .error "defer"
    | _ => .error "defer"
  | .panic x => match e x with
    | .iface t y => .ok (.panic (.iface t y), σ)
    | _ => .error "panic"
  | _ => .error "op"

def execOp (D : Tab) (e : Operand → AV) (σ : St) (op : Op) : R (ANext × St) :=
  match clsD D op with
  | .pure => do
    let v ← pureOp D e op
    return (.value v, σ)
  | .read => do
    let v ← readOp D σ e op
    return (.value v, σ)
  | .alloc => do
    let (v, o) ← allocOp D e op σ.n
    return (.value v, σ.push o)
  | .act => actOp D σ e op

end Go.Dt
namespace Go.Dt

def beqO : AO → AO → Bool
  | .cells cs e o s, .cells cs' e' o' s' => e == e' && o == o' && s == s' && beqL cs cs'
  | .gone, .gone => true
  | _, _ => false
def beqH : List AO → List AO → Bool
  | [], [] => true
  | x :: xs, y :: ys => beqO x y && beqH xs ys
  | _, _ => false

/- copies of data from one heap to another. own: from blocks of their own into such, else read only -/
def capChk (own : Bool) (cap : Option Nat) (o len sz k : Nat) : Bool :=
  match cap with
  | none => !own || Nat.beq (o % sz) 0
  | some c => Nat.blt 0 sz && Nat.ble len c && (!own || (Nat.ble (o + c * sz) k && Nat.beq (o % sz) 0))
def copyL (f : AV → St → R (AV × St)) : List AV → St → R (List AV × St)
  | [], dst => .ok ([], dst)
  | x :: l, dst => do
    let (x, dst) ← f x dst
    let (l, dst) ← copyL f l dst
    return (x :: l, dst)
def copyA (own : Bool) (src : St) : Nat → AV → St → R (AV × St)
  | 0, _, _ => .error "copy fuel"
  | n + 1, v, dst =>
    match v with
    | .base v => .ok (.base v, dst)
    | .slice b o len cap sz =>
      match src.getO b with
      | .cells cs elem ow sz' =>
        if (!own || (ow && sz' == sz)) && capChk own cap o len sz cs.length then do
          let l ← takeN cs o (len * sz)
          let (l, dst) ← copyL (copyA own src n) l dst
          return (.slice dst.n 0 len none sz, dst.push (.cells l elem own sz))
        else .error "copy not own"
      | _ => .error "copy cells"
    | .iface t v => do
      let (v, dst) ← copyA own src n v dst
      return (.iface t v, dst)
    | .agg l => do
      let (l, dst) ← copyL (copyA own src n) l dst
      return (.agg l, dst)
    | .tuple l => do
      let (l, dst) ← copyL (copyA own src n) l dst
      return (.tuple l, dst)
    | .func (.func f) [] [] => .ok (.func (.func f) [] [], dst)
    | _ => .error "copy"

/- the blocks that a value names -/
def refsL (f : AV → List Nat) : List AV → List Nat
  | [] => []
  | x :: l => f x ++ refsL f l
def refsA (src : St) : Nat → AV → List Nat
  | 0, _ => []
  | n + 1, v =>
    match v with
    | .slice b o len _ sz =>
      match src.getO b with
      | .cells cs _ _ _ => b :: refsL (refsA src n) ((cs.drop o).take (len * sz))
      | _ => []
    | .iface _ v => refsA src n v
    | .agg l => refsL (refsA src n) l
    | .tuple l => refsL (refsA src n) l
    | _ => []
def nodup : List Nat → Bool
  | [] => true
  | x :: l => !l.contains x && nodup l

def copyFuel : Nat := 30

def replGone : Nat → List AO
  | 0 => []
  | n + 1 => .gone :: replGone n
def freshSt (D : Tab) (M : MTree) : St := { n := D.nglob, l := replGone D.nglob, M }

def findMemo (f : FuncId) (args : List AV) (h : List AO) : List Memo → Option Memo
  | [] => none
  | m :: ms => if m.f == f && beqL m.args args && beqH m.heap h then some m else findMemo f args h ms

/- the ids of a value all lie below a bound -/
mutual
def bndA (n : Nat) : AV → Bool
  | .base _ => true
  | .ptr b _ => Nat.blt b n
  | .slice b _ _ _ _ => Nat.blt b n
  | .sliceZ b _ _ _ => Nat.blt b n
  | .mapv b => Nat.blt b n
  | .func _ a c => bndL n a && bndL n c
  | .yield l => Nat.blt l n
  | .iface _ v => bndA n v
  | .agg cs => bndL n cs
  | .tuple vs => bndL n vs
def bndL (n : Nat) : List AV → Bool
  | [] => true
  | v :: l => bndA n v && bndL n l
end
def bndO (n : Nat) : AO → Bool
  | .cells cs _ _ _ => bndL n cs
  | .map [] _ => true
  | _ => false

/- drawn regions -/

structure PlanItem where
  i : Nat
  lo : Nat
  act : Bool

def isAct (ops : Array Oper) (i : Nat) : Bool := clsOf (ops.getD i default).op == .act
def idxs (ops : Array Oper) : List Nat := List.range ops.size
def acts (ops : Array Oper) : List Nat := (idxs ops).filter (isAct ops)
def isBefore (b : Array Nat) (i j : Nat) : Bool := (b.getD j 0).testBit i

/- the plan: a guess that drawOk checks -/
def bitOf (m i : Nat) : Bool := Nat.beq (Nat.land (Nat.shiftRight m i) 1) 1
def nthN : List Nat → Nat → Nat
  | [], _ => 0
  | x :: l, i => bif Nat.beq i 0 then x else nthN l (Nat.sub i 1)
/-- acc: the masks so far, the last one first; k: how many -/
def edgesM (acc : List Nat) (k : Nat) : List Edge → Nat
  | [] => 0
  | e :: l =>
    bif Region.binds .any e then Nat.lor (Nat.lor (Nat.shiftLeft 1 e.on) (bif Nat.blt e.on k then nthN acc (Nat.sub (Nat.sub k 1) e.on) else 0)) (edgesM acc k l)
    else edgesM acc k l
def befL : List Oper → List Nat → Nat → List Nat
  | [], _, _ => []
  | o :: l, acc, k => edgesM acc k o.after.toList :: befL l (edgesM acc k o.after.toList :: acc) (Nat.succ k)
def isActO (o : Oper) : Bool :=
  match clsOf o.op with
  | .act => true
  | _ => false
def actIx : List Oper → Nat → List Nat
  | [], _ => []
  | o :: l, i => bif isActO o then i :: actIx l (Nat.succ i) else actIx l (Nat.succ i)
def inertIx : List Oper → Nat → List Nat
  | [], _ => []
  | o :: l, i => bif isActO o then inertIx l (Nat.succ i) else i :: inertIx l (Nat.succ i)
def cntB (m : Nat) : List Nat → Nat
  | [] => 0
  | a :: l => bif bitOf m a then Nat.succ (cntB m l) else cntB m l
def inertsBefore (bs as : List Nat) (m : Nat) (more : List PlanItem) : List Nat → List PlanItem
  | [] => more
  | i :: l => bif bitOf m i then ⟨i, cntB (nthN bs i) as, false⟩ :: inertsBefore bs as m more l else inertsBefore bs as m more l
def restOf (m : Nat) : List Nat → List Nat
  | [] => []
  | i :: l => bif bitOf m i then restOf m l else i :: restOf m l
def inertsAll (bs as : List Nat) : List Nat → List PlanItem
  | [] => []
  | i :: l => ⟨i, cntB (nthN bs i) as, false⟩ :: inertsAll bs as l
/-- the actives in their order, each behind the inert operations that must stand before it -/
def planFrom (bs as : List Nat) : List Nat → List Nat → List PlanItem
  | [], inert => inertsAll bs as inert
  | a :: rest, inert => inertsBefore bs as (nthN bs a) (⟨a, 0, true⟩ :: planFrom bs as rest (restOf (nthN bs a) inert)) inert
def planOf (ops : Array Oper) : List PlanItem :=
  planFrom (befL ops.toList [] 0) (actIx ops.toList 0) (actIx ops.toList 0) (inertIx ops.toList 0)

def dstAt (ops : Array Oper) (i : Nat) : Option Tmp := (ops[i]?).bind (·.dst)
def writes (ops : Array Oper) (p : List PlanItem) (t : Tmp) : Bool := p.any fun it => dstAt ops it.i == some t
def firstAct : List PlanItem → Option Nat
  | [] => none
  | it :: rest => if it.act then some it.i else firstAct rest
def looksAt (ops : Array Oper) (o : Oper) : List Tmp :=
  (o.op.operands.toList.filterMap fun | .tmp t => some t | _ => none) ++
  (match o.guard with
   | some (g, _) => ((ops[g]?).bind (·.dst)).toList
   | none => [])
def isSelect : Op → Bool
  | .select .. => true
  | _ => false

/-- b: what stands before what, as numbers; every mark in it rests on an edge -/
def marksOk (ops : Array Oper) (b : Array Nat) : Bool :=
  (idxs ops).all fun j => (idxs ops).all fun i => !isBefore b i j ||
    match ops[j]? with
    | some o => o.after.toList.any fun e => Region.binds .any e && (e.on == i || isBefore b i e.on)
    | none => false

def planChk (ops : Array Oper) (m : Nat) (b : Array Nat) (as : List Nat) : List Nat → List PlanItem → Bool
  | _, [] => true
  | seen, it :: rest =>
    (match ops[it.i]? with
    | none => false
    | some o =>
      Nat.blt it.i m && !isSelect o.op && !seen.contains it.i &&
      (o.after.toList.all fun e => !Region.binds .any e || seen.contains e.on) &&
      (match firstAct rest with
        | some a => isBefore b it.i a
        | none => true) &&
      (it.lo == 0 || match as[it.lo - 1]? with
        | some a => isBefore b a it.i
        | none => false) &&
      ((looksAt ops o).all fun t => !writes ops (it :: rest) t && (List.range m).all fun j => dstAt ops j != some t || isBefore b j it.i) &&
      (match o.dst with
        | some d => !writes ops rest d
        | none => true)) &&
    planChk ops m b as (it.i :: seen) rest

def befA (ops : Array Oper) : Array Nat := (befL ops.toList [] 0).toArray

/-- the first m operations stand ahead of all others -/
def aheadOk (ops : Array Oper) (m : Nat) : Bool :=
  (List.range m).all fun i => (idxs ops).all fun j => Nat.blt j m || isBefore (befA ops) i j

/-- the plan of the first m operations -/
def planM (ops : Array Oper) (m : Nat) : List PlanItem := (planOf ops).filter fun it => Nat.blt it.i m

def drawOk (ops : Array Oper) (m : Nat) : Bool :=
  Nat.ble m ops.size && aheadOk ops m && planChk ops m (befA ops) (((planM ops m).filter (·.act)).map (·.i)) [] (planM ops m) &&
  (List.range m).all fun i => (planM ops m).any fun it => it.i == i

def put (T : List AV) (dst : Option Tmp) (v : AV) : List AV :=
  match dst with
  | some d => T.set d v
  | none => T

def yieldedA (ops : Array Oper) (T : List AV) (j : Nat) : Option Bool :=
  match ((ops[j]?).bind (·.dst)).bind (T[·]?) with
  | some (.base (.bool b)) => some b
  | _ => none

def wantedA (ops : Array Oper) (o : Oper) (T : List AV) : Bool :=
  match o.guard with
  | none => true
  | some (j, want) => yieldedA ops T j == some want

inductive AEnd where
  | ret (v : AV)
  | panic (v : AV)

abbrev Pan := Option (AV × Bool)
abbrev CallT := FuncId → List AV → St → R (AEnd × St)
abbrev RoundT := Nat → List AV → St → R (AEnd × St)

inductive OpEnd where
  | go (T : List AV) (defers : List ADef) (pan : Pan) (σ : St)
  | panic (v : AV) (T : List AV) (defers : List ADef) (pan : Pan) (σ : St)

def runOne (D : Tab) (call : CallT) (round : RoundT) (isRound : Bool) (o : Oper) (T : List AV) (ds : List ADef) (pan : Pan) (σ : St) : R OpEnd := do
  let (nx, σ) ← execOp D (evalO D T) σ o.op
  match nx with
  | .value v => return .go (put T o.dst v) ds pan σ
  | .skip => return .go (put T o.dst .undef) ds pan σ
  | .defer d => if isRound then .error "defer in a round" else return .go (put T o.dst .undef) (d :: ds) pan σ
  | .recover =>
    if isRound then .error "recover in a round" else
    match pan with
    | some (v, false) => return .go (put T o.dst v) ds (some (v, true)) σ
    | _ => return .go (put T o.dst (.base .nilIface)) ds pan σ
  | .panic v => return .panic v T ds pan σ
  | .enter f args => do
    let (e, σ) ← call f args σ
    match e with
    | .ret v => return .go (put T o.dst v) ds pan σ
    | .panic v => return .panic v T ds pan σ
  | .round l args => do
    let (e, σ) ← round l args σ
    match e with
    | .ret v => return .go (put T o.dst v) ds pan σ
    | .panic v => return .panic v T ds pan σ

def runSeq (D : Tab) (call : CallT) (round : RoundT) (isRound : Bool) (ops : Array Oper) : List Oper → List AV → List ADef → Pan → St → R OpEnd
  | [], T, ds, pan, σ => .ok (.go T ds pan σ)
  | o :: rest, T, ds, pan, σ =>
    if wantedA ops o T then do
      let r ← runOne D call round isRound o T ds pan σ
      match r with
      | .go T ds pan σ => runSeq D call round isRound ops rest T ds pan σ
      | .panic v T ds pan σ => return .panic v T ds pan σ
    else runSeq D call round isRound ops rest (put T o.dst .undef) ds pan σ

/-- a read gives one value in each of these memories -/
def sameAt (D : Tab) (T : List AV) (op : Op) (v : AV) (snap : St) : Bool :=
  match readOp D snap (evalO D T) op with
  | .ok v' => beqA v' v
  | .error _ => false

/-- snaps: memory at the region's begin, and behind each active operation so far, the last one first -/
def runDraw (D : Tab) (call : CallT) (round : RoundT) (isRound : Bool) (ops : Array Oper) : List PlanItem → List St → List AV → List ADef → Pan → St → R OpEnd
  | [], _, T, ds, pan, σ => .ok (.go T ds pan σ)
  | it :: rest, snaps, T, ds, pan, σ =>
    match ops[it.i]? with
    | none => .error "runDraw"
    | some o =>
    if wantedA ops o T then
      if it.act then do
        if o.op.operands.toList.all fun x => bndA σ.n (evalO D T x) then do
          let r ← runOne D call round isRound o T ds pan σ
          match r with
          | .go T ds pan σ' => if σ.n ≤ σ'.n then runDraw D call round isRound ops rest (σ' :: snaps) T ds pan σ' else .error "runDraw n"
          | .panic .. => .error "panic in a drawn region"
        else .error "runDraw ids"
      else
        match clsD D o.op with
        | .pure => do
          let v ← pureOp D (evalO D T) o.op
          runDraw D call round isRound ops rest snaps (put T o.dst v) ds pan σ
        | .read => do
          let v ← readOp D σ (evalO D T) o.op
          if it.lo < snaps.length && (snaps.take (snaps.length - it.lo)).all (sameAt D T o.op v) then
            runDraw D call round isRound ops rest snaps (put T o.dst v) ds pan σ
          else .error "unstable read"
        | .alloc => do
          let (v, ob) ← allocOp D (evalO D T) o.op σ.n
          if bndO (σ.n + 1) ob then runDraw D call round isRound ops rest snaps (put T o.dst v) ds pan (σ.push ob) else .error "runDraw object"
        | .act => .error "runDraw"
    else
      runDraw D call round isRound ops rest (if it.act then σ :: snaps else snaps) (put T o.dst .undef) ds pan σ

/- the rest of a drawn region, in every order -/
structure ES where
  mask : Nat
  T : List AV
  n : Nat
  l : List AO

def stepE (D : Tab) (ops : Array Oper) (o : Oper) (T : List AV) (σ : St) : R (List AV × St) :=
  if wantedA ops o T then
    match clsD D o.op with
    | .pure => do
      let v ← pureOp D (evalO D T) o.op
      return (put T o.dst v, σ)
    | .read => do
      let v ← readOp D σ (evalO D T) o.op
      return (put T o.dst v, σ)
    | .act =>
      match o.op with
      | .store t a x => do
        let σ' ← storeV D σ t (evalO D T a) (evalO D T x)
        return (put T o.dst .undef, σ')
      | _ => .error "enum act"
    | .alloc => .error "enum alloc"
  else .ok (put T o.dst .undef, σ)

def insE (eqT : List AV → List AV → Bool) (eqH : List AO → List AO → Bool) (s : ES) : List ES → R (List ES)
  | [] => .ok [s]
  | x :: l =>
    bif Nat.beq x.mask s.mask then
      (bif eqT x.T s.T then bif Nat.beq x.n s.n then bif eqH x.l s.l then .ok (x :: l) else .error "enum heap" else .error "enum n" else .error "enum T")
    else
      match insE eqT eqH s l with
      | .ok l => .ok (x :: l)
      | .error e => .error e

def readyE (m mask : Nat) : List Edge → Bool
  | [] => true
  | e :: l => bif Region.binds .any e then bif Nat.blt e.on m then readyE m mask l else bif bitOf mask e.on then readyE m mask l else false else readyE m mask l

def canE (ops : Array Oper) (m mask i : Nat) : Bool :=
  bif bitOf mask i then false else
  match ops[i]? with
  | some o => readyE m mask o.after.toList
  | none => false

def expE (D : Tab) (eqT : List AV → List AV → Bool) (eqH : List AO → List AO → Bool) (ops : Array Oper) (m : Nat) (M : MTree) (s : ES) : List Nat → List ES → R (List ES)
  | [], acc => .ok acc
  | i :: is, acc =>
    bif canE ops m s.mask i then
      match ops[i]? with
      | none => .error "enum"
      | some o =>
        match stepE D ops o s.T { n := s.n, l := s.l, M := M } with
        | .ok r =>
          (match insE eqT eqH { mask := Nat.lor s.mask (Nat.shiftLeft 1 i), T := r.1, n := r.2.n, l := r.2.l } acc with
          | .ok acc => expE D eqT eqH ops m M s is acc
          | .error e => .error e)
        | .error e => .error e
    else expE D eqT eqH ops m M s is acc

def anyE (ops : Array Oper) (m mask : Nat) : List Nat → Bool
  | [] => false
  | i :: is => bif canE ops m mask i then true else anyE ops m mask is

def levE (D : Tab) (eqT : List AV → List AV → Bool) (eqH : List AO → List AO → Bool) (ops : Array Oper) (m : Nat) (M : MTree) (is : List Nat) : List ES → List ES → R (List ES)
  | [], acc => .ok acc
  | s :: fr, acc =>
    bif anyE ops m s.mask is then
      match expE D eqT eqH ops m M s is acc with
      | .ok acc => levE D eqT eqH ops m M is fr acc
      | .error e => .error e
    else .error "enum stuck"

def fullE (mask : Nat) : List Nat → Bool
  | [] => true
  | i :: is => bif bitOf mask i then fullE mask is else false

def enumE (D : Tab) (eqT : List AV → List AV → Bool) (eqH : List AO → List AO → Bool) (ops : Array Oper) (m : Nat) (M : MTree) (is : List Nat) : Nat → List ES → R ES
  | 0, fr =>
    (match fr with
    | [s] => bif fullE s.mask is then .ok s else .error "enum end"
    | _ => .error "enum end")
  | k + 1, fr =>
    match levE D eqT eqH ops m M is fr [] with
    | .ok fr => enumE D eqT eqH ops m M is k fr
    | .error e => .error e

/-- the operations behind the first m -/
def tailIx (ops : Array Oper) (m : Nat) : List Nat := (List.range ops.size).drop m

def runRest (D : Tab) (eqT : List AV → List AV → Bool) (eqH : List AO → List AO → Bool) (ops : Array Oper) (m : Nat) (T : List AV) (σ : St) : R (List AV × St) :=
  if ops.size ≤ m then .ok (T, σ) else
  match enumE D eqT eqH ops m σ.M (tailIx ops m) (ops.size - m) [{ mask := 0, T := T, n := σ.n, l := σ.l }] with
  | .ok s => .ok (s.T, { n := s.n, l := s.l, M := σ.M })
  | .error e => .error e

def runRegion (D : Tab) (call : CallT) (round : RoundT) (isRound : Bool) (ops : Array Oper) (draw : Bool) (T : List AV) (ds : List ADef) (pan : Pan) (σ : St) : R OpEnd :=
  if draw then
    if drawOk ops (D.cut ops) then do
      let r ← runDraw D call round isRound ops (planM ops (D.cut ops)) [σ] T ds pan σ
      match r with
      | .go T ds pan σ =>
        if ops.size = D.cut ops + 1 then
          if canE ops (D.cut ops) 0 (D.cut ops) then runSeq D call round isRound ops (ops.toList.drop (D.cut ops)) T ds pan σ else .error "last"
        else do
        let r ← runRest D beqL beqH ops (D.cut ops) T σ
        return .go r.1 ds pan r.2
      | .panic .. => .error "panic in a drawn region"
    else .error ("plan " ++ (ops[0]?.map (·.pos)).getD "")
  else runSeq D call round isRound ops ops.toList T ds pan σ

/- where to cut: a guess out of a table, by the region's length and the first and last targets -/
def dstCode : Option Tmp → Nat
  | none => 0
  | some d => Nat.succ d
def lastCode : List Oper → Nat
  | [] => 0
  | o :: l =>
    match l with
    | [] => dstCode o.dst
    | _ => lastCode l
def lenO : List Oper → Nat
  | [] => 0
  | _ :: l => Nat.succ (lenO l)
def cutIn (n a b : Nat) : List (Nat × Nat × Nat × Nat) → Nat
  | [] => n
  | (n', a', b', m) :: l => bif Nat.beq n n' then bif Nat.beq a a' then bif Nat.beq b b' then m else cutIn n a b l else cutIn n a b l else cutIn n a b l
def cutBy (tbl : List (Nat × Nat × Nat × Nat)) (ops : Array Oper) : Nat :=
  match ops.toList with
  | [] => 0
  | o :: l => cutIn (lenO (o :: l)) (dstCode o.dst) (lastCode (o :: l)) tbl

/-- a call of a function, which may panic, as the last operation: cut ahead of it -/
def isCallO : Option Oper → Bool
  | some o => match o.op with
    | .call c => match c.callee with
      | .builtin _ => false
      | _ => true
    | _ => false
  | none => false

/-- where to cut: a guess -/
def findCut0 (ops : Array Oper) : Nat → Nat
  | 0 => 0
  | m + 1 => if drawOk ops (m + 1) then m + 1 else findCut0 ops m

def findCut (ops : Array Oper) (n : Nat) : Nat :=
  if isCallO ops[ops.size - 1]? && decide (2 ≤ ops.size) && drawOk ops (ops.size - 1) && canE ops (ops.size - 1) 0 (ops.size - 1) then ops.size - 1 else findCut0 ops n

end Go.Dt
namespace Go.Dt

structure Loc where
  block : Nat
  shift : Nat
  capz : Nat
  sz : Nat
  deriving Inhabited

def Loc.at (L : Loc) (o : Nat) : Addr := ⟨L.block, L.shift + o, none⟩

mutual
def conc (ι : Nat → Loc) : AV → Value
  | .base v => v
  | .ptr b o => .pointer (some ((ι b).at o))
  | .slice b o len (some c) _ => .slice (some ((ι b).at o)) len c
  | .slice b o len none _ => .slice (some ((ι b).at o)) len ((ι b).capz - o / (ι b).sz)
  | .sliceZ b o l _ =>
    if (ι b).capz - o / (ι b).sz = l then .slice (some ((ι b).at o)) 0 0
    else .slice (some ((ι b).at (o + l * (ι b).sz))) 0 ((ι b).capz - o / (ι b).sz - l)
  | .mapv b => .map (some (ι b).block)
  | .func fn a c => .func fn (concL ι a).toArray (concL ι c).toArray
  | .yield l => .func (.yield (ι l).block) #[] #[]
  | .iface t v => .iface t (conc ι v)
  | .agg cs => .agg (concL ι cs).toArray
  | .tuple vs => .tuple (concL ι vs).toArray
def concL (ι : Nat → Loc) : List AV → List Value
  | [] => []
  | v :: l => conc ι v :: concL ι l
end

theorem concL_eq (ι : Nat → Loc) (l : List AV) : concL ι l = l.map (conc ι) := by
  induction l with
  | nil => simp [concL]
  | cons v l ih => simp [concL, ih]

/- the blocks of a value all lie in a set, and slices of open blocks fit them -/
mutual
def ids (ι : Nat → Loc) (A : Nat → Prop) : AV → Prop
  | .base _ => True
  | .ptr b _ => A b
  | .slice b _ _ (some _) _ => A b
  | .slice b o len none sz => A b ∧ (ι b).sz = sz ∧ 0 < sz ∧ o / sz + len ≤ (ι b).capz
  | .sliceZ b o l sz => A b ∧ (ι b).sz = sz ∧ 0 < sz ∧ o / sz + l ≤ (ι b).capz
  | .mapv b => A b
  | .func _ a c => idsL ι A a ∧ idsL ι A c
  | .yield l => A l
  | .iface _ v => ids ι A v
  | .agg cs => idsL ι A cs
  | .tuple vs => idsL ι A vs
def idsL (ι : Nat → Loc) (A : Nat → Prop) : List AV → Prop
  | [] => True
  | v :: l => ids ι A v ∧ idsL ι A l
end

theorem idsL_iff {ι : Nat → Loc} {A : Nat → Prop} {l : List AV} : idsL ι A l ↔ ∀ v, v ∈ l → ids ι A v := by
  induction l with
  | nil => simp [idsL]
  | cons v l ih => simp [idsL, ih]

mutual
theorem ids_mono {ι ι' : Nat → Loc} {A B : Nat → Prop} (h : ∀ b, A b → B b ∧ ι' b = ι b) : ∀ (v : AV), ids ι A v → ids ι' B v
  | .base _, _ => trivial
  | .ptr b _, k => (h b k).1
  | .slice b _ _ (some _) _, k => (h b k).1
  | .slice b _ _ none _, k => ⟨(h b k.1).1, by rw [(h b k.1).2]; exact k.2⟩
  | .sliceZ b _ _ _, k => ⟨(h b k.1).1, by rw [(h b k.1).2]; exact k.2⟩
  | .mapv b, k => (h b k).1
  | .func _ a c, k => ⟨idsL_mono h a k.1, idsL_mono h c k.2⟩
  | .yield l, k => (h l k).1
  | .iface _ v, k => ids_mono h v k
  | .agg cs, k => idsL_mono h cs k
  | .tuple vs, k => idsL_mono h vs k
theorem idsL_mono {ι ι' : Nat → Loc} {A B : Nat → Prop} (h : ∀ b, A b → B b ∧ ι' b = ι b) : ∀ (l : List AV), idsL ι A l → idsL ι' B l
  | [], _ => trivial
  | v :: l, k => ⟨ids_mono h v k.1, idsL_mono h l k.2⟩
end

mutual
theorem conc_agree {ι ι' : Nat → Loc} {A : Nat → Prop} (h : ∀ b, A b → ι' b = ι b) : ∀ (v : AV), ids ι A v → conc ι' v = conc ι v
  | .base _, _ => by simp [conc]
  | .ptr b _, k => by simp [conc, h b k]
  | .slice b _ _ (some _) _, k => by simp [conc, h b k]
  | .slice b _ _ none _, k => by simp [conc, h b k.1]
  | .sliceZ b _ _ _, k => by simp [conc, h b k.1]
  | .mapv b, k => by simp [conc, h b k]
  | .func _ a c, k => by simp [conc, concL_agree h a k.1, concL_agree h c k.2]
  | .yield l, k => by simp [conc, h l k]
  | .iface _ v, k => by simp [conc, conc_agree h v k]
  | .agg cs, k => by simp [conc, concL_agree h cs k]
  | .tuple vs, k => by simp [conc, concL_agree h vs k]
theorem concL_agree {ι ι' : Nat → Loc} {A : Nat → Prop} (h : ∀ b, A b → ι' b = ι b) : ∀ (l : List AV), idsL ι A l → concL ι' l = concL ι l
  | [], _ => by simp [concL]
  | v :: l, k => by simp [concL, conc_agree h v k.1, concL_agree h l k.2]
end

theorem map_base (ι : Nat → Loc) (l : List Value) : concL ι (l.map .base) = l := by
  induction l with
  | nil => simp [concL]
  | cons v l ih => simp [concL, conc, ih]

theorem conc_ofConst1 (ι : Nat → Loc) (v : Value) : conc ι (ofConst1 v) = v := by
  cases v <;> simp [ofConst1, conc, map_base]

theorem concL_ofConst1 (ι : Nat → Loc) (l : List Value) : concL ι (l.map ofConst1) = l := by
  induction l with
  | nil => simp [concL]
  | cons v l ih => simp [concL, conc_ofConst1, ih]

@[simp] theorem conc_ofConst (ι : Nat → Loc) (v : Value) : conc ι (ofConst v) = v := by
  cases v <;> simp [ofConst, conc, map_base, concL_ofConst1]

theorem idsL_base (ι : Nat → Loc) (A : Nat → Prop) (l : List Value) : idsL ι A (l.map .base) := by
  induction l with
  | nil => trivial
  | cons v l ih => exact ⟨trivial, ih⟩
theorem ids_ofConst1 (ι : Nat → Loc) (A : Nat → Prop) (v : Value) : ids ι A (ofConst1 v) := by
  cases v <;> simp [ofConst1, ids, idsL_base]
theorem idsL_ofConst1 (ι : Nat → Loc) (A : Nat → Prop) (l : List Value) : idsL ι A (l.map ofConst1) := by
  induction l with
  | nil => trivial
  | cons v l ih => exact ⟨ids_ofConst1 ι A v, ih⟩
theorem ids_ofConst (ι : Nat → Loc) (A : Nat → Prop) (v : Value) : ids ι A (ofConst v) := by
  cases v <;> simp [ofConst, ids, idsL_base, idsL_ofConst1]

@[simp] theorem conc_undef (ι : Nat → Loc) : conc ι .undef = undef := by simp [AV.undef, conc, concL, undef]
theorem ids_undef (ι : Nat → Loc) (A : Nat → Prop) : ids ι A .undef := by simp [AV.undef, ids, idsL]

@[simp] theorem bind_ok {α β : Type} {x : R α} {f : α → R β} {b : β} : (x >>= f) = .ok b ↔ ∃ a, x = .ok a ∧ f a = .ok b := by
  cases x with
  | error e => simp [bind, Except.bind]
  | ok a => simp [bind, Except.bind]
@[simp] theorem pure_ok {α : Type} {a b : α} : (pure a : R α) = .ok b ↔ a = b := by simp [pure, Except.pure]

theorem conc_oneCell {ι : Nat → Loc} {v : AV} (h : v.oneCell = true) : ∀ cs, conc ι v ≠ .agg cs ∧ conc ι v ≠ .tuple cs := by
  intro cs
  cases v with
  | base v => cases v <;> simp_all [AV.oneCell, conc]
  | slice b o len cap sz => cases cap <;> simp [conc]
  | sliceZ b o l s => simp only [conc]; split <;> simp
  | _ => simp_all [AV.oneCell, conc]

theorem conc_slice (ι : Nat → Loc) (b o len : Nat) (cap : Option Nat) (sz : Nat) :
    ∃ c, conc ι (.slice b o len cap sz) = .slice (some ((ι b).at o)) len c := by
  cases cap with
  | none => exact ⟨(ι b).capz - o / (ι b).sz, by simp only [conc]⟩
  | some c => exact ⟨c, by simp only [conc]⟩
theorem conc_sliceZ (ι : Nat → Loc) (b o l sz : Nat) : ∃ a c, conc ι (.sliceZ b o l sz) = .slice (some a) 0 c := by
  simp only [conc]
  split
  · exact ⟨_, _, rfl⟩
  · exact ⟨_, _, rfl⟩

/-- the cells of what is meant are what is meant of the cells -/
theorem conc_cells {ι : Nat → Loc} (v : AV) : (conc ι v).cells = (concL ι v.cells).toArray := by
  cases v with
  | base v => cases v <;> simp_all [conc, AV.cells, Value.cells, concL, map_base]
  | slice b o len cap sz => cases cap <;> simp [conc, Value.cells, AV.cells, concL]
  | sliceZ b o l s => simp only [conc, AV.cells, concL]; split <;> simp [Value.cells]
  | _ => simp [conc, AV.cells, Value.cells, concL]

theorem ids_cells {ι : Nat → Loc} {A : Nat → Prop} {v : AV} (h : ids ι A v) : idsL ι A v.cells := by
  cases v with
  | base v => cases v <;> simp [AV.cells, idsL, ids, idsL_base]
  | agg cs => simpa [AV.cells, ids] using h
  | _ => simpa [AV.cells, idsL] using h

@[simp] theorem concL_length (ι : Nat → Loc) (l : List AV) : (concL ι l).length = l.length := by simp [concL_eq]
@[simp] theorem concL_append (ι : Nat → Loc) (l m : List AV) : concL ι (l ++ m) = concL ι l ++ concL ι m := by simp [concL_eq]
@[simp] theorem concL_getElem? (ι : Nat → Loc) (l : List AV) (i : Nat) : (concL ι l)[i]? = (l[i]?).map (conc ι) := by simp [concL_eq]
@[simp] theorem concL_drop (ι : Nat → Loc) (l : List AV) (i : Nat) : concL ι (l.drop i) = (concL ι l).drop i := by simp [concL_eq]
@[simp] theorem concL_take (ι : Nat → Loc) (l : List AV) (i : Nat) : concL ι (l.take i) = (concL ι l).take i := by simp [concL_eq]
theorem idsL_get {ι : Nat → Loc} {A : Nat → Prop} {l : List AV} {i : Nat} {v : AV} (h : idsL ι A l) (hv : l[i]? = some v) : ids ι A v :=
  idsL_iff.1 h v (List.mem_of_getElem? hv)
theorem idsL_drop {ι : Nat → Loc} {A : Nat → Prop} {l : List AV} (h : idsL ι A l) (i : Nat) : idsL ι A (l.drop i) :=
  idsL_iff.2 fun v hv => idsL_iff.1 h v (List.mem_of_mem_drop hv)
theorem idsL_take {ι : Nat → Loc} {A : Nat → Prop} {l : List AV} (h : idsL ι A l) (i : Nat) : idsL ι A (l.take i) :=
  idsL_iff.2 fun v hv => idsL_iff.1 h v (List.mem_of_mem_take hv)
theorem idsL_append {ι : Nat → Loc} {A : Nat → Prop} {l m : List AV} : idsL ι A (l ++ m) ↔ idsL ι A l ∧ idsL ι A m := by
  simp [idsL_iff, or_imp, forall_and]
theorem idsL_set {ι : Nat → Loc} {A : Nat → Prop} {l : List AV} {v : AV} (h : idsL ι A l) (hv : ids ι A v) (i : Nat) : idsL ι A (l.set i v) :=
  idsL_iff.2 fun x hx => by
    rcases List.mem_or_eq_of_mem_set hx with h1 | h1
    · exact idsL_iff.1 h x h1
    · exact h1 ▸ hv

end Go.Dt
namespace Go.Dt

structure Fits (D : Tab) (P : Program) : Prop where
  func : ∀ i f, D.func i = some f → P.funcs[i]? = some f
  info : ∀ t i, D.info t = some i → P.info? t = some i
  eqOk : ∀ t, D.eqOk t = true → P.stoodInHeld t = false
  ext : ∀ g k, D.ext g = some k → ∃ fn, P.funcs[g]? = some fn ∧ (fn.name == "runtime.NumGoroutine") = false ∧ fn.body.isNone = true ∧ (Extern.findNext fn).isNone = true ∧ Extern.find fn = some k.sem
  depth : 10 ≤ P.depth
  mixed : P.follows .mixedOrders = true

section
variable {D : Tab} {P : Program} (F : Fits D P) {ι : Nat → Loc} (w : World)
include F

theorem inf_ok {t : Nat} {i : TypeInfo} (h : inf D t = .ok i) : P.info? t = some i := by
  unfold inf at h
  split at h <;> simp at h
  rename_i j hj
  exact F.info _ _ (h ▸ hj)

theorem und_ok {t : Nat} {d : TypeDesc} (h : und D t = .ok d) : P.underlying t = some d := by
  unfold und at h
  unfold Program.underlying
  split at h
  · rename_i i hi
    rw [F.info _ _ hi]
    rcases i with ⟨desc, a1, a2, a3, a4, a5, a6, a7, a8, a9⟩
    cases desc with
    | named nm u =>
      simp only at h ⊢
      split at h
      · rename_i j hj
        simp at h
        rw [F.info _ _ hj]
        simp [h]
      · simp at h
    | _ => simpa using h
  · simp at h

theorem run_und {t : Nat} {d : TypeDesc} (h : und D t = .ok d) : (underlying t).run P w = .ok d w := run_underlying (und_ok F h) w

theorem size_ok {t n : Nat} (h : size D t = .ok n) : ∃ i, P.info? t = some i ∧ i.size = n := by
  unfold size at h
  split at h <;> simp at h
  rename_i i hi
  exact ⟨i, F.info _ _ hi, h⟩

omit F in
theorem run_info {t : Nat} {i : TypeInfo} (h : P.info? t = some i) : (typeInfo t).run P w = .ok i w := by
  simp [typeInfo, h]

theorem run_inf {t : Nat} {i : TypeInfo} (h : inf D t = .ok i) : (typeInfo t).run P w = .ok i w := run_info w (inf_ok F h)

theorem run_size {t n : Nat} (h : size D t = .ok n) : (sizeOf t).run P w = .ok n w := by
  obtain ⟨i, hi, rfl⟩ := size_ok F h
  simp [sizeOf, run_info w hi]

theorem run_zero {t : Nat} {z : AV} (h : zero D t = .ok z) : (zeroValue t).run P w = .ok (conc ι z) w := by
  unfold zero at h
  split at h
  · rename_i i hi
    split at h
    · rename_i v hv
      simp at h
      subst h
      simp [zeroValue, run_info w (F.info _ _ hi), hv]
    · simp at h
  · simp at h

omit F in
theorem zero_ids {t : Nat} {z : AV} (h : zero D t = .ok z) (A : Nat → Prop) : ids ι A z := by
  unfold zero at h
  split at h
  · split at h
    · simp at h; subst h; exact ids_ofConst ι A _
    · simp at h
  · simp at h

theorem run_isAgg {t : Nat} {d : TypeDesc} (h : und D t = .ok d) : (isAgg t).run P w = .ok (isAggD d) w := by
  simp only [isAgg, Sem.run_bind, run_und F w h, Result.andThen_ok]
  cases d <;> simp [isAggD]

theorem run_part {t off : Nat} {cs : List AV} {v : AV} (h : part D t cs off = .ok v) :
    (Go.part t (concL ι cs).toArray off).run P w = .ok (conc ι v) w := by
  simp only [part, bind_ok] at h
  obtain ⟨d, hd, h⟩ := h
  simp only [Go.part, Sem.run_bind, run_isAgg F w hd, Result.andThen_ok]
  split at h
  · rename_i hagg
    simp only [bind_ok, pure_ok] at h
    obtain ⟨n, hn, rfl⟩ := h
    simp only [hagg, if_true, Sem.run_bind, run_size F w hn, Result.andThen_ok, Sem.run_pure, conc]
    congr 2
    simp [List.extract_eq_take_drop]
  · rename_i hagg
    have hagg' : isAggD d = false := by simpa using hagg
    simp only [hagg', Bool.false_eq_true, if_false]
    split at h
    · rename_i x hx
      simp at h
      subst h
      simp [hx]
    · simp at h

omit F in
theorem part_ids {A : Nat → Prop} {t off : Nat} {cs : List AV} {v : AV} (h : part D t cs off = .ok v) (hi : idsL ι A cs) : ids ι A v := by
  simp only [part, bind_ok] at h
  obtain ⟨d, hd, h⟩ := h
  split at h
  · simp only [bind_ok, pure_ok] at h
    obtain ⟨n, hn, rfl⟩ := h
    exact idsL_take (idsL_drop hi _) _
  · split at h
    · rename_i x hx
      simp at h
      exact h ▸ idsL_get hi hx
    · simp at h

end
end Go.Dt
namespace Go.Dt
section
variable {D : Tab} {P : Program} (F : Fits D P) {ι : Nat → Loc} (w : World)
include F

theorem run_eqFields {d : Nat} {rec_ : Nat → AV → AV → R Bool}
    (hrec : ∀ t x y b, rec_ t x y = .ok b → (Op.equalIn d t (conc ι x) (conc ι y)).run P w = .ok b w) {xs ys : List AV} :
    ∀ (fs : List Field) (b : Bool), eqFields D rec_ xs ys fs = .ok b → (Op.eqFields d (concL ι xs).toArray (concL ι ys).toArray fs).run P w = .ok b w := by
  intro fs
  induction fs with
  | nil => intro b h; simp [eqFields] at h; subst h; simp [Op.eqFields]
  | cons f fs ih =>
    intro b h
    simp only [eqFields] at h
    simp only [Op.eqFields]
    split at h
    · rename_i hn
      simp only [hn, ne_eq, not_true, if_false]
      exact ih b h
    · rename_i hn
      simp only [bind_ok] at h
      obtain ⟨x, hx, y, hy, r, hr, h⟩ := h
      simp only [hn, ne_eq, not_false_eq_true, if_true, Sem.run_bind, run_part F w hx, run_part F w hy, Result.andThen_ok, hrec _ _ _ _ hr, Sem.run_ite, Sem.run_pure]
      cases r with
      | true => simpa using ih b (by simpa using h)
      | false => simp at h; subst h; simp

theorem run_eqElems {d : Nat} {rec_ : Nat → AV → AV → R Bool}
    (hrec : ∀ t x y b, rec_ t x y = .ok b → (Op.equalIn d t (conc ι x) (conc ι y)).run P w = .ok b w) {elem n : Nat} {xs ys : List AV} :
    ∀ (m i : Nat) (b : Bool), eqElems D rec_ elem n xs ys m i = .ok b →
      (Op.eqItems d elem n (concL ι xs).toArray (concL ι ys).toArray (List.range' i m)).run P w = .ok b w := by
  intro m
  induction m with
  | zero => intro i b h; simp [eqElems] at h; subst h; simp [Op.eqItems]
  | succ m ih =>
    intro i b h
    simp only [eqElems, bind_ok] at h
    obtain ⟨x, hx, y, hy, r, hr, h⟩ := h
    simp only [List.range'_succ, Op.eqItems, Sem.run_bind, run_part F w hx, run_part F w hy, Result.andThen_ok, hrec _ _ _ _ hr, Sem.run_ite, Sem.run_pure]
    cases r with
    | true => simpa using ih (i + 1) b (by simpa using h)
    | false => simp at h; subst h; simp

theorem run_eqLeaf {d t : Nat} {ty : TypeDesc} {x y : AV} {b : Bool} (ht : und D t = .ok ty) (h : eqLeaf ty x y = .ok b) :
    (Op.equalIn (d + 1) t (conc ι x) (conc ι y)).run P w = .ok b w := by
  simp only [Op.equalIn, Sem.run_bind, run_und F w ht, Result.andThen_ok]
  unfold eqLeaf at h
  split at h <;> (try (simp at h; done)) <;> (try (simp at h; subst h; simp [conc]; done))
  · -- int
    split at h
    · rename_i k k' hk
      simp at h; subst h; simp [conc, hk]
    · simp at h
  · -- string
    simp at h; subst h
    rename_i a b
    simp only [conc]
    simp only [Sem.run_pure, Result.ok.injEq, and_true]
    show ((⟨⟨a⟩⟩ : ByteArray) == ⟨⟨b⟩⟩) = (a == b)
    rw [Go.beq_toListBytes, ByteArray.toList_eq, ByteArray.toList_eq]
  · rename_i b o len cap sz
    simp at h; subst h
    obtain ⟨c, hc⟩ := conc_slice ι b o len cap sz
    rw [hc]; simp [conc]
  · rename_i b o l sz
    simp at h; subst h
    obtain ⟨a, c, hc⟩ := conc_sliceZ ι b o l sz
    rw [hc]; simp [conc]
  · rename_i b o len cap sz _ _
    simp at h; subst h
    obtain ⟨c, hc⟩ := conc_slice ι b o len cap sz
    rw [hc]; simp [conc]
  · rename_i b o l sz _ _
    simp at h; subst h
    obtain ⟨a, c, hc⟩ := conc_sliceZ ι b o l sz
    rw [hc]; simp [conc]

theorem run_eqV : ∀ (d t : Nat) (x y : AV) (b : Bool), eqV D d t x y = .ok b → ∀ k, d ≤ k → (Op.equalIn k t (conc ι x) (conc ι y)).run P w = .ok b w := by
  intro d
  induction d with
  | zero => intro t x y b h; simp [eqV] at h
  | succ d ih =>
    intro t x y b h k hk
    obtain ⟨k, rfl⟩ : ∃ j, k = j + 1 := ⟨k - 1, by omega⟩
    have ih' : ∀ t x y b, eqV D d t x y = .ok b → (Op.equalIn k t (conc ι x) (conc ι y)).run P w = .ok b w := fun t x y b h => ih t x y b h k (by omega)
    simp only [eqV, bind_ok] at h
    obtain ⟨ty, hty, h⟩ := h
    split at h
    · rename_i fields xs ys
      split at h
      · rename_i hq
        have hu := und_ok F hty
        have hf : P.fieldsOf t = fields := by simp [Program.fieldsOf, hu]
        simp only [conc]
        rw [run_equalIn_struct w k t _ _ (by rw [hf]; exact hu) (F.eqOk _ hq), hf]
        exact run_eqFields F w ih' _ _ h
      · simp at h
    · rename_i len elem xs ys
      simp only [bind_ok] at h
      obtain ⟨n, hn, h⟩ := h
      have key := run_eqElems F w ih' _ _ _ h
      obtain ⟨i, hi, rfl⟩ := size_ok F hn
      have hc : P.cellsOf elem = i.size := by simp [Program.cellsOf, hi]
      simp only [conc]
      rw [Go.run_equalIn_array w k _ _ (und_ok F hty) hi, hc, List.range_eq_range']
      exact key
    · rename_i elem b1 o1 b2 o2
      simp only [bind_ok] at h
      obtain ⟨n, hn, h⟩ := h
      split at h
      · rename_i hc
        obtain ⟨rfl, hn0⟩ := hc
        simp at h; subst h
        simp only [Op.equalIn, Sem.run_bind, run_und F w hty, Result.andThen_ok, conc, run_size F w hn, Sem.run_ite]
        rw [if_pos hn0]
        simp only [sameAddr, Loc.at, beq_self_eq_true, if_true, Sem.run_pure]
        congr 1
        rw [Bool.eq_iff_iff]
        simp
      · simp at h
    · exact run_eqLeaf F w hty h

theorem guardFree_ok : ∀ (d t : Nat), guardFree D d t = true → ∀ k, d ≤ k → P.eqGuardType k t = false := by
  intro d
  induction d with
  | zero => intro t h; simp [guardFree] at h
  | succ d ih =>
    intro t h k hk
    obtain ⟨k, rfl⟩ : ∃ j, k = j + 1 := ⟨k - 1, by omega⟩
    unfold guardFree at h
    unfold Program.eqGuardType
    split at h
    · rename_i ms hu
      rw [und_ok F hu]
      simpa using h
    · rename_i fs hu
      rw [und_ok F hu]
      simp only [← Array.any_toList]
      clear hu
      generalize fs.toList = l at h ⊢
      induction l with
      | nil => simp
      | cons f l ihl =>
        simp only [guardFields, Bool.and_eq_true, Bool.or_eq_true, beq_iff_eq] at h
        simp only [List.any_cons, Bool.or_eq_false_iff, Bool.and_eq_false_iff, bne_eq_false_iff_eq]
        refine ⟨?_, ihl h.2⟩
        rcases h.1 with h1 | h1
        · exact .inl h1
        · exact .inr (ih _ h1 k (by omega))
    · rename_i n e hu
      rw [und_ok F hu]
      exact ih _ h k (by omega)
    · rename_i ty h1 h2 h3 hu
      rw [und_ok F hu]
      cases ty <;> simp_all
    · simp at h

end
end Go.Dt
namespace Go.Dt
section
variable {D : Tab} {P : Program} (F : Fits D P) {ι : Nat → Loc} (w : World)

theorem run_intOp {op : BinOp} {t : TypeId} {k k' : IntKind} {a b : Int} {v : AV} (h : intOp op k k' a b = .ok v) :
    (Go.binOp op t (.int k a) (.int k' b)).run P w = .ok (conc ι v) w := by
  unfold intOp at h
  split at h
  · split at h
    · simp at h
    · rename_i hb
      simp at h; subst h
      simp [Go.binOp, Op.shift, hb, intV, conc]
  · split at h
    · simp at h
    · rename_i hb
      simp at h; subst h
      simp [Go.binOp, Op.shift, hb, intV, conc]
  · split at h
    · rename_i hk
      subst hk
      split at h <;> (try (simp at h; done)) <;> (try (simp at h; subst h; simp [Go.binOp, Op.intArith, Op.intBits, Op.intCmp, intV, boolV, conc]; done))
      · split at h
        · simp at h
        · rename_i hb
          simp at h; subst h
          simp [Go.binOp, Op.intDiv, hb, intV, conc]
      · split at h
        · simp at h
        · rename_i hb
          simp at h; subst h
          simp [Go.binOp, Op.intDiv, hb, intV, conc]
    · simp at h

theorem toListBytes (a : List UInt8) : (⟨⟨a⟩⟩ : ByteArray).toList = a := by rw [ByteArray.toList_eq]

theorem run_strOp {op : BinOp} {t : TypeId} {a b : List UInt8} {v : AV} (h : strOp op a b = .ok v) :
    (Go.binOp op t (.string ⟨⟨a⟩⟩) (.string ⟨⟨b⟩⟩)).run P w = .ok (conc ι v) w := by
  unfold strOp at h
  split at h <;> (try (simp at h; done)) <;> (try (simp at h; subst h; simp [Go.binOp, Op.stringOp, boolV, conc]; done))
  split at h
  · rename_i hl
    simp at h; subst h
    have hs : (⟨⟨a⟩⟩ : ByteArray).size = a.length := rfl
    have hs' : (⟨⟨b⟩⟩ : ByteArray).size = b.length := rfl
    have hle : ¬ ((a.length : Int) + (b.length : Int) > IntKind.i64.max) := by
      simp only [IntKind.max, IntKind.signed, IntKind.bits, if_true]
      have : a.length + b.length < 2 ^ 40 := hl
      omega
    simp only [Go.binOp, Op.stringOp, hs, hs', Sem.run_ite]
    rw [if_neg (by push_cast; exact hle)]
    simp only [Sem.run_pure, str, conc]
    congr 2
  · simp at h

include F
theorem run_eqOp {op : BinOp} {t : TypeId} {x y v : AV} (h : eqOp D op t x y = .ok v)
    (hn : ∀ a b, conc ι x = .int a b → False) (hf : ∀ a b, conc ι x = .float a b → False) (hc : ∀ a b c, conc ι x = .complex a b c → False)
    (hs : ∀ a, conc ι x = .string a → False) :
    (Go.binOp op t (conc ι x) (conc ι y)).run P w = .ok (conc ι v) w := by
  unfold eqOp at h
  split at h
  · simp only [bind_ok, pure_ok] at h
    obtain ⟨b, hb, rfl⟩ := h
    have := run_eqV F (ι := ι) w 10 t x y b hb 10000 (by omega)
    have key : (Go.binOp .eql t (conc ι x) (conc ι y)) = (do pure (.bool (← Op.equal t (conc ι x) (conc ι y)))) := by
      cases hx : conc ι x <;> (first | exact (hn _ _ hx).elim | exact (hf _ _ hx).elim | exact (hc _ _ _ hx).elim | exact (hs _ hx).elim | rfl)
    rw [key]
    simp [Op.equal, Op.maxDepth, this, boolV, conc]
  · simp only [bind_ok, pure_ok] at h
    obtain ⟨b, hb, rfl⟩ := h
    have := run_eqV F (ι := ι) w 10 t x y b hb 10000 (by omega)
    have key : (Go.binOp .neq t (conc ι x) (conc ι y)) = (do pure (.bool (!(← Op.equal t (conc ι x) (conc ι y))))) := by
      cases hx : conc ι x <;> (first | exact (hn _ _ hx).elim | exact (hf _ _ hx).elim | exact (hc _ _ _ hx).elim | exact (hs _ hx).elim | rfl)
    rw [key]
    simp [Op.equal, Op.maxDepth, this, boolV, conc]
  · simp at h

omit F in
theorem run_eqGuard_none (op : BinOp) (t : TypeId) (x y : Operand) (a b : Value) (h1 : ¬ (a = .nilIface ∧ b = .nilIface)) (h2 : ∀ l, a ≠ .agg l) :
    (eqGuard op t x y a b).run P w = .ok () w := by
  cases op <;> simp [eqGuard] <;> split <;> simp_all

omit F in
theorem run_eqGuard_const (op : BinOp) (t : TypeId) (x y : Operand) (h : (isConstO x || isConstO y) = true) :
    (eqGuard op t x y .nilIface .nilIface).run P w = .ok () w := by
  cases op <;> cases x <;> cases y <;> simp_all [eqGuard, isConstO]

theorem run_binOp {op : BinOp} {t : TypeId} {x y v : AV} {ox oy : Operand} (h : binOp D op t x y (isConstO ox || isConstO oy) = .ok v) :
    ((do eqGuard op t ox oy (conc ι x) (conc ι y); Go.binOp op t (conc ι x) (conc ι y) : Sem Value)).run P w = .ok (conc ι v) w := by
  simp only [Sem.run_bind]
  have side : ∀ (x y : AV), eqOp D op t x y = .ok v → ¬ (conc ι x = .nilIface ∧ conc ι y = .nilIface) → (∀ l, conc ι x ≠ .agg l) →
      (∀ a b, conc ι x = .int a b → False) → (∀ a b, conc ι x = .float a b → False) → (∀ a b c, conc ι x = .complex a b c → False) → (∀ a, conc ι x = .string a → False) →
      ((eqGuard op t ox oy (conc ι x) (conc ι y)).run P w).andThen (fun _ w => (Go.binOp op t (conc ι x) (conc ι y)).run P w) = .ok (conc ι v) w := by
    intro x y h h1 h2 h3 h4 h5 h6
    rw [run_eqGuard_none w op t ox oy _ _ h1 h2]
    exact run_eqOp F w h h3 h4 h5 h6
  unfold binOp at h
  split at h
  · simp only [conc]
    rw [run_eqGuard_none w op t ox oy _ _ (by simp) (by simp)]
    exact run_intOp w h
  · simp only [conc]
    rw [run_eqGuard_none w op t ox oy _ _ (by simp) (by simp)]
    exact run_strOp w h
  · split at h
    · rename_i hc
      simp only [conc]
      rw [run_eqGuard_const w op t ox oy hc]
      have := run_eqOp F (ι := ι) w h (by simp [conc]) (by simp [conc]) (by simp [conc]) (by simp [conc])
      simpa [conc] using this
    · simp at h
  · split at h
    · rename_i hg
      have hg' := guardFree_ok F 10 t hg _ F.depth
      have := run_eqOp F (ι := ι) w h (by simp [conc]) (by simp [conc]) (by simp [conc]) (by simp [conc])
      simp only [conc] at this ⊢
      rw [run_eqGuard_agg w op t ox oy _ _ hg']
      exact this
    · simp at h
  all_goals first
    | (refine side _ _ h ?_ ?_ ?_ ?_ ?_ ?_ <;> (simp [conc]; done))
    | (rename_i b o n k s l c
       obtain ⟨c', hc⟩ := conc_slice ι b o n k s
       refine side _ _ h ?_ ?_ ?_ ?_ ?_ ?_ <;> (simp [hc]; done))
    | (rename_i b o n s l c
       obtain ⟨a, c', hc⟩ := conc_sliceZ ι b o n s
       refine side _ _ h ?_ ?_ ?_ ?_ ?_ ?_ <;> (simp [hc]; done))
    | (simp at h; done)
end
end Go.Dt
namespace Go.Dt

theorem foldl_set_toList (cs : Array Value) (off : Nat) (l : List Value) : ∀ (k : Nat),
    ((l.zipIdx k).foldl (fun (cs : Array Value) (p : Value × Nat) => cs.setIfInBounds (off + p.2) p.1) cs).size = cs.size := by
  induction l generalizing cs with
  | nil => intro k; simp
  | cons v l ih => intro k; simp [List.zipIdx_cons, ih]

theorem overwrite_length : ∀ (cs l : List AV), (overwrite cs l).length = cs.length := by
  intro cs
  induction cs with
  | nil => intro l; cases l <;> simp [overwrite]
  | cons c cs ih => intro l; cases l <;> simp [overwrite, ih]

theorem splice_length : ∀ (cs : List AV) (o : Nat) (l : List AV), (splice cs o l).length = cs.length := by
  intro cs
  induction cs with
  | nil => intro o l; cases o <;> simp [splice, overwrite_length]
  | cons c cs ih => intro o l; cases o <;> simp [splice, overwrite_length, ih]

theorem overwrite_get : ∀ (cs l : List AV) (i : Nat), l.length ≤ cs.length → (overwrite cs l)[i]? = if i < l.length then l[i]? else cs[i]? := by
  intro cs
  induction cs with
  | nil => intro l i h; cases l with
    | nil => simp [overwrite]
    | cons x l => simp at h
  | cons c cs ih =>
    intro l i h
    cases l with
    | nil => simp [overwrite]
    | cons x l =>
      simp only [overwrite]
      cases i with
      | zero => simp
      | succ i => simpa using ih l i (by simpa using h)

theorem splice_get : ∀ (cs : List AV) (o : Nat) (l : List AV) (i : Nat), o + l.length ≤ cs.length →
    (splice cs o l)[i]? = if o ≤ i ∧ i < o + l.length then l[i - o]? else cs[i]? := by
  intro cs
  induction cs with
  | nil =>
    intro o l i h
    have h1 : l = [] := List.eq_nil_of_length_eq_zero (by have h' := h; simp only [List.length_nil] at h'; omega)
    subst h1
    cases o <;> simp [splice, overwrite]
  | cons c cs ih =>
    intro o l i h
    cases o with
    | zero => simp only [splice]; rw [overwrite_get _ _ _ (by simpa using h)]; simp
    | succ o =>
      simp only [splice]
      cases i with
      | zero => simp
      | succ i =>
        have := ih o l i (by simp at h; omega)
        simp only [List.getElem?_cons_succ, this]
        by_cases hc : o ≤ i ∧ i < o + l.length
        · rw [if_pos hc, if_pos (by omega)]; congr 1; omega
        · rw [if_neg hc, if_neg (by omega)]

theorem idsL_splice {ι : Nat → Loc} {A : Nat → Prop} {cs l : List AV} {o : Nat} (h : o + l.length ≤ cs.length) (hc : idsL ι A cs) (hl : idsL ι A l) : idsL ι A (splice cs o l) := by
  refine idsL_iff.2 fun v hv => ?_
  obtain ⟨i, hi⟩ := List.getElem?_of_mem hv
  rw [splice_get _ _ _ _ h] at hi
  split at hi
  · exact idsL_get hl hi
  · exact idsL_get hc hi

theorem foldl_set_get (off : Nat) (l : List Value) : ∀ (k : Nat) (cs : Array Value) (i : Nat), off + k + l.length ≤ cs.size →
    ((l.zipIdx k).foldl (fun (cs : Array Value) (p : Value × Nat) => cs.setIfInBounds (off + p.2) p.1) cs)[i]? =
      if off + k ≤ i ∧ i < off + k + l.length then l[i - (off + k)]? else cs[i]? := by
  induction l with
  | nil => intro k cs i h; simp; intro h1 h2; omega
  | cons v l ih =>
    intro k cs i h
    simp only [List.zipIdx_cons, List.foldl_cons]
    rw [ih (k + 1) _ i (by simp at h ⊢; omega)]
    simp only [List.length_cons] at h ⊢
    by_cases h1 : off + (k + 1) ≤ i ∧ i < off + (k + 1) + l.length
    · rw [if_pos h1, if_pos (by omega)]
      have : i - (off + k) = (i - (off + (k + 1))) + 1 := by omega
      rw [this]; simp
    · rw [if_neg h1]
      by_cases h2 : i = off + k
      · subst h2
        have hlt : off + k < cs.size := by omega
        rw [if_pos (by omega)]
        simp [hlt]
      · rw [if_neg (by omega), Array.getElem?_setIfInBounds_ne (by omega)]

theorem splice_conc (ι : Nat → Loc) (cs l : List AV) (off : Nat) (h : off + l.length ≤ cs.length) :
    ((concL ι l).toArray.zipIdx.foldl (fun (cs : Array Value) (p : Value × Nat) => cs.setIfInBounds (off + p.2) p.1) (concL ι cs).toArray) = (concL ι (splice cs off l)).toArray := by
  rw [← Array.foldl_toList]
  apply Array.ext_getElem?
  intro i
  have e : (concL ι l).toArray.zipIdx.toList = (concL ι l).zipIdx 0 := by simp
  rw [e, foldl_set_get off (concL ι l) 0 _ i (by simp; omega)]
  simp only [Nat.add_zero, concL_length, List.getElem?_toArray, concL_getElem?]
  rw [splice_get _ _ _ _ h]
  split <;> rfl

theorem run_fill {ι : Nat → Loc} {place : Nat → Option (Nat × Nat)} : ∀ (parts : List (Nat × AV)) (cells out : List AV), fill place cells parts = .ok out →
    Instr.fill place (concL ι cells).toArray (parts.map fun p => (p.1, conc ι p.2)) = some (concL ι out).toArray := by
  intro parts
  induction parts with
  | nil => intro cells out h; simp [fill] at h; subst h; simp [Instr.fill]
  | cons p parts ih =>
    obtain ⟨i, v⟩ := p
    intro cells out h
    simp only [fill] at h
    simp only [List.map_cons, Instr.fill]
    cases hp : place i with
    | none => rw [hp] at h; simp at h
    | some q =>
      obtain ⟨off, sz⟩ := q
      rw [hp] at h
      simp only at h ⊢
      split at h
      · rename_i hc
        have e1 : (conc ι v).cells = (concL ι v.cells).toArray := conc_cells v
        have hcond : ((conc ι v).cells.size ≠ sz || decide (off + (conc ι v).cells.size > (concL ι cells).toArray.size)) = false := by
          rw [e1]; simp; omega
        have := ih _ _ h
        simp only [e1] at hcond ⊢
        rw [splice_conc ι cells v.cells off hc.2]
        simp only [ne_eq, List.size_toArray, concL_length] at hcond ⊢
        rw [if_neg (by simp; omega)]
        exact this
      · simp at h

theorem fill_ids {ι : Nat → Loc} {A : Nat → Prop} {place : Nat → Option (Nat × Nat)} : ∀ (parts : List (Nat × AV)) (cells out : List AV), fill place cells parts = .ok out →
    idsL ι A cells → (∀ p, p ∈ parts → ids ι A p.2) → idsL ι A out := by
  intro parts
  induction parts with
  | nil => intro cells out h hc _; simp [fill] at h; exact h ▸ hc
  | cons p parts ih =>
    obtain ⟨i, v⟩ := p
    intro cells out h hc hp
    simp only [fill] at h
    split at h
    · simp at h
    · split at h
      · rename_i hh
        exact ih _ _ h (idsL_splice hh.2 hc (ids_cells (hp (i, v) (by simp)))) fun p hm => hp p (by simp [hm])
      · simp at h

theorem fill_length {place : Nat → Option (Nat × Nat)} : ∀ (parts : List (Nat × AV)) (cells out : List AV), fill place cells parts = .ok out → out.length = cells.length := by
  intro parts
  induction parts with
  | nil => intro cells out h; simp [fill] at h; subst h; rfl
  | cons p parts ih =>
    obtain ⟨i, v⟩ := p
    intro cells out h
    simp only [fill] at h
    split at h
    · simp at h
    · split at h
      · rw [ih _ _ h, splice_length]
      · simp at h

section
variable {D : Tab} {P : Program} (F : Fits D P) {ι : Nat → Loc} (w : World)

theorem run_unOp {op : UnOp} {x v : AV} (h : unOp op x = .ok v) : (Op.unary op (conc ι x)).run P w = .ok (conc ι v) w := by
  unfold unOp at h
  split at h
  · simp at h; subst h; simp [Op.unary, Op.intArith, conc, intV]
  · simp at h; subst h; simp [Op.unary, conc, boolV]
  · simp at h

include F
theorem run_convertV {s d : Nat} {x v : AV} (h : convertV D s d x = .ok v) : (Go.convert s d (conc ι x)).run P w = .ok (conc ι v) w := by
  simp only [convertV, bind_ok] at h
  obtain ⟨a, ha, b, hb, h⟩ := h
  simp only [Go.convert, Sem.run_bind, run_und F w ha, run_und F w hb, Result.andThen_ok]
  split at h
  · simp at h; subst h; simp [conc, Conv.intToInt, intV]
  · simp at h; subst h; simp [conc]
  · simp at h; subst h; simp [conc, Conv.intToString, str]
  · simp at h

theorem run_structPlaces : ∀ (fs : List Field) (ps : List (Nat × Nat)), structPlaces D fs = .ok ps →
    (fs.mapM (m := Sem) fun f => do pure (f.offset, ← sizeOf f.type)).run P w = .ok ps w := by
  intro fs
  induction fs with
  | nil => intro ps h; simp [structPlaces] at h; subst h; simp
  | cons f fs ih =>
    intro ps h
    simp only [structPlaces, bind_ok, pure_ok] at h
    obtain ⟨n, hn, l, hl, rfl⟩ := h
    have := ih _ hl
    simp at this
    simp [List.mapM_cons, run_size F w hn, this]

theorem run_build {t : Nat} {parts : List (Nat × AV)} {v : AV} (h : build D t parts = .ok v) :
    (Instr.build t (parts.map fun p => (p.1, conc ι p.2)).toArray).run P w = .ok (conc ι v) w := by
  simp only [build, bind_ok] at h
  obtain ⟨z, hz, d, hd, h⟩ := h
  simp only [Instr.build, Sem.run_bind, run_zero F (ι := ι) w hz, run_und F w hd, Result.andThen_ok]
  have e1 : (conc ι z).cells = (concL ι z.cells).toArray := conc_cells z
  split at h
  · rename_i fields
    simp only [bind_ok, pure_ok] at h
    obtain ⟨ps, hps, cs, hcs, rfl⟩ := h
    have h1 := run_structPlaces F w _ _ hps
    have h2 := run_fill (ι := ι) _ _ _ hcs
    have hm : (fields.mapM (m := Sem) fun f => do pure (f.offset, ← sizeOf f.type)) = Functor.map List.toArray (fields.toList.mapM fun f => do pure (f.offset, ← sizeOf f.type)) := by
      rw [Array.mapM_eq_mapM_toList]
    simp only [Sem.run_bind]
    rw [hm]
    simp only [Sem.run_map, h1, Result.andThen_ok, e1]
    have h3 : (fun x : Nat => ps.toArray[x]?) = fun i => ps[i]? := by funext i; simp
    rw [h3, h2]
    simp [conc]
  · rename_i n elem
    simp only [bind_ok, pure_ok] at h
    obtain ⟨s, hs, cs, hcs, rfl⟩ := h
    have h2 := run_fill (ι := ι) _ _ _ hcs
    simp only [Sem.run_bind, run_size F w hs, Result.andThen_ok, e1]
    rw [h2]
    simp [conc]
  · simp at h

end
end Go.Dt
namespace Go.Dt
section
variable {D : Tab} {P : Program} (F : Fits D P) {ι : Nat → Loc} {A : Nat → Prop} (w : World)

theorem run_asI {x : AV} {k : IntKind} {i : Int} (h : asI x = .ok (k, i)) : conc ι x = .int k i := by
  unfold asI at h
  split at h <;> simp at h
  simp [conc, h]

theorem run_bound {x : AV} {y n : Nat} {code : BoundsCode} (h : bound x y = .ok n) :
    (Instr.sliceBound (conc ι x) y code).run P w = .ok n w ∧ n ≤ y := by
  simp only [bound, bind_ok] at h
  obtain ⟨⟨k, i⟩, hi, h⟩ := h
  split at h
  · rename_i hc
    simp at h
    simp only [Instr.sliceBound, run_asI (ι := ι) hi, asIntOf, Sem.run_bind, Sem.run_pure, Result.andThen_ok, Sem.run_ite]
    rw [if_pos hc]
    exact ⟨by simp [h], by omega⟩
  · simp at h

theorem boundO_le {x : Option AV} {y d n : Nat} (h : boundO x y d = .ok n) (hd : d ≤ y) : n ≤ y := by
  cases x with
  | none => simp [boundO] at h; omega
  | some v => exact (run_bound (P := default) (ι := fun _ => default) (code := .index) default h).2

theorem run_sliceBounds {b : Bool} {len cap m h l : Nat} {lo hi mx : Option AV}
    (hmx : (mx.isSome && hi.isNone) = false)
    (h1 : boundO mx cap cap = .ok m) (h2 : boundO hi m len = .ok h) (h3 : boundO lo h 0 = .ok l) :
    (Instr.sliceBounds b len cap (lo.map (conc ι)) (hi.map (conc ι)) (mx.map (conc ι))).run P w = .ok (l, h, m) w := by
  cases mx with
  | none =>
    simp [boundO] at h1; subst h1
    cases hi with
    | none =>
      simp [boundO] at h2; subst h2
      cases lo with
      | none => simp [boundO] at h3; subst h3; simp [Instr.sliceBounds]
      | some lv => simp only [boundO] at h3; simp [Instr.sliceBounds, (run_bound (ι := ι) w h3).1]
    | some hv =>
      simp only [boundO] at h2
      cases lo with
      | none => simp [boundO] at h3; subst h3; simp [Instr.sliceBounds, (run_bound (ι := ι) w h2).1]
      | some lv => simp only [boundO] at h3; simp [Instr.sliceBounds, (run_bound (ι := ι) w h2).1, (run_bound (ι := ι) w h3).1]
  | some mv =>
    simp only [boundO] at h1
    cases hi with
    | none => simp at hmx
    | some hv =>
      simp only [boundO] at h2
      cases lo with
      | none => simp [boundO] at h3; subst h3; simp [Instr.sliceBounds, (run_bound (ι := ι) w h1).1, (run_bound (ι := ι) w h2).1]
      | some lv => simp only [boundO] at h3; simp [Instr.sliceBounds, (run_bound (ι := ι) w h1).1, (run_bound (ι := ι) w h2).1, (run_bound (ι := ι) w h3).1]

/-- bounds within the length of an open slice are bounds within its capacity -/
theorem run_sliceBounds_open {b : Bool} {len cap h l : Nat} {lo hi : Option AV} (hc : len ≤ cap)
    (h2 : boundO hi len len = .ok h) (h3 : boundO lo h 0 = .ok l) :
    (Instr.sliceBounds b len cap (lo.map (conc ι)) (hi.map (conc ι)) none).run P w = .ok (l, h, cap) w := by
  have h2' : boundO hi cap len = .ok h := by
    cases hi with
    | none => simpa [boundO] using h2
    | some v =>
      simp only [boundO, bound, bind_ok] at h2 ⊢
      obtain ⟨⟨k, i⟩, hi, h2⟩ := h2
      refine ⟨(k, i), hi, ?_⟩
      split at h2
      · rename_i hcond
        rw [if_pos (by omega)]; exact h2
      · simp at h2
  exact run_sliceBounds (mx := none) w (by simp) (by simp [boundO]) h2' h3

theorem run_sliceBounds_open3 {b : Bool} {len cap m h l : Nat} {lo hi : Option AV} {mv : AV} (hc : len ≤ cap) (hhi : hi.isNone = false)
    (h1 : bound mv len = .ok m) (h2 : boundO hi m len = .ok h) (h3 : boundO lo h 0 = .ok l) :
    (Instr.sliceBounds b len cap (lo.map (conc ι)) (hi.map (conc ι)) (some (conc ι mv))).run P w = .ok (l, h, m) w := by
  have h1' : boundO (some mv) cap cap = .ok m := by
    simp only [boundO, bound, bind_ok] at h1 ⊢
    obtain ⟨⟨k, i⟩, hi, h1⟩ := h1
    refine ⟨(k, i), hi, ?_⟩
    split at h1
    · rw [if_pos (by omega)]; exact h1
    · simp at h1
  exact run_sliceBounds (mx := some mv) w (by simp [hhi]) h1' h2 h3

theorem at_add (L : Loc) (o n : Nat) : (L.at o).add n = L.at (o + n) := by
  unfold Addr.add Loc.at
  split
  · rename_i h; simp [h]
  · simp [Nat.add_assoc]

theorem extract_bytes (s : List UInt8) (l h : Nat) : (⟨⟨s⟩⟩ : ByteArray).extract l h = ⟨⟨(s.drop l).take (h - l)⟩⟩ := by
  apply ByteArray.ext
  simp [ByteArray.data_extract, List.extract_eq_take_drop]

include F
theorem run_sliceV {t : Nat} {x v : AV} {lo hi mx : Option AV} (h : sliceV D t x lo hi mx = .ok v) (hx : ids ι A x) :
    (Instr.sliceAt t (conc ι x) (lo.map (conc ι)) (hi.map (conc ι)) (mx.map (conc ι))).run P w = .ok (conc ι v) w ∧ ids ι A v := by
  simp only [sliceV, bind_ok] at h
  obtain ⟨d, hd, h⟩ := h
  split at h
  · -- string
    rename_i s
    split at h
    · simp at h
    · rename_i hmx
      have hmx' : mx = none := by cases mx <;> simp_all
      subst hmx'
      simp only [bind_ok, pure_ok] at h
      obtain ⟨hh, h2, l, h3, rfl⟩ := h
      have hb := run_sliceBounds (ι := ι) (P := P) (b := false) (mx := none) (cap := s.length) w (by simp) (by simp [boundO]) h2 h3
      refine ⟨?_, by simp [str, ids]⟩
      have e : (⟨⟨s⟩⟩ : ByteArray).size = s.length := rfl
      simp only [Instr.sliceAt, Sem.run_bind, run_und F w hd, Result.andThen_ok, Instr.slice, conc, e]
      simp only [Option.map_none] at hb ⊢
      simp [hb, str, conc, extract_bytes]
  · -- nil slice
    rename_i elem len cap
    split at h
    · simp at h
    · rename_i hmx
      simp only [bind_ok, pure_ok] at h
      obtain ⟨sz, hs, m, h1, hh, h2, l, h3, rfl⟩ := h
      have hb := run_sliceBounds (ι := ι) (P := P) (b := true) w (Bool.eq_false_iff.2 hmx) h1 h2 h3
      refine ⟨?_, by simp [ids]⟩
      simp only [Instr.sliceAt, Sem.run_bind, run_und F w hd, Result.andThen_ok, Instr.slice, conc, hb, run_size F w hs]
      simp
  · -- a slice whose capacity is known
    rename_i elem b o len cap sz
    split at h
    · simp at h
    · rename_i hmx
      simp only [bind_ok] at h
      obtain ⟨m, h1, hh, h2, l, h3, s, hs, h⟩ := h
      split at h
      · rename_i hsz
        simp at h; subst h
        have hb := run_sliceBounds (ι := ι) (P := P) (b := true) w (Bool.eq_false_iff.2 hmx) h1 h2 h3
        refine ⟨?_, by simpa [ids] using hx⟩
        simp only [Instr.sliceAt, Sem.run_bind, run_und F w hd, Result.andThen_ok, Instr.slice, conc, hb, run_size F w hs, Sem.run_pure]
        split
        · rfl
        · simp [at_add]
      · simp at h
  · -- an open slice
    rename_i elem b o len sz
    simp only [bind_ok] at h
    obtain ⟨s, hs, h⟩ := h
    split at h
    · rename_i hsz
      obtain ⟨rfl, hpos⟩ := hsz
      obtain ⟨hA, hL, _, hfit⟩ := hx
      have hlen : len ≤ (ι b).capz - o / (ι b).sz := by rw [hL]; omega
      split at h
      · rename_i mv
        split at h
        · simp at h
        · rename_i hhi
          simp only [bind_ok, pure_ok] at h
          obtain ⟨m, h1, hh, h2, l, h3, rfl⟩ := h
          have hb := run_sliceBounds_open3 (ι := ι) (P := P) (b := true) w hlen (Bool.eq_false_iff.2 hhi) h1 h2 h3
          refine ⟨?_, by simpa [ids] using hA⟩
          simp only [Option.map_some, Instr.sliceAt, Sem.run_bind, run_und F w hd, Result.andThen_ok, Instr.slice, conc, hb, run_size F w hs, Sem.run_pure]
          split
          · rfl
          · simp [at_add]
      · simp only [bind_ok] at h
        obtain ⟨hh, h2, l, h3, h⟩ := h
        have hb := run_sliceBounds_open (ι := ι) (P := P) (b := true) w hlen h2 h3
        have hle := boundO_le h2 (Nat.le_refl _)
        have hle' := boundO_le h3 (Nat.zero_le _)
        simp only [Option.map_none, Instr.sliceAt, Sem.run_bind, run_und F w hd, Result.andThen_ok, Instr.slice, conc, hb, run_size F w hs, Sem.run_pure]
        have hdiv : (o + l * s) / s = o / s + l := by rw [Nat.add_mul_div_right _ _ hpos]
        split at h
        · rename_i hl0
          simp at h; subst h; subst hl0
          refine ⟨?_, ⟨hA, hL, hpos, by omega⟩⟩
          simp only [conc, Nat.zero_mul]
          split
          · rename_i h0; simp [h0]
          · simp [at_add]
        · split at h
          · rename_i hl0 hl1
            simp at h; subst h
            refine ⟨?_, ⟨hA, hL, hpos, by rw [hdiv]; omega⟩⟩
            simp only [conc]
            rw [if_neg (by omega)]
            simp [at_add, hL, hdiv, Nat.sub_sub]
          · rename_i hl0 hl1
            simp at h; subst h
            have : l = len := by omega
            have : hh = len := by omega
            subst_vars
            refine ⟨?_, ⟨hA, rfl, hpos, by omega⟩⟩
            simp only [conc, Nat.sub_self]
            split
            · rename_i hz; simp [hz]
            · simp [at_add]
    · simp at h
  · -- an array's address
    rename_i n elem b o
    split at h
    · simp at h
    · rename_i hmx
      simp only [bind_ok, pure_ok] at h
      obtain ⟨m, h1, hh, h2, l, h3, s, hs, rfl⟩ := h
      have hb := run_sliceBounds (ι := ι) (P := P) (b := false) w (Bool.eq_false_iff.2 hmx) h1 h2 h3
      refine ⟨?_, by simpa [ids] using hx⟩
      simp only [Instr.sliceAt, Sem.run_bind, run_und F w hd, Result.andThen_ok, conc, Instr.sureAddr, hb, run_size F w hs, Sem.run_pure]
      split
      · rfl
      · simp [at_add]
  · simp at h

theorem run_indexAddr {t : Nat} {x ix v : AV} (h : indexAddr D t x ix = .ok v) (hx : ids ι A x) :
    (Instr.indexAt t (conc ι x) (conc ι ix)).run P w = .ok (conc ι v) w ∧ ids ι A v := by
  simp only [indexAddr, bind_ok] at h
  obtain ⟨⟨k, i⟩, hi, d, hd, h⟩ := h
  split at h
  · rename_i len elem b o
    simp only [bind_ok] at h
    obtain ⟨s, hs, h⟩ := h
    split at h
    · rename_i hc
      simp at h; subst h
      refine ⟨?_, by simpa [ids] using hx⟩
      simp [Instr.indexAt, run_asI (ι := ι) hi, asIntOf, run_und F w hd, conc, Instr.sureAddr, hc, run_size F w hs, at_add]
    · simp at h
  · rename_i elem b o len cap sz
    simp only [bind_ok] at h
    obtain ⟨s, hs, h⟩ := h
    split at h
    · rename_i hc
      simp at h; subst h
      obtain ⟨c, hcc⟩ := conc_slice ι b o len cap sz
      refine ⟨?_, by cases cap <;> simp [ids] at hx ⊢ <;> first | exact hx | exact hx.1⟩
      simp [Instr.indexAt, run_asI (ι := ι) hi, asIntOf, run_und F w hd, hcc, hc, run_size F w hs, at_add, conc]
    · simp at h
  · simp at h

theorem run_indexV {t : Nat} {x ix v : AV} (h : indexV D t x ix = .ok v) (hx : ids ι A x) :
    (Instr.index t (conc ι x) (conc ι ix)).run P w = .ok (conc ι v) w ∧ ids ι A v := by
  simp only [indexV, bind_ok] at h
  obtain ⟨⟨k, i⟩, hi, d, hd, h⟩ := h
  split at h
  · rename_i len elem cs
    simp only [bind_ok] at h
    obtain ⟨s, hs, h⟩ := h
    split at h
    · rename_i hc
      refine ⟨?_, part_ids h (by simpa [ids] using hx)⟩
      simp [Instr.index, run_asI (ι := ι) hi, asIntOf, run_und F w hd, conc, hc, run_size F w hs, run_part F (ι := ι) w h]
    · simp at h
  · rename_i s
    split at h
    · rename_i hc
      split at h
      · rename_i b hb
        simp at h; subst h
        refine ⟨?_, by simp [intV, ids]⟩
        have hlt : i.toNat < s.length := (List.getElem?_eq_some_iff.1 hb).1
        have e : (⟨⟨s⟩⟩ : ByteArray)[i.toNat]? = some b := by
          rw [getElem?_pos _ _ (by exact hlt)]
          exact congrArg some (List.getElem?_eq_some_iff.1 hb).2
        simp [Instr.index, run_asI (ι := ι) hi, asIntOf, run_und F w hd, conc, hc, e, intV]
      · simp at h
    · simp at h
  · simp at h

omit F in
theorem fieldOf_ok {t f : Nat} {fd : Field} (h : fieldOf D t f = .ok fd) : ∃ fields, und D t = .ok (.struct fields) ∧ fields[f]? = some fd := by
  simp only [fieldOf, bind_ok] at h
  obtain ⟨d, hd, h⟩ := h
  split at h
  · rename_i fields
    split at h
    · rename_i g hg
      simp at h; subst h
      exact ⟨fields, hd, by simpa using hg⟩
    · simp at h
  · simp at h

theorem run_fieldAddr {t f : Nat} {x v : AV} (h : fieldAddr D t x f = .ok v) (hx : ids ι A x) :
    (Instr.fieldAt t (conc ι x) f).run P w = .ok (conc ι v) w ∧ ids ι A v := by
  simp only [fieldAddr, bind_ok] at h
  obtain ⟨fd, hf, s, hs, h⟩ := h
  obtain ⟨fields, hu, hg⟩ := fieldOf_ok hf
  split at h
  · split at h
    · simp at h
    · rename_i b o hs0
      simp at h; subst h
      refine ⟨?_, by simpa [ids] using hx⟩
      simp [Instr.fieldAt, run_und F w hu, hg, conc, Instr.sureAddr, fieldPlace, run_size F w hs, hs0, at_add]
  · simp at h

theorem run_fieldV {t f : Nat} {x v : AV} (h : fieldV D t x f = .ok v) (hx : ids ι A x) :
    (Instr.field t (conc ι x) f).run P w = .ok (conc ι v) w ∧ ids ι A v := by
  simp only [fieldV, bind_ok] at h
  obtain ⟨fd, hf, h⟩ := h
  obtain ⟨fields, hu, hg⟩ := fieldOf_ok hf
  split at h
  · refine ⟨?_, part_ids h (by simpa [ids] using hx)⟩
    simp [Instr.field, run_und F w hu, hg, conc, asAgg, run_part F (ι := ι) w h]
  · simp at h

theorem run_typeAssert {x v : AV} {t xt : Nat} {ok : Bool} (h : typeAssert D x t ok = .ok v) (hx : ids ι A x) :
    (Instr.typeAssert (conc ι x) xt t ok).run P w = .ok (conc ι v) w ∧ ids ι A v := by
  simp only [typeAssert, bind_ok] at h
  obtain ⟨d, hd, h⟩ := h
  split at h
  · simp at h
  · rename_i hni
    have hni' : ∀ ms, d ≠ .interface ms := by rintro ms rfl; simp [isIfaceD] at hni
    split at h
    · rename_i u y
      split at h
      · rename_i hu
        subst hu
        simp at h; subst h
        refine ⟨?_, by cases ok <;> simp [ids, idsL, boolV] <;> simpa [ids] using hx⟩
        simp only [Instr.typeAssert, Sem.run_bind, run_und F w hd, Result.andThen_ok, conc]
        cases d <;> simp_all <;> cases ok <;> simp [conc, concL, boolV]
      · rename_i hu
        split at h
        · rename_i hok
          simp only [bind_ok, pure_ok] at h
          obtain ⟨z, hz, rfl⟩ := h
          refine ⟨?_, by simp [ids, idsL, boolV, zero_ids hz]⟩
          simp only [Instr.typeAssert, Sem.run_bind, run_und F w hd, Result.andThen_ok, conc]
          have e : ¬ u = t := hu
          cases d <;> simp_all [run_zero F (ι := ι) w hz, conc, concL, boolV]
        · simp at h
    · split at h
      · rename_i hok
        simp only [bind_ok, pure_ok] at h
        obtain ⟨z, hz, rfl⟩ := h
        refine ⟨?_, by simp [ids, idsL, boolV, zero_ids hz]⟩
        simp only [Instr.typeAssert, Sem.run_bind, run_und F w hd, Result.andThen_ok, conc]
        cases d <;> simp_all [run_zero F (ι := ι) w hz, conc, concL, boolV]
      · simp at h
    · simp at h

omit F in
theorem run_minMax {mx : Bool} : ∀ (l : List AV) (x v : AV), minMax mx x l = .ok v →
    ((concL ι l).foldlM (if mx then Builtin.max2 else Builtin.min2) (conc ι x)).run P w = .ok (conc ι v) w ∧ (ids ι A x → ids ι A v) := by
  intro l
  induction l with
  | nil => intro x v h; simp [minMax] at h; subst h; simp [concL]
  | cons y l ih =>
    intro x v h
    unfold minMax at h
    split at h
    · simp_all
    · rename_i k a k' b l' heq
      simp at heq
      obtain ⟨rfl, rfl⟩ := heq
      obtain ⟨h1, h2⟩ := ih _ _ h
      refine ⟨?_, fun _ => h2 (by simp [intV, ids])⟩
      simp only [concL, List.foldlM_cons, Sem.run_bind, conc]
      cases mx with
      | true => simpa [Builtin.max2, intV, conc] using h1
      | false => simpa [Builtin.min2, intV, conc] using h1
    · simp at h

theorem run_lenV {t : Nat} {x v : AV} {ts : Array TypeId} {ty : TypeId} (h : lenV D t x = .ok v) (ht : ts[0]? = some t) :
    (Builtin.len_ ts ty #[conc ι x]).run P w = .ok (conc ι v) w ∧ ids ι A v := by
  simp only [lenV, bind_ok] at h
  obtain ⟨d, hd, h⟩ := h
  split at h
  · simp at h; subst h
    refine ⟨?_, by simp [goI, ids]⟩
    rename_i l
    have e : (⟨⟨l⟩⟩ : ByteArray).size = l.length := rfl
    simp only [Builtin.len_, ht, conc, goI, goInt]
    simp [run_und F w hd, e]
  · simp at h; subst h
    refine ⟨?_, by simp [goI, ids]⟩
    simp [Builtin.len_, ht, run_und F w hd, conc, goI, goInt]
  · rename_i b o n cap sz
    simp at h; subst h
    refine ⟨?_, by simp [goI, ids]⟩
    obtain ⟨c, hc⟩ := conc_slice ι b o n cap sz
    simp [Builtin.len_, ht, run_und F w hd, hc, goI, goInt]
    simp [conc]
  · rename_i b o l sz
    simp at h; subst h
    refine ⟨?_, by simp [goI, ids]⟩
    obtain ⟨a, c, hc⟩ := conc_sliceZ ι b o l sz
    simp [Builtin.len_, ht, run_und F w hd, hc, goI, goInt]
    simp [conc]
  · simp at h; subst h
    refine ⟨?_, by simp [goI, ids]⟩
    simp [Builtin.len_, ht, run_und F w hd, conc, goI, goInt]
  · simp at h

theorem run_capV {t : Nat} {x v : AV} {ts : Array TypeId} {ty : TypeId} (h : capV D t x = .ok v) (ht : ts[0]? = some t) :
    (Builtin.cap_ ts ty #[conc ι x]).run P w = .ok (conc ι v) w ∧ ids ι A v := by
  simp only [capV, bind_ok] at h
  obtain ⟨d, hd, h⟩ := h
  split at h
  · simp at h; subst h
    refine ⟨?_, by simp [goI, ids]⟩
    simp [Builtin.cap_, ht, run_und F w hd, conc, goI, goInt]
  · rename_i b o n c sz
    simp at h; subst h
    refine ⟨?_, by simp [goI, ids]⟩
    simp [Builtin.cap_, ht, run_und F w hd, conc, goI, goInt]
  · simp at h; subst h
    refine ⟨?_, by simp [goI, ids]⟩
    simp [Builtin.cap_, ht, run_und F w hd, conc, goI, goInt]
  · simp at h
end
end Go.Dt
namespace Go.Dt
section
variable {D : Tab} {P : Program} (F : Fits D P) {ι : Nat → Loc} {A : Nat → Prop} (w : World)

theorem map_concL (ι : Nat → Loc) (e : Operand → AV) (l : List Operand) : l.map (fun x => conc ι (e x)) = concL ι (l.map e) := by
  simp [concL_eq]

theorem arr_map (ι : Nat → Loc) (e : Operand → AV) (l : Array Operand) : l.map (fun x => conc ι (e x)) = (concL ι (l.toList.map e)).toArray := by
  rw [← map_concL]
  apply Array.ext'
  simp

theorem eqOp_ids {op : BinOp} {t : TypeId} {x y v : AV} (h : eqOp D op t x y = .ok v) : ids ι A v := by
  unfold eqOp at h
  split at h
  · simp only [bind_ok, pure_ok] at h
    obtain ⟨b, hb, rfl⟩ := h
    simp [boolV, ids]
  · simp only [bind_ok, pure_ok] at h
    obtain ⟨b, hb, rfl⟩ := h
    simp [boolV, ids]
  · simp at h

theorem binOp_ids {op : BinOp} {t : TypeId} {x y v : AV} {c : Bool} (h : binOp D op t x y c = .ok v) : ids ι A v := by
  unfold binOp at h
  split at h
  · unfold intOp at h
    split at h <;> (try split at h) <;> (try split at h) <;> (try split at h) <;> simp at h <;> subst h <;> simp [intV, boolV, ids]
  · unfold strOp at h
    split at h <;> (try split at h) <;> simp at h <;> subst h <;> simp [str, boolV, ids]
  · split at h
    · exact eqOp_ids h
    · simp at h
  · split at h
    · exact eqOp_ids h
    · simp at h
  all_goals first
    | exact eqOp_ids h
    | (simp at h; done)

include F
theorem pureOp_run {e : Operand → AV} {o : Oper} {v : AV} (h : pureOp D e o.op = .ok v) (hid : ∀ x, x ∈ o.op.operands → ids ι A (e x)) :
    (Go.execOp (fun x => conc ι (e x)) o).run P w = .ok (.value (conc ι v)) w ∧ ids ι A v := by
  unfold Go.execOp
  generalize o.op = op at h hid
  unfold pureOp at h
  split at h
  · simp at h; subst h; exact ⟨by simp, hid _ (by simp [Op.operands])⟩
  · simp at h; subst h; exact ⟨by simp, hid _ (by simp [Op.operands])⟩
  · rename_i c a b
    simp only [bind_ok, pure_ok] at h
    obtain ⟨t, ht, rfl⟩ := h
    have hc : conc ι (e c) = .bool t := by
      unfold asB at ht
      split at ht
      · rename_i hh
        simp at ht
        simp [hh, conc, ht]
      · simp at ht
    have ha := hid a (by simp [Op.operands])
    have hb := hid b (by simp [Op.operands])
    cases t <;> simp [hc, asBool, ha, hb]
  · rename_i t parts
    have := run_build F (ι := ι) w h
    have e1 : (parts.map fun p => (p.1, conc ι (e p.2))) = ((parts.toList.map fun p => (p.1, e p.2)).map fun p => (p.1, conc ι p.2)).toArray := by
      apply Array.ext'; simp
    refine ⟨?_, ?_⟩
    · show (do let v ← Instr.build t (parts.map fun p => (p.1, conc ι (e p.2))); pure (Next.value v) : Sem Next).run P w = _
      simp only [Sem.run_bind, e1, this, Result.andThen_ok, Sem.run_pure]
    · simp only [build, bind_ok] at h
      obtain ⟨z, hz, d, hd, h⟩ := h
      have hp : ∀ p, p ∈ (parts.toList.map fun p => (p.1, e p.2)) → ids ι A p.2 := by
        intro p hp
        simp only [List.mem_map] at hp
        obtain ⟨q, hq, rfl⟩ := hp
        refine hid q.2 ?_
        simp only [Op.operands, List.mem_toArray, List.mem_map]
        exact ⟨q, hq, rfl⟩
      split at h
      · simp only [bind_ok, pure_ok] at h
        obtain ⟨ps, hps, cs, hcs, rfl⟩ := h
        exact fill_ids _ _ _ hcs (ids_cells (zero_ids hz A)) hp
      · simp only [bind_ok, pure_ok] at h
        obtain ⟨ps, hps, cs, hcs, rfl⟩ := h
        exact fill_ids _ _ _ hcs (ids_cells (zero_ids hz A)) hp
      · simp at h
  · rename_i x
    have hx := hid x (by simp [Op.operands])
    split at h <;> simp at h <;> subst h <;> rename_i heq <;> rw [heq] at hx <;> exact ⟨by simp [heq, conc], hx⟩
  · rename_i op t x y yt
    have := run_binOp F (ι := ι) w (ox := x) (oy := y) h
    refine ⟨?_, ?_⟩
    · simp only [Sem.run_bind] at this ⊢
      rw [this]; simp
    · exact binOp_ids h
  · rename_i op t x
    refine ⟨by simp [run_unOp (ι := ι) w h], ?_⟩
    unfold unOp at h
    split at h <;> simp at h <;> subst h <;> simp [intV, boolV, ids]
  · rename_i s d x
    refine ⟨by simp [run_convertV F (ι := ι) w h], ?_⟩
    simp only [convertV, bind_ok] at h
    obtain ⟨a, ha, b, hb, h⟩ := h
    split at h <;> simp at h <;> subst h <;> simp [intV, str, ids]
  · rename_i t x
    simp only [bind_ok] at h
    obtain ⟨d, hd, h⟩ := h
    split at h
    · simp at h
    · rename_i hni
      simp at h; subst h
      refine ⟨?_, by simpa [ids] using hid x (by simp [Op.operands])⟩
      simp only [Instr.makeInterface, Sem.run_bind, run_und F w hd, Result.andThen_ok]
      cases d <;> simp_all [isIfaceD, conc]
  · rename_i fn first captured
    simp at h; subst h
    refine ⟨by simp [Instr.makeFunc, conc, arr_map], ?_⟩
    simp only [ids]
    refine ⟨idsL_iff.2 fun v hv => ?_, idsL_iff.2 fun v hv => ?_⟩
    · simp only [List.mem_map] at hv
      obtain ⟨x, hx, rfl⟩ := hv
      exact hid x (by simp [Op.operands, Array.mem_toList_iff.1 hx])
    · simp only [List.mem_map] at hv
      obtain ⟨x, hx, rfl⟩ := hv
      exact hid x (by simp [Op.operands, Array.mem_toList_iff.1 hx])
  · rename_i t x lo hi mx
    have := run_sliceV F (A := A) (ι := ι) w h (hid x (by simp [Op.operands]))
    have em : ∀ (a : Option Operand), (a.map e).map (conc ι) = a.map fun x => conc ι (e x) := by intro a; cases a <;> rfl
    simp only [em] at this
    exact ⟨by simp [this.1], this.2⟩
  · rename_i t x f
    have := run_fieldAddr F (A := A) (ι := ι) w h (hid x (by simp [Op.operands]))
    exact ⟨by simp [this.1], this.2⟩
  · rename_i t x f
    have := run_fieldV F (A := A) (ι := ι) w h (hid x (by simp [Op.operands]))
    exact ⟨by simp [this.1], this.2⟩
  · rename_i t x ix
    have := run_indexAddr F (A := A) (ι := ι) w h (hid x (by simp [Op.operands]))
    exact ⟨by simp [this.1], this.2⟩
  · rename_i t x ix
    have := run_indexV F (A := A) (ι := ι) w h (hid x (by simp [Op.operands]))
    exact ⟨by simp [this.1], this.2⟩
  · rename_i x xt t ok
    have := run_typeAssert F (A := A) (ι := ι) (xt := xt) w h (hid x (by simp [Op.operands]))
    exact ⟨by simp [this.1], this.2⟩
  · rename_i t ix
    have hx := hid t (by simp [Op.operands])
    split at h
    · rename_i vs heq
      rw [heq] at hx
      split at h
      · rename_i y hy
        simp at h; subst h
        refine ⟨by simp [Instr.extract, heq, conc, hy], idsL_get (by simpa [ids] using hx) hy⟩
      · simp at h
    · simp at h
  · rename_i b args argTypes
    split at h
    · rename_i t ts x hts hxs
      have ht : argTypes[0]? = some t := by rw [← Array.getElem?_toList, hts]; rfl
      have hargs : args = #[x] := by apply Array.ext'; simpa using hxs
      subst hargs
      have := run_lenV F (A := A) (ι := ι) (ty := o.type) w h ht
      refine ⟨?_, this.2⟩
      simp [resolve, invoke, Go.builtin, this.1]
    · rename_i t ts x hts hxs
      have ht : argTypes[0]? = some t := by rw [← Array.getElem?_toList, hts]; rfl
      have hargs : args = #[x] := by apply Array.ext'; simpa using hxs
      subst hargs
      have := run_capV F (A := A) (ι := ι) (ty := o.type) w h ht
      refine ⟨?_, this.2⟩
      simp [resolve, invoke, Go.builtin, this.1]
    · rename_i x l hxs
      have hargs : args = (x :: l).toArray := by apply Array.ext'; simpa using hxs
      subst hargs
      have := run_minMax (P := P) (A := A) (ι := ι) w _ _ _ h
      refine ⟨?_, this.2 (hid x (by simp [Op.operands, Call.operands]))⟩
      have h1 := this.1
      rw [← map_concL] at h1
      simp only [Bool.false_eq_true, if_false] at h1
      simp [resolve, invoke, Go.builtin, Builtin.min_, h1]
    · rename_i x l hxs
      have hargs : args = (x :: l).toArray := by apply Array.ext'; simpa using hxs
      subst hargs
      have := run_minMax (P := P) (A := A) (ι := ι) w _ _ _ h
      refine ⟨?_, this.2 (hid x (by simp [Op.operands, Call.operands]))⟩
      have h1 := this.1
      rw [← map_concL] at h1
      simp only [if_true] at h1
      simp [resolve, invoke, Go.builtin, Builtin.max_, h1]
    · simp at h
  · simp at h
end
end Go.Dt
namespace Go.Dt

def concDef (ι : Nat → Loc) : ADef → Deferred
  | .fn fn cap args => { target := .fn fn (concL ι cap).toArray, args := (concL ι args).toArray }
  | .collected r => { target := .collected (ι r).block, args := #[] }
def idsDef (ι : Nat → Loc) (A : Nat → Prop) : ADef → Prop
  | .fn _ cap args => idsL ι A cap ∧ idsL ι A args
  | .collected r => A r

def concEntry (ι : Nat → Loc) (e : AV × AV × Nat) : MapEntry := { key := conc ι e.1, val := conc ι e.2.1, born := e.2.2 }
def concLoop (ι : Nat → Loc) (l : ALoop) : Loop :=
  { state := l.state, pending := l.pending, fn := l.fn, tmps := (concL ι l.T).toArray, params := l.params.toArray, assign := l.assign, body := l.body, defers := (ι l.defers).block }

def AO.isMut : AO → Bool
  | .cells _ _ own _ => own
  | .gone => false
  | _ => true

def ORep (ι : Nat → Loc) (A : Nat → Prop) (o : AO) (L : Loc) (w : World) : Prop :=
  match o with
  | .cells cs elem own sz => idsL ι A cs ∧ L.sz = sz ∧ ∃ arr fz, w.heap[L.block]? = some (.cells arr elem fz) ∧
      (∀ i v, cs[i]? = some v → arr[L.shift + i]? = some (conc ι v)) ∧ (own = true → fz = (0, 0) ∧ L.shift + L.capz * sz ≤ arr.size ∧ sz ∣ L.shift)
  | .map es clock => L.shift = 0 ∧ w.heap[L.block]? = some (.map (es.map (concEntry ι)).toArray clock) ∧ ∀ e, e ∈ es → ids ι A e.1 ∧ ids ι A e.2.1
  | .striter s pos => L.shift = 0 ∧ w.heap[L.block]? = some (.stringIter ⟨⟨s⟩⟩ pos)
  | .mapiter m since seen stepped => L.shift = 0 ∧ w.heap[L.block]? = some (.mapIter (m.map fun b => (ι b).block) since seen.toArray stepped) ∧ ∀ b, m = some b → A b
  | .loop l => L.shift = 0 ∧ w.heap[L.block]? = some (.loop (concLoop ι l)) ∧ idsL ι A l.T ∧ A l.defers
  | .deferred calls => L.shift = 0 ∧ w.heap[L.block]? = some (.deferred (calls.map fun l => l.map (concDef ι))) ∧ ∀ l, calls = some l → ∀ d, d ∈ l → idsDef ι A d
  | .gone => True

theorem concDef_agree {ι ι' : Nat → Loc} {A : Nat → Prop} (h : ∀ b, A b → ι' b = ι b) (d : ADef) (hd : idsDef ι A d) : concDef ι' d = concDef ι d := by
  cases d with
  | fn f c a => simp [concDef, concL_agree h c hd.1, concL_agree h a hd.2]
  | collected r => simp [concDef, h r hd]
theorem idsDef_mono {ι ι' : Nat → Loc} {A B : Nat → Prop} (h : ∀ b, A b → B b ∧ ι' b = ι b) (d : ADef) (hd : idsDef ι A d) : idsDef ι' B d := by
  cases d with
  | fn f c a => exact ⟨idsL_mono h c hd.1, idsL_mono h a hd.2⟩
  | collected r => exact (h r hd).1

theorem ORep.congr {ι : Nat → Loc} {A : Nat → Prop} {o : AO} {L : Loc} {w w' : World} (h : ORep ι A o L w) (hw : w'.heap[L.block]? = w.heap[L.block]?) : ORep ι A o L w' := by
  cases o <;> simp only [ORep, hw] at h ⊢ <;> exact h

theorem ORep.mono {ι ι' : Nat → Loc} {A B : Nat → Prop} {o : AO} {L : Loc} {w : World} (h : ORep ι A o L w) (k : ∀ b, A b → B b ∧ ι' b = ι b) : ORep ι' B o L w := by
  have k' : ∀ b, A b → ι' b = ι b := fun b hb => (k b hb).2
  cases o with
  | cells cs elem own sz =>
    obtain ⟨h1, h2, arr, fz, h3, h4, h5⟩ := h
    refine ⟨idsL_mono k cs h1, h2, arr, fz, h3, fun i v hv => ?_, h5⟩
    rw [conc_agree k' v (idsL_get h1 hv)]
    exact h4 i v hv
  | map es clock =>
    obtain ⟨h1, h2, h3⟩ := h
    refine ⟨h1, ?_, fun e he => ⟨ids_mono k _ (h3 e he).1, ids_mono k _ (h3 e he).2⟩⟩
    rw [h2]
    have : es.map (concEntry ι') = es.map (concEntry ι) := by
      apply List.map_congr_left
      intro e he
      simp [concEntry, conc_agree k' _ (h3 e he).1, conc_agree k' _ (h3 e he).2]
    rw [this]
  | striter s pos => exact h
  | mapiter m since seen stepped =>
    obtain ⟨h1, h2, h3⟩ := h
    refine ⟨h1, ?_, fun b hb => (k b (h3 b hb)).1⟩
    rw [h2]
    cases m with
    | none => rfl
    | some b => simp [k' b (h3 b rfl)]
  | loop l =>
    obtain ⟨h1, h2, h3, h4⟩ := h
    refine ⟨h1, ?_, idsL_mono k _ h3, (k _ h4).1⟩
    rw [h2]
    simp [concLoop, concL_agree k' _ h3, k' _ h4]
  | deferred calls =>
    obtain ⟨h1, h2, h3⟩ := h
    refine ⟨h1, ?_, fun l hl d hd => idsDef_mono k d (h3 l hl d hd)⟩
    rw [h2]
    cases calls with
    | none => rfl
    | some l =>
      have : l.map (concDef ι') = l.map (concDef ι) := List.map_congr_left fun d hd => concDef_agree k' d (h3 l rfl d hd)
      simp [this]
  | gone => trivial

theorem ORep.lt {ι : Nat → Loc} {A : Nat → Prop} {o : AO} {L : Loc} {w : World} (h : ORep ι A o L w) (ho : o ≠ .gone) : L.block < w.heap.size := by
  have key : ∀ x, w.heap[L.block]? = some x → L.block < w.heap.size := fun x hx => (Array.getElem?_eq_some_iff.1 hx).1
  cases o with
  | cells cs elem own sz => obtain ⟨_, _, arr, fz, h3, _⟩ := h; exact key _ h3
  | map es clock => exact key _ h.2.1
  | striter s pos => exact key _ h.2
  | mapiter m since seen stepped => exact key _ h.2.1
  | loop l => exact key _ h.2.1
  | deferred calls => exact key _ h.2.1
  | gone => exact (ho rfl).elim

structure Rep (D : Tab) (ι : Nat → Loc) (σ : St) (w : World) : Prop where
  len : σ.l.length = σ.n
  glob : D.nglob ≤ σ.n
  gloc : ∀ g, g < D.nglob → (ι g).block = g ∧ (ι g).shift = 0
  obj : ∀ b, b < σ.n → ORep ι (· < σ.n) (σ.getO b) (ι b) w
  sep : ∀ b b', b < σ.n → b' < σ.n → b ≠ b' → (σ.getO b).isMut = true → σ.getO b' ≠ .gone → (ι b).block ≠ (ι b').block
  mem : ∀ m, σ.M.mem m → D.memo m

structure Ext (ι : Nat → Loc) (σ : St) (w : World) (ι' : Nat → Loc) (σ' : St) (w' : World) : Prop where
  os : w'.os = w.os
  tape : w'.tape = w.tape
  output : w'.output = w.output
  size : w.heap.size ≤ w'.heap.size
  n : σ.n ≤ σ'.n
  agree : ∀ b, b < σ.n → ι' b = ι b
  frame : ∀ r, r < w.heap.size → (∀ b, b < σ.n → (σ.getO b).isMut = true → (ι b).block ≠ r) → w'.heap[r]? = w.heap[r]?
  own : ∀ b, b < σ'.n → σ'.getO b ≠ .gone → w.heap.size ≤ (ι' b).block ∨
    ∃ b0, b0 < σ.n ∧ σ.getO b0 ≠ .gone ∧ ((σ'.getO b).isMut = true → (σ.getO b0).isMut = true) ∧ (ι b0).block = (ι' b).block

theorem AO.isMut_ne {o : AO} (h : o.isMut = true) : o ≠ .gone := by intro e; rw [e] at h; simp [AO.isMut] at h

theorem Ext.ownM {ι ι' : Nat → Loc} {σ σ' : St} {w w' : World} (h : Ext ι σ w ι' σ' w') : ∀ b, b < σ'.n → (σ'.getO b).isMut = true →
    w.heap.size ≤ (ι' b).block ∨ ∃ b0, b0 < σ.n ∧ (σ.getO b0).isMut = true ∧ (ι b0).block = (ι' b).block := fun b hb hm => by
  rcases h.own b hb (AO.isMut_ne hm) with h1 | ⟨b0, h1, _, h3, h4⟩
  · exact .inl h1
  · exact .inr ⟨b0, h1, h3 hm, h4⟩

theorem Ext.refl (ι : Nat → Loc) (σ : St) (w : World) : Ext ι σ w ι σ w :=
  ⟨rfl, rfl, rfl, Nat.le_refl _, Nat.le_refl _, fun _ _ => rfl, fun _ _ _ => rfl, fun b hb hm => .inr ⟨b, hb, hm, id, rfl⟩⟩

theorem Ext.trans {ι ι' ι'' : Nat → Loc} {σ σ' σ'' : St} {w w' w'' : World} (h : Ext ι σ w ι' σ' w') (k : Ext ι' σ' w' ι'' σ'' w'') : Ext ι σ w ι'' σ'' w'' where
  os := k.os.trans h.os
  tape := k.tape.trans h.tape
  output := k.output.trans h.output
  size := Nat.le_trans h.size k.size
  n := Nat.le_trans h.n k.n
  agree := fun b hb => (k.agree b (Nat.lt_of_lt_of_le hb h.n)).trans (h.agree b hb)
  frame := fun r hr hno => by
    rw [k.frame r (Nat.lt_of_lt_of_le hr h.size) fun b hb hm he => ?_]
    · exact h.frame r hr hno
    · rcases h.ownM b hb hm with h1 | ⟨b0, h1, h2, h3⟩
      · omega
      · exact hno b0 h1 h2 (h3.trans he)
  own := fun b hb hm => by
    rcases k.own b hb hm with h1 | ⟨b0, h1, h2, h2', h3⟩
    · exact .inl (Nat.le_trans h.size h1)
    · rcases h.own b0 h1 h2 with h4 | ⟨b1, h4, h5, h5', h6⟩
      · exact .inl (h3 ▸ h4)
      · exact .inr ⟨b1, h4, h5, fun hm => h5' (h2' hm), h6.trans h3⟩

/-- what was meant is meant behind the step -/
theorem Ext.conc {ι ι' : Nat → Loc} {σ σ' : St} {w w' : World} (h : Ext ι σ w ι' σ' w') {v : AV} (hv : ids ι (· < σ.n) v) : conc ι' v = conc ι v :=
  conc_agree h.agree v hv
theorem Ext.concL {ι ι' : Nat → Loc} {σ σ' : St} {w w' : World} (h : Ext ι σ w ι' σ' w') {v : List AV} (hv : idsL ι (· < σ.n) v) : concL ι' v = concL ι v :=
  concL_agree h.agree v hv
theorem Ext.k {ι ι' : Nat → Loc} {σ σ' : St} {w w' : World} (h : Ext ι σ w ι' σ' w') : ∀ b, b < σ.n → b < σ'.n ∧ ι' b = ι b :=
  fun b hb => ⟨Nat.lt_of_lt_of_le hb h.n, h.agree b hb⟩
theorem Ext.ids {ι ι' : Nat → Loc} {σ σ' : St} {w w' : World} (h : Ext ι σ w ι' σ' w') {v : AV} (hv : ids ι (· < σ.n) v) : ids ι' (· < σ'.n) v :=
  ids_mono h.k v hv
theorem Ext.idsL {ι ι' : Nat → Loc} {σ σ' : St} {w w' : World} (h : Ext ι σ w ι' σ' w') {v : List AV} (hv : idsL ι (· < σ.n) v) : idsL ι' (· < σ'.n) v :=
  idsL_mono h.k v hv

/- the heap's own laws -/

theorem getO_push_old {σ : St} {o : AO} {b : Nat} (hb : b < σ.n) : (σ.push o).getO b = σ.getO b := by
  show (if b < σ.n + 1 then ((o :: σ.l)[σ.n + 1 - 1 - b]?).getD .gone else .gone) = (if b < σ.n then (σ.l[σ.n - 1 - b]?).getD .gone else .gone)
  rw [if_pos (by omega), if_pos hb]
  have : σ.n + 1 - 1 - b = (σ.n - 1 - b) + 1 := by omega
  rw [this]; simp
theorem getO_push_new {σ : St} {o : AO} : (σ.push o).getO σ.n = o := by
  show (if σ.n < σ.n + 1 then ((o :: σ.l)[σ.n + 1 - 1 - σ.n]?).getD .gone else .gone) = o
  simp
theorem getO_set_same {σ : St} {o : AO} {b : Nat} (hl : σ.l.length = σ.n) (hb : b < σ.n) : (σ.set b o).getO b = o := by
  show (if b < σ.n then ((σ.l.set (σ.n - 1 - b) o)[σ.n - 1 - b]?).getD .gone else .gone) = o
  rw [if_pos hb, List.getElem?_set_self (by omega)]
  rfl
theorem getO_set_other {σ : St} {o : AO} {b b' : Nat} (hb : b < σ.n) (hne : b ≠ b') : (σ.set b o).getO b' = σ.getO b' := by
  show (if b' < σ.n then ((σ.l.set (σ.n - 1 - b) o)[σ.n - 1 - b']?).getD .gone else .gone) = (if b' < σ.n then (σ.l[σ.n - 1 - b']?).getD .gone else .gone)
  by_cases h : b' < σ.n
  · rw [if_pos h, if_pos h, List.getElem?_set_ne (by omega)]
  · rw [if_neg h, if_neg h]

def upd (ι : Nat → Loc) (n : Nat) (L : Loc) : Nat → Loc := fun b => if b = n then L else ι b
theorem upd_new (ι : Nat → Loc) (n : Nat) (L : Loc) : upd ι n L n = L := by simp [upd]
theorem upd_old {ι : Nat → Loc} {n b : Nat} {L : Loc} (h : b ≠ n) : upd ι n L b = ι b := by simp [upd, h]

section
variable {D : Tab} {ι : Nat → Loc} {σ : St} {w : World}

theorem Rep.of_heap {w' : World} (h : Rep D ι σ w) (hw : w'.heap = w.heap) : Rep D ι σ w' :=
  ⟨h.len, h.glob, h.gloc, fun b hb => (h.obj b hb).congr (by rw [hw]), h.sep, h.mem⟩

theorem Rep.drew (h : Rep D ι σ w) : Rep D ι σ w.drew := h.of_heap rfl

theorem Ext.drew (ι : Nat → Loc) (σ : St) (w : World) : Ext ι σ w ι σ w.drew :=
  ⟨rfl, rfl, rfl, Nat.le_refl _, Nat.le_refl _, fun _ _ => rfl, fun _ _ _ => rfl, fun b hb hm => .inr ⟨b, hb, hm, id, rfl⟩⟩

theorem kpush {n : Nat} {L : Loc} : ∀ b, b < n → b < n + 1 ∧ upd ι n L b = ι b := fun b hb => ⟨by omega, upd_old (by omega)⟩

/-- a new block -/
theorem Rep.push (h : Rep D ι σ w) {o : AO} {ob : Obj} {L : Loc} (hL : L.block = w.heap.size)
    (ho : ORep (upd ι σ.n L) (· < σ.n + 1) o L (w.alloc ob)) :
    Rep D (upd ι σ.n L) (σ.push o) (w.alloc ob) ∧ Ext ι σ w (upd ι σ.n L) (σ.push o) (w.alloc ob) := by
  have hold : ∀ r, r < w.heap.size → (w.alloc ob).heap[r]? = w.heap[r]? := fun r hr => by
    show (w.heap.push ob)[r]? = _
    rw [Array.getElem?_push, if_neg (by omega)]
  have hobj : ∀ b, b < σ.n → ORep (upd ι σ.n L) (· < σ.n + 1) (σ.getO b) (ι b) (w.alloc ob) := fun b hb => by
    by_cases hg : σ.getO b = .gone
    · rw [hg]; trivial
    · exact ((h.obj b hb).mono kpush).congr (hold _ ((h.obj b hb).lt hg))
  refine ⟨⟨by simp [St.push, h.len], Nat.le_succ_of_le h.glob, fun g hg => ?_, fun b hb => ?_, fun b b' hb hb' hne hm hg => ?_, h.mem⟩, ?_⟩
  · rw [upd_old (by have := h.glob; omega)]; exact h.gloc g hg
  · by_cases he : b = σ.n
    · subst he; rw [getO_push_new, upd_new]; exact ho
    · have hb1 : b < σ.n := by simp only [St.push] at hb; omega
      rw [getO_push_old hb1, upd_old he]
      exact hobj b hb1
  · simp only [St.push] at hb hb'
    by_cases he : b = σ.n
    · subst he
      have hb1 : b' < σ.n := by omega
      rw [getO_push_old hb1] at hg
      rw [upd_new, upd_old (by omega), hL]
      have := (h.obj b' hb1).lt hg
      omega
    · have hb1 : b < σ.n := by omega
      rw [getO_push_old hb1] at hm
      have hg1 : σ.getO b ≠ .gone := by intro e; rw [e] at hm; simp [AO.isMut] at hm
      have hlt := (h.obj b hb1).lt hg1
      by_cases he' : b' = σ.n
      · subst he'; rw [upd_new, upd_old he, hL]; omega
      · have hb2 : b' < σ.n := by omega
        rw [getO_push_old hb2] at hg
        rw [upd_old he, upd_old he']
        exact h.sep b b' hb1 hb2 hne hm hg
  · refine ⟨rfl, rfl, rfl, by simp, by simp [St.push], fun b hb => upd_old (by omega), fun r hr _ => hold r hr, fun b hb hm => ?_⟩
    simp only [St.push] at hb
    by_cases he : b = σ.n
    · subst he; left; rw [upd_new, hL]; exact Nat.le_refl _
    · right
      have hb1 : b < σ.n := by omega
      rw [getO_push_old hb1] at hm ⊢
      exact ⟨b, hb1, hm, id, (by rw [upd_old he])⟩

/-- a block is written in place -/
theorem Rep.set (h : Rep D ι σ w) {b : Nat} {o : AO} {w' : World} (hb : b < σ.n) (hm : (σ.getO b).isMut = true)
    (hs : w'.heap.size = w.heap.size) (hw : ∀ r, r ≠ (ι b).block → w'.heap[r]? = w.heap[r]?)
    (hos : w'.os = w.os ∧ w'.tape = w.tape ∧ w'.output = w.output)
    (ho : ORep ι (· < σ.n) o (ι b) w') : Rep D ι (σ.set b o) w' ∧ Ext ι σ w ι (σ.set b o) w' := by
  refine ⟨⟨by simp [St.set, h.len], h.glob, h.gloc, fun b' hb' => ?_, fun b1 b2 hb1 hb2 hne hm1 hg2 => ?_, h.mem⟩, ?_⟩
  · change b' < σ.n at hb'
    by_cases he : b = b'
    · subst he; rw [getO_set_same h.len hb]; exact ho
    · rw [getO_set_other hb he]
      by_cases hg : σ.getO b' = .gone
      · rw [hg]; trivial
      · exact (h.obj b' hb').congr (hw _ fun e => h.sep b b' hb hb' he hm hg e.symm)
  · change b1 < σ.n at hb1
    change b2 < σ.n at hb2
    by_cases he1 : b = b1
    · subst he1
      rw [getO_set_other hb hne] at hg2
      exact h.sep b b2 hb hb2 hne hm hg2
    · rw [getO_set_other hb he1] at hm1
      by_cases he2 : b = b2
      · subst he2
        exact h.sep b1 b hb1 hb hne hm1 (by intro e; rw [e] at hm; simp [AO.isMut] at hm)
      · rw [getO_set_other hb he2] at hg2
        exact h.sep b1 b2 hb1 hb2 hne hm1 hg2
  · refine ⟨hos.1, hos.2.1, hos.2.2, by omega, Nat.le_refl _, fun _ _ => rfl, fun r hr hno => hw r fun e => hno b hb hm e.symm, fun b' hb' hm' => ?_⟩
    change b' < σ.n at hb'
    right
    by_cases he : b = b'
    · subst he; exact ⟨b, hb, AO.isMut_ne hm, fun _ => hm, rfl⟩
    · rw [getO_set_other hb he] at hm' ⊢
      exact ⟨b', hb', hm', id, rfl⟩

/-- what is known of a block may be forgotten -/
theorem Rep.forget (h : Rep D ι σ w) {b : Nat} (hb : b < σ.n) : Rep D ι (σ.set b .gone) w := by
  refine ⟨by simp [St.set, h.len], h.glob, h.gloc, fun b' hb' => ?_, fun b1 b2 hb1 hb2 hne hm1 hg2 => ?_, h.mem⟩
  · change b' < σ.n at hb'
    by_cases he : b = b'
    · subst he; rw [getO_set_same h.len hb]; trivial
    · rw [getO_set_other hb he]; exact h.obj b' hb'
  · change b1 < σ.n at hb1
    change b2 < σ.n at hb2
    by_cases he1 : b = b1
    · subst he1; rw [getO_set_same h.len hb] at hm1; simp [AO.isMut] at hm1
    · rw [getO_set_other hb he1] at hm1
      by_cases he2 : b = b2
      · subst he2; rw [getO_set_same h.len hb] at hg2; exact (hg2 rfl).elim
      · rw [getO_set_other hb he2] at hg2
        exact h.sep b1 b2 hb1 hb2 hne hm1 hg2

end
end Go.Dt
