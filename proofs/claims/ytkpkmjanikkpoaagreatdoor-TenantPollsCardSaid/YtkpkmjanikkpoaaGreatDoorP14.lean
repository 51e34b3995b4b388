/-
  The calls of the program, read without fuel. No statement of this seat stands here.
-/
import Derived.Test.YtkpkmjanikkpoaaGreatDoorP11
import Derived.Test.YtkpkmjanikkpoaaGreatDoorP13
namespace Go.Dt
def boolM {α : Type} (b : Bool) (x y : α) : α := match b with
  | true => x
  | false => y
def copyQ (D : Tab) (σ : St) (t : Nat) (d s : AV) : R (ANext × St) := do
  let (v, σ') ← copyV D σ t d s
  return (.value v, σ')
/-- the operations of a region -/
def regOps : Code → Array Oper
  | .region _ ops _ => ops
  | _ => #[]
section
variable (D : Tab) (call : CallT) (rnd : RoundT) (N : Nat) {ρ : Type}
/-- one step of a drawn region; F is what stands behind -/
def stepK (ops : Array Oper) (it : PlanItem) (F : List St → Rg → St → R ρ) (snaps : List St) (T : Rg) (σ : St) : R ρ :=
  match ops[it.i]? with
  | none => .error "draw"
  | some o =>
  match wantE N ops o T with
  | true =>
    match it.act with
    | true =>
      bif o.op.operands.toList.all fun x => bndA σ.n (evalE D T x) then
        oneK D call rnd N true o T σ (fun T σ' => bif Nat.ble σ.n σ'.n then F (σ' :: snaps) T σ' else .error "draw n") (fun _ _ => .error "panic in a drawn region")
      else .error "draw ids"
    | false =>
      match clsD D o.op with
      | .pure => bindR (pureOp D (evalE D T) o.op) fun v => F snaps (putE N T o.dst v) σ
      | .read => bindR (readOp D σ (evalE D T) o.op) fun v =>
        bif Nat.blt it.lo (drawK.lenS snaps) && (snaps.take (Nat.sub (drawK.lenS snaps) it.lo)).all (sameE D T o.op v) then F snaps (putE N T o.dst v) σ else .error "unstable read"
      | .alloc => bindR (allocOp D (evalE D T) o.op σ.n) fun p =>
        bif bndO (σ.n + 1) p.2 then F snaps (putE N T o.dst p.1) (σ.push p.2) else .error "draw object"
      | .act => .error "draw"
  | false => F (match it.act with | true => σ :: snaps | false => snaps) (putE N T o.dst .undef) σ
theorem drawK_cons (ops : Array Oper) (k : Rg → St → R ρ) (it : PlanItem) (rest : List PlanItem) (snaps : List St) (T : Rg) (σ : St) :
    drawK D call rnd N ops k (it :: rest) snaps T σ = stepK D call rnd N ops it (drawK D call rnd N ops k rest) snaps T σ := by
  rw [drawK]; rfl
end
def mapUpdQ (D : Tab) (σ : St) (t : Nat) (m k x : AV) : R (ANext × St) := do
  let σ' ← mapUpdate D σ t m k x
  return (.skip, σ')
end Go.Dt
namespace Go.Proofs.YtkpkmjanikkpoaaGreatDoor
open Go Go.Dt
noncomputable def W : CallT := callW tab
noncomputable def V : RoundT := rndW tab
end Go.Proofs.YtkpkmjanikkpoaaGreatDoor
namespace Go.Proofs.YtkpkmjanikkpoaaGreatDoor
open Go Go.Dt
set_option maxRecDepth 100000

def nums : List Int := [1, 2, 3, 4]
def js : List Nat := [0, 1, 2, 3, 4, 5]
def jms : List (Nat × Int) := nums.flatMap fun m => js.map fun j => (j, m)

/- the store, laid once -/
def zsV : Nat → List AV
  | 0 => []
  | n + 1 => .base (.int .u64 0) :: .base (.int .u64 0) :: .base (.int .u64 0) :: .base (.int .u64 0) :: .base (.int .i64 0) :: .base (.int .i64 0) :: zsV n
def sC : List AV := [.base (.int .u64 0), .base (.int .i64 4), .base (.int .u64 1), .base (.int .u64 1)] ++ zsV 64 ++ ([.base (.int .u64 1), .base (.int .i64 4), .base (.int .u64 1), .base (.int .u64 1)] ++ zsV 64)
def sA : AV := .agg [.slice 6 0 2 none 388, .base (.int .u64 0), .base (.int .u64 0), .base (.int .u64 9)]
def sD : St := ⟨7, [.cells sC 134 false 388, .gone, .gone, .gone, .gone, .gone, .gone], .e⟩
theorem sP_eq : pTt false stS (freshSt tab .e) = (sA, sD) := by kernel_rfl

noncomputable def mkS (f : FuncId) (ts : List Tt) (r : Tt) : Memo :=
  { f, args := sA :: (pTL false ts sD).1, heap := (pTL false ts sD).2.l, val := (pTt true r (freshSt tab .e)).1, res := (pTt true r (freshSt tab .e)).2.l }
theorem mkS_eq (f : FuncId) (ts : List Tt) (r : Tt) : mkMemo tab f (stS :: ts) r = mkS f ts r := by
  unfold mkMemo mkS
  have : pTL false (stS :: ts) (freshSt tab .e) = (sA :: (pTL false ts sD).1, (pTL false ts sD).2) := by
    rw [pTL, sP_eq]
  rw [this]

/-- the queries of a tenant: n of them, from the text j on -/
def chQ (j : Nat) : Nat → List (Nat × Int)
  | 0 => []
  | n + 1 => chQ j n ++ [((j + n) % 6, ((n + 1 : Nat) : Int))]
def jns : List (Nat × Nat) := [0, 1, 2, 3].flatMap fun n => js.map fun j => (j, n)
def cts : List Int := (List.range 99).map fun n => ((n + 1 : Nat) : Int)
noncomputable def mA : List Memo := [mkMemo tab 4 [] t0C, mkMemo tab 5 [] stS, mkMemo tab 6 [] cfC, mkMemo tab 14 [] (B true), mkS 55 [] (I 0), mkMemo tab 41 [cf8] (I 0)]
noncomputable def m30 : List Memo := jms.map fun p => mkS 30 [.a (x0 p.1 p.2)] (I 0)
noncomputable def m34 : List Memo := jms.map fun p => mkMemo tab 34 [.a (x0 p.1 p.2)] (.a (x0 p.1 p.2))
noncomputable def m11 : List Memo := jms.map fun p => mkMemo tab 11 [.a (x0 p.1 p.2), .a (x0 p.1 p.2)] (B true)
/-- a query is added -/
noncomputable def m8 : List Memo := jns.map fun p => mkS 8 [cf8, tT (p.2 : Int) (chQ p.1 p.2), Z (txt ((p.1 + p.2) % 6))] (.t [tT ((p.2 + 1 : Nat) : Int) (chQ p.1 (p.2 + 1)), I ((p.2 + 1 : Nat) : Int), .a [I 0, I 0]])
noncomputable def m32 : List Memo := cts.map fun c => mkMemo tab 32 [itT c] (I 0)
noncomputable def m59 : List Memo := cts.map fun c => mkMemo tab 59 [itT c] (itT c)
noncomputable def m40 : List Memo := cts.map fun c => mkMemo tab 40 [itT c, itT c] (B true)

noncomputable def addAll (ms : List Memo) (M : MTree) : MTree := ms.foldl (fun M m => M.add m (pth m.f)) M
theorem addAll_mem : ∀ (ms : List Memo) (M : MTree), (∀ m ∈ ms, tab.memo m) → (∀ x, M.mem x → tab.memo x) → ∀ x, (addAll ms M).mem x → tab.memo x
  | [], M, _, hM => hM
  | m :: ms, M, h, hM => addAll_mem ms (M.add m (pth m.f)) (fun x hx => h x (List.mem_cons_of_mem _ hx)) (mem_add' hM (h m (by simp)))

/-- these memos hold, by a run of each -/
noncomputable def runs (M : MTree) (ms : List Memo) : Bool := ms.all fun m => isMemo m (pureS tab (fnsS tab 20000) m.f m.args { n := m.heap.length, l := m.heap, M := M })
theorem runs_ok {M : MTree} {ms : List Memo} (hM : ∀ x, M.mem x → tab.memo x) (h : runs M ms = true) : ∀ m ∈ ms, tab.memo m := fun m hm =>
  memo_of_run tab_fits tab_memo hM (List.all_eq_true.1 h m hm)
end Go.Proofs.YtkpkmjanikkpoaaGreatDoor
namespace Go.Proofs.YtkpkmjanikkpoaaGreatDoor
open Go Go.Dt
set_option maxRecDepth 100000
noncomputable def Mb : MTree := addAll (mA ++ m30 ++ m34) .e
theorem runs_app {M : MTree} {l : List Memo} (n : Nat) (h1 : runs M (l.take n) = true) (h2 : runs M (l.drop n) = true) : runs M l = true := by
  have e := List.take_append_drop n l
  rw [← e]
  unfold runs at h1 h2 ⊢
  rw [List.all_append, h1, h2]; rfl
end Go.Proofs.YtkpkmjanikkpoaaGreatDoor
