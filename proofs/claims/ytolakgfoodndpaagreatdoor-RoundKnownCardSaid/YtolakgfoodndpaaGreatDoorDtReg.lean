/-
  Regions in the text's order. No statement of this seat stands here.
-/
import Derived.Test.YtolakgfoodndpaaGreatDoorDtAct4
namespace Go.Dt

def evT (T : Array Value) : Operand → Value
  | .tmp t => T.getD t undef
  | .const v => v
  | .global g => .pointer (some ⟨g, 0, none⟩)
  | .func f => .func (.func f) #[] #[]

def on (b : Frame) (T : Array Value) (ds : List Deferred) (todo : List Item) : Frame := { b with tmps := T, defers := ds, todo := todo, mode := .run }

theorem on_eval (b : Frame) (T : Array Value) (ds : List Deferred) (todo : List Item) : (on b T ds todo).eval = evT T := by
  funext x; cases x <;> rfl

def putV (T : Array Value) (dst : Option Tmp) (v : Value) : Array Value :=
  match dst with
  | some d => T.setIfInBounds d v
  | none => T

theorem on_finish (b : Frame) (T : Array Value) (ds : List Deferred) (ops : Array Oper) (i : Nat) (rest : List Nat) (k : List Item) (o : Oper) (ho : ops[i]? = some o) (v : Value) :
    (on b T ds (.inRegion ops (i :: rest) :: k)).finish v = on b (putV T o.dst v) ds (.inRegion ops rest :: k) := by
  cases hd : o.dst <;> simp [Frame.finish, on, putV, ho, hd]

def PanEntry (v : Value) (r : Bool) : PanicEntry := { v, recovered := r }

section steps
variable {P : Program} {b : Frame} {T : Array Value} {ds : List Deferred} {k : List Item} {cs : List Frame} {w w' : World} {ops : Array Oper} {i : Nat} {rest : List Nat} {o : Oper}

/-- a machine's goroutine in this frame -/
def gor (fr : Frame) (cs : List Frame) : Goroutine := { frame := fr, callers := cs, status := .running, dying := none }

theorem stepG_on (ho : ops[i]? = some o) (hw : Region.wanted o (yielded ops T) = true) (hd : b.roundOf = none ∨ ∀ c, o.op ≠ .defer c) :
    stepG P true (gor (on b T ds (.inRegion ops (i :: rest) :: k)) cs) w =
      stepG.apply P true (on b T ds (.inRegion ops (i :: rest) :: k)) cs none (Go.execOp (evT T) o) w := by
  have he := on_eval b T ds (.inRegion ops (i :: rest) :: k)
  simp only [gor, stepG, on, stepG.exec]
  simp only [ho, Option.map_some, hw, Option.getD_some, if_true]
  simp only [on] at he
  simp only [stepG.oper, Frame.oper?, ho, he]
  split
  · rename_i l c h1 h2
    rcases hd with hd | hd
    · rw [hd] at h1; cases h1
    · exact (hd _ h2).elim
  · rfl

theorem step_go {fr fr' : Frame} {cs' : List Frame} (h : (stepG P true (gor fr cs) w).bare = .go (gor fr' cs') w') : step P (lone fr cs w) = .next (lone fr' cs' w') :=
  step_lone_go h

theorem step_value {v : Value} (ho : ops[i]? = some o) (hw : Region.wanted o (yielded ops T) = true) (hd : b.roundOf = none ∨ ∀ c, o.op ≠ .defer c)
    (hr : (Go.execOp (evT T) o).run P w = .ok (.value v) w') :
    step P (lone (on b T ds (.inRegion ops (i :: rest) :: k)) cs w) = .next (lone (on b (putV T o.dst v) ds (.inRegion ops rest :: k)) cs w') := by
  refine step_go ?_
  rw [stepG_on ho hw hd, ← on_finish b T ds ops i rest k o ho v]
  simp [stepG.apply, hr, gor]

theorem step_skip' (ho : ops[i]? = some o) (hw : Region.wanted o (yielded ops T) = true) (hd : b.roundOf = none ∨ ∀ c, o.op ≠ .defer c)
    (hr : (Go.execOp (evT T) o).run P w = .ok .skip w') :
    step P (lone (on b T ds (.inRegion ops (i :: rest) :: k)) cs w) = .next (lone (on b (putV T o.dst undef) ds (.inRegion ops rest :: k)) cs w') := by
  refine step_go ?_
  rw [stepG_on ho hw hd, ← on_finish b T ds ops i rest k o ho undef]
  simp [stepG.apply, hr, gor]

theorem step_deferOp {d : Deferred} (ho : ops[i]? = some o) (hw : Region.wanted o (yielded ops T) = true) (hd : b.roundOf = none)
    (hr : (Go.execOp (evT T) o).run P w = .ok (.defer d) w') :
    step P (lone (on b T ds (.inRegion ops (i :: rest) :: k)) cs w) = .next (lone (on b (putV T o.dst undef) (d :: ds) (.inRegion ops rest :: k)) cs w') := by
  refine step_go ?_
  rw [stepG_on ho hw (.inl hd), ← on_finish b T (d :: ds) ops i rest k o ho undef]
  simp [stepG.apply, hr, gor, on]

theorem step_enter {f : FuncId} {args : Array Value} (ho : ops[i]? = some o) (hw : Region.wanted o (yielded ops T) = true) (hd : b.roundOf = none ∨ ∀ c, o.op ≠ .defer c)
    (hr : (Go.execOp (evT T) o).run P w = .ok (.enter f args) w') :
    step P (lone (on b T ds (.inRegion ops (i :: rest) :: k)) cs w) = .next (lone (Frame.enter P f args .normal) (on b T ds (.inRegion ops (i :: rest) :: k) :: cs) w') := by
  refine step_go ?_
  rw [stepG_on ho hw hd]
  simp [stepG.apply, hr, gor, on]

theorem step_roundOp {l : Nat} {f : FuncId} {tmps : Array Value} {assign body : Code} (ho : ops[i]? = some o) (hw : Region.wanted o (yielded ops T) = true) (hd : b.roundOf = none ∨ ∀ c, o.op ≠ .defer c)
    (hr : (Go.execOp (evT T) o).run P w = .ok (.round l f tmps assign body) w') :
    step P (lone (on b T ds (.inRegion ops (i :: rest) :: k)) cs w) = .next (lone (Frame.round l f tmps assign body .normal) (on b T ds (.inRegion ops (i :: rest) :: k) :: cs) w') := by
  refine step_go ?_
  rw [stepG_on ho hw hd]
  simp [stepG.apply, hr, gor]

theorem step_panicOp {v : Value} (ho : ops[i]? = some o) (hw : Region.wanted o (yielded ops T) = true) (hd : b.roundOf = none ∨ ∀ c, o.op ≠ .defer c)
    (hr : (Go.execOp (evT T) o).run P w = .halt (.panic v) w') :
    step P (lone (on b T ds (.inRegion ops (i :: rest) :: k)) cs w) = .next (lone { on b T ds (.inRegion ops (i :: rest) :: k) with mode := .panicking [{ v, recovered := false }] } cs w') := by
  refine step_go ?_
  rw [stepG_on ho hw hd]
  simp [stepG.apply, hr, gor, on, Frame.raise]

theorem step_unwanted (h : ((ops[i]?).map (Region.wanted · (yielded ops T))).getD false = false) (ho : ops[i]? = some o) :
    step P (lone (on b T ds (.inRegion ops (i :: rest) :: k)) cs w) = .next (lone (on b (putV T o.dst undef) ds (.inRegion ops rest :: k)) cs w) := by
  refine step_go ?_
  rw [← on_finish b T ds ops i rest k o ho undef]
  have h' := h
  simp only [on] at *
  simp [gor, stepG, stepG.exec, h']

end steps
end Go.Dt
