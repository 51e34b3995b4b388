/-
  Frames of the deterministic reading: steps of the machine. No statement of this seat stands here.
-/
import Derived.Test.YtolakgfoodndpaaGreatDoorDtCpy
import Derived.Test.YtolakgfoodndpaaGreatDoorDtFrm
namespace Go.Dt

def cItem : AItem → Item
  | .code c => .code c
  | .inBlock id => .inBlock id
  | .inLoop b => .inLoop b
  | .inScope b => .inScope b
  | .beginRound => .beginRound

theorem exitTo_c (id : Nat) : ∀ k : List AItem, Go.exitTo id (k.map cItem) = (exitTo id k).map (List.map cItem)
  | [] => rfl
  | .inBlock id' :: k => by
    simp only [List.map_cons, cItem, Go.exitTo, exitTo]
    split
    · rfl
    · exact exitTo_c id k
  | .code c :: k => by simp only [List.map_cons, cItem, Go.exitTo, exitTo]; exact exitTo_c id k
  | .inLoop c :: k => by simp only [List.map_cons, cItem, Go.exitTo, exitTo]; exact exitTo_c id k
  | .inScope c :: k => by simp only [List.map_cons, cItem, Go.exitTo, exitTo]; exact exitTo_c id k
  | .beginRound :: k => by simp only [List.map_cons, cItem, Go.exitTo, exitTo]; exact exitTo_c id k
theorem gotoIn_c (l : Nat) : ∀ k : List AItem, Go.gotoIn l (k.map cItem) = (gotoIn l k).map (List.map cItem)
  | [] => rfl
  | .inScope c :: k => by
    simp only [List.map_cons, cItem, Go.gotoIn, gotoIn]
    cases h : findLabel c l with
    | none => simpa using gotoIn_c l k
    | some rest => simp [cItem]
  | .code c :: k => by simp only [List.map_cons, cItem, Go.gotoIn, gotoIn]; exact gotoIn_c l k
  | .inLoop c :: k => by simp only [List.map_cons, cItem, Go.gotoIn, gotoIn]; exact gotoIn_c l k
  | .inBlock c :: k => by simp only [List.map_cons, cItem, Go.gotoIn, gotoIn]; exact gotoIn_c l k
  | .beginRound :: k => by simp only [List.map_cons, cItem, Go.gotoIn, gotoIn]; exact gotoIn_c l k

section
variable {P : Program} {b : Frame} {T : Array Value} {ds : List Deferred} {k : List Item} {cs : List Frame} {w w' : World}

theorem step_on_skip : step P (lone (on b T ds (.code .skip :: k)) cs w) = .next (lone (on b T ds k) cs w) := step_lone_go (by simp [stepG, stepG.exec, on])
theorem step_on_label {l : Nat} : step P (lone (on b T ds (.code (.label l) :: k)) cs w) = .next (lone (on b T ds k) cs w) := step_lone_go (by simp [stepG, stepG.exec, on])
theorem step_on_inBlock {l : Nat} : step P (lone (on b T ds (.inBlock l :: k)) cs w) = .next (lone (on b T ds k) cs w) := step_lone_go (by simp [stepG, stepG.exec, on])
theorem step_on_inScope {c : Code} : step P (lone (on b T ds (.inScope c :: k)) cs w) = .next (lone (on b T ds k) cs w) := step_lone_go (by simp [stepG, stepG.exec, on])
theorem step_on_inLoop {c : Code} : step P (lone (on b T ds (.inLoop c :: k)) cs w) = .next (lone (on b T ds (.code c :: .inLoop c :: k)) cs w) := step_lone_go (by simp [stepG, stepG.exec, on])
theorem step_on_seq {x y : Code} : step P (lone (on b T ds (.code (.seq x y) :: k)) cs w) = .next (lone (on b T ds (.code x :: .code y :: k)) cs w) := step_lone_go (by simp [stepG, stepG.exec, on])
theorem step_on_block {id : Nat} {x : Code} : step P (lone (on b T ds (.code (.block id x) :: k)) cs w) = .next (lone (on b T ds (.code x :: .inBlock id :: k)) cs w) := step_lone_go (by simp [stepG, stepG.exec, on])
theorem step_on_loop {x : Code} : step P (lone (on b T ds (.code (.loop x) :: k)) cs w) = .next (lone (on b T ds (.code x :: .inLoop x :: k)) cs w) := step_lone_go (by simp [stepG, stepG.exec, on])
theorem step_on_scope {x : Code} : step P (lone (on b T ds (.code (.scope x) :: k)) cs w) = .next (lone (on b T ds (.code x :: .inScope x :: k)) cs w) := step_lone_go (by simp [stepG, stepG.exec, on])
theorem step_on_cond {c : Operand} {x y : Code} {t : Bool} (h : evT T c = .bool t) :
    step P (lone (on b T ds (.code (.cond c x y) :: k)) cs w) = .next (lone (on b T ds (.code (if t then x else y) :: k)) cs w) := step_lone_go (by
  have := congrFun (on_eval b T ds (.code (.cond c x y) :: k)) c
  simp only [on] at this
  simp [stepG, stepG.exec, on, this, h])
theorem step_on_exit {id : Nat} {k' : List Item} (h : Go.exitTo id k = some k') : step P (lone (on b T ds (.code (.exit id) :: k)) cs w) = .next (lone (on b T ds k') cs w) :=
  step_lone_go (by simp [stepG, stepG.exec, on, h])
theorem step_on_goto {id : Nat} {k' : List Item} (h : Go.gotoIn id k = some k') : step P (lone (on b T ds (.code (.goto id) :: k)) cs w) = .next (lone (on b T ds k') cs w) :=
  step_lone_go (by simp [stepG, stepG.exec, on, h])

/-- a frame that leaves -/
def unwinding (b : Frame) (T : Array Value) (ds : List Deferred) (todo : List Item) (mode : FrameMode) : Frame := { on b T ds todo with mode := mode }

theorem step_on_nil (hr : b.roundOf = none) : step P (lone (on b T ds []) cs w) = .next (lone (unwinding b T ds [] .returning) cs w) :=
  step_lone_go (by simp [stepG, stepG.exec, on, hr, unwinding])
theorem step_on_ret (hr : b.roundOf = none) : step P (lone (on b T ds (.code .ret :: k)) cs w) = .next (lone (unwinding b T ds (.code .ret :: k) .returning) cs w) :=
  step_lone_go (by simp [stepG, stepG.exec, on, hr, unwinding])

theorem step_round_nil {l : Nat} {c : Frame} {v : Value} (hr : b.roundOf = some l) (hk : b.kind = .normal) (h : (Instr.endRound l none).run P w = .ok v w') :
    step P (lone (on b T ds []) (c :: cs) w) = .next (lone (c.finish v) cs w') :=
  step_lone_go (by simp [stepG, stepG.exec, on, hr, h, doReturn, hk])
theorem step_round_ret {l : Nat} {c : Frame} {v : Value} (hr : b.roundOf = some l) (hk : b.kind = .normal) (h : (Instr.endRound l (some .ret)).run P w = .ok v w') :
    step P (lone (on b T ds (.code .ret :: k)) (c :: cs) w) = .next (lone (c.finish v) cs w') :=
  step_lone_go (by simp [stepG, stepG.exec, on, hr, h, doReturn, hk])
theorem step_round_exit {l id : Nat} {c : Frame} {v : Value} (hr : b.roundOf = some l) (hk : b.kind = .normal) (he : Go.exitTo id k = none) (h : (Instr.endRound l (some (.exit id))).run P w = .ok v w') :
    step P (lone (on b T ds (.code (.exit id) :: k)) (c :: cs) w) = .next (lone (c.finish v) cs w') :=
  step_lone_go (by simp [stepG, stepG.exec, on, hr, he, h, doReturn, hk])
theorem step_round_goto {l id : Nat} {c : Frame} {v : Value} (hr : b.roundOf = some l) (hk : b.kind = .normal) (he : Go.gotoIn id k = none) (h : (Instr.endRound l (some (.goto id))).run P w = .ok v w') :
    step P (lone (on b T ds (.code (.goto id) :: k)) (c :: cs) w) = .next (lone (c.finish v) cs w') :=
  step_lone_go (by simp [stepG, stepG.exec, on, hr, he, h, doReturn, hk])

theorem step_round_panic {c : Frame} {todo : List Item} {chain : List PanicEntry} {fn : Func} (hf : P.funcs[b.fn]? = some fn) :
    step P (lone (unwinding b T [] todo (.panicking chain)) (c :: cs) w) = .next (lone (c.raise chain) cs w) :=
  step_lone_go (by simp [stepG, unwind, unwinding, on, Frame.catches, hf])

theorem step_begin {l : Nat} (hr : b.roundOf = some l) (h : (Instr.beginRound l).run P w = .ok () w') :
    step P (lone (on b T ds (.beginRound :: k)) cs w) = .next (lone (on b T ds k) cs w') :=
  step_lone_go (by simp [stepG, stepG.exec, stepG.apply, on, hr, h, Frame.finish])

theorem step_endLoop {l : Nat} {j : Option Code} (h : (Instr.endLoop l).run P w = .ok j w') :
    step P (lone (on b T ds (.endRangeFunc l :: k)) cs w) = .next (lone (on b T ds ((j.map Item.code).toList ++ k)) cs w') :=
  step_lone_go (by simp [stepG, stepG.exec, on, h])

theorem step_collect {r : Nat} {args : Array Value} {todo : List Item} {mode : FrameMode} {calls : List Deferred} (hm : mode ≠ .run) (h : (Instr.takeDeferred r).run P w = .ok calls w') :
    step P (lone (unwinding b T ({ target := .collected r, args } :: ds) todo mode) cs w) = .next (lone (unwinding b T (calls ++ ds) todo mode) cs w') :=
  step_lone_go (by
    cases mode with
    | run => exact (hm rfl).elim
    | returning => simp [stepG, unwind, unwinding, on, h]
    | panicking c => simp [stepG, unwind, unwinding, on, h])

theorem step_deferred {fn : Fn} {cap args : Array Value} {todo : List Item} {mode : FrameMode} {f : FuncId} {as : Array Value} (hm : mode ≠ .run)
    (h : (invoke (.fn fn cap) args).run P w = .ok (.enter f as) w) :
    step P (lone (unwinding b T ({ target := .fn fn cap, args } :: ds) todo mode) cs w) = .next (lone (Frame.enter P f as .deferred) (unwinding b T ds todo mode :: cs) w) :=
  step_lone_go (by
    cases mode with
    | run => exact (hm rfl).elim
    | returning => simp [stepG, unwind, unwinding, on, h, callDeferred]
    | panicking c => simp [stepG, unwind, unwinding, on, h, callDeferred])

theorem step_range_func {f : Operand} {params : Array Tmp} {assign body : Code} {l : Nat} {mark : List Deferred} {g : FuncId} {as : Array Value}
    (h : (Instr.enterLoop b.fn T params assign body b.roundOf).run P w = .ok (l, mark) w')
    (hi : (do let d ← Deferred.ofValue (evT T f) #[.func (.yield l) #[] #[]]; invoke d.target d.args : Sem Next).run P w' = .ok (.enter g as) w') :
    step P (lone (on b T ds (.code (.rangeFunc f params assign body) :: k)) cs w) =
      .next (lone (Frame.enter P g as .normal) (on b T (mark ++ ds) (.inRangeFunc l :: k) :: cs) w') := by
  refine step_lone_go ?_
  have he : ({ b with tmps := T, defers := mark ++ ds, todo := .inRangeFunc l :: k, mode := .run } : Frame).eval = evT T := on_eval b T _ _
  have hi' : (do let d ← resolve (evT T) { callee := .value f, args := #[.const (.func (.yield l) #[] #[])], argTypes := #[] } 0; invoke d.target d.args : Sem Next).run P w' = .ok (.enter g as) w' := by
    simpa [resolve, evT] using hi
  simp [stepG, stepG.exec, on, h, stepG.apply, he, hi']

theorem step_range_round {f : Operand} {params : Array Tmp} {assign body : Code} {l l' : Nat} {mark : List Deferred} {g : FuncId} {tmps : Array Value} {as bd : Code}
    (h : (Instr.enterLoop b.fn T params assign body b.roundOf).run P w = .ok (l, mark) w')
    (hi : (do let d ← Deferred.ofValue (evT T f) #[.func (.yield l) #[] #[]]; invoke d.target d.args : Sem Next).run P w' = .ok (.round l' g tmps as bd) w') :
    step P (lone (on b T ds (.code (.rangeFunc f params assign body) :: k)) cs w) =
      .next (lone (Frame.round l' g tmps as bd .normal) (on b T (mark ++ ds) (.inRangeFunc l :: k) :: cs) w') := by
  refine step_lone_go ?_
  have he : ({ b with tmps := T, defers := mark ++ ds, todo := .inRangeFunc l :: k, mode := .run } : Frame).eval = evT T := on_eval b T _ _
  have hi' : (do let d ← resolve (evT T) { callee := .value f, args := #[.const (.func (.yield l) #[] #[])], argTypes := #[] } 0; invoke d.target d.args : Sem Next).run P w' = .ok (.round l' g tmps as bd) w' := by
    simpa [resolve, evT] using hi
  simp [stepG, stepG.exec, on, h, stepG.apply, he, hi']

end

/-- a deferred call has come back -/
def backTo (c : Frame) : Frame :=
  match c.mode with
  | .panicking ({ recovered := true, .. } :: older) =>
    match older.dropWhile (!·.goexit) with
    | [] => { c with mode := .returning }
    | rest => { c with mode := .panicking rest }
  | _ => c

theorem step_back {P : Program} {fr c : Frame} {cs : List Frame} {w : World} {v : Value} {fn : Func} (hm : fr.mode = .returning) (hd : fr.defers = []) (hk : fr.kind = .deferred)
    (hf : P.funcs[fr.fn]? = some fn) (hr : (results fn fr.tmps).run P w = .ok v w) : step P (lone fr (c :: cs) w) = .next (lone (backTo c) cs w) :=
  step_lone_go (by
    have key : ∀ c : Frame, (match c.mode with
        | .panicking ({ recovered := true, .. } :: older) =>
          match older.dropWhile (!·.goexit) with
          | [] => { c with mode := .returning }
          | rest => { c with mode := .panicking rest }
        | _ => c) = backTo c := fun c => rfl
    simp [stepG, unwind, doReturn, hm, hd, hk, hf, hr]
    unfold backTo
    cases hc : c.mode with
    | run => rfl
    | returning => rfl
    | panicking chain =>
      cases chain with
      | nil => rfl
      | cons e older =>
        obtain ⟨v, r, g⟩ := e
        cases r with
        | false => rfl
        | true => cases hh : List.dropWhile (fun x : PanicEntry => !x.goexit) older <;> simp [hh])

theorem step_raise {P : Program} {fr c : Frame} {cs : List Frame} {w : World} {chain : List PanicEntry} {fn : Func} (hm : fr.mode = .panicking chain) (hd : fr.defers = [])
    (hf : P.funcs[fr.fn]? = some fn) : step P (lone fr (c :: cs) w) = .next (lone (c.raise chain) cs w) :=
  step_lone_go (by simp [stepG, unwind, Frame.catches, hm, hd, hf])

end Go.Dt
