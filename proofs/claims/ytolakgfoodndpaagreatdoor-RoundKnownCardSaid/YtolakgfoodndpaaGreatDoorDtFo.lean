/-
  Frames of the deterministic reading are sound. No statement of this seat stands here.
-/
import Derived.Test.YtolakgfoodndpaaGreatDoorDtFs
namespace Go.Dt

section
variable {D : Tab} {P : Program}

def modeOf (ι : Nat → Loc) : Option AV → FrameMode
  | none => .returning
  | some v => .panicking [{ v := conc ι v, recovered := false }]

/-- a frame has ended -/
def Gone (P : Program) (X : Ctx) (b : Frame) (ι : Nat → Loc) (pan : Pan) (w : World) (e : AEnd) (m : Machine) : Prop :=
  match b.roundOf with
  | none => ∃ fr, Steps P m (lone fr (X.cs ι pan) w) ∧ fr.fn = b.fn ∧ fr.defers = [] ∧ fr.kind = b.kind ∧ ∃ fn, P.funcs[b.fn]? = some fn ∧
      match e with
      | .ret v => fr.mode = .returning ∧ (results fn fr.tmps).run P w = .ok (conc ι v) w
      | .panic v => fr.mode = .panicking [{ v := conc ι v, recovered := false }]
  | some _ => ∀ c cs, X.cs ι pan = c :: cs → Steps P m (lone (after c (concEnd ι e)) cs w)

theorem Gone.of_steps {X : Ctx} {b : Frame} {ι : Nat → Loc} {pan : Pan} {w : World} {e : AEnd} {m m' : Machine} (h : Steps P m m') (g : Gone P X b ι pan w e m') : Gone P X b ι pan w e m := by
  unfold Gone at *
  split
  · rename_i hr
    simp only [hr] at g
    obtain ⟨fr, hs, r⟩ := g
    exact ⟨fr, Steps.trans h hs, r⟩
  · rename_i hr
    simp only [hr] at g
    exact fun c cs hc => Steps.trans h (g c cs hc)

structure Base (P : Program) (X : Ctx) (b : Frame) (fr : AFr) (ι : Nat → Loc) (σ : St) : Prop where
  kind : b.kind = X.kind
  fn : b.fn = fr.fn
  round : b.roundOf = fr.round.map fun l => (ι l).block
  rnd : ∀ l, fr.round = some l → l < σ.n ∧ ∃ cs, X = .norm cs
  has : ∃ fn, P.funcs[b.fn]? = some fn

theorem Base.ext {X : Ctx} {b : Frame} {fr fr' : AFr} {ι ι' : Nat → Loc} {σ σ' : St} {w w' : World} (B : Base P X b fr ι σ) (E : Ext ι σ w ι' σ' w') (hf : fr'.fn = fr.fn) (hr : fr'.round = fr.round) :
    Base P X b fr' ι' σ' where
  kind := B.kind
  fn := B.fn.trans hf.symm
  round := by
    rw [B.round, hr]
    cases h : fr.round with
    | none => rfl
    | some l => simp [E.agree l (B.rnd l h).1]
  rnd := fun l h => by rw [hr] at h; exact ⟨Nat.lt_of_lt_of_le (B.rnd l h).1 E.n, (B.rnd l h).2⟩
  has := B.has

/-- what a frame leaves -/
def Out (D : Tab) (P : Program) (X : Ctx) (b : Frame) (ι : Nat → Loc) (σ : St) (w : World) (e : AEnd) (pan' : Pan) (σ' : St) (m : Machine) : Prop :=
  ∃ ι' w', Rep D ι' σ' w' ∧ Ext ι σ w ι' σ' w' ∧ idsEnd ι' (· < σ'.n) e ∧ idsPan ι' (· < σ'.n) pan' ∧ X.fits pan' ∧ Gone P X b ι' pan' w' e m

theorem Out.of_steps {X : Ctx} {b : Frame} {ι ι1 : Nat → Loc} {σ σ1 σ' : St} {w w1 : World} {e : AEnd} {pan' : Pan} {m m1 : Machine} (h : Steps P m m1) (E : Ext ι σ w ι1 σ1 w1)
    (o : Out D P X b ι1 σ1 w1 e pan' σ' m1) : Out D P X b ι σ w e pan' σ' m := by
  obtain ⟨ι', w', h1, h2, h3, h4, h5, h6⟩ := o
  exact ⟨ι', w', h1, E.trans h2, h3, h4, h5, h6.of_steps h⟩

def RunOK (D : Tab) (P : Program) (run : AFr → Pan → St → R (AEnd × Pan × St)) : Prop :=
  ∀ fr pan σ e pan' σ', run fr pan σ = .ok (e, pan', σ') → ∀ X b ι w, Base P X b fr ι σ → Rep D ι σ w → IdsF ι (· < σ.n) X fr.T fr.defers pan →
    Out D P X b ι σ w e pan' σ' (mach X b ι fr.T fr.defers pan (fr.todo.map cItem) w)

def FinOK (D : Tab) (P : Program) (finish : FuncId → List AV → List ADef → Option AV → Pan → St → R (AEnd × Pan × St)) : Prop :=
  ∀ f T ds mode pan σ e pan' σ', finish f T ds mode pan σ = .ok (e, pan', σ') → ∀ X b ι w todo, b.kind = X.kind → b.fn = f → b.roundOf = none → (∃ fn, P.funcs[b.fn]? = some fn) →
    Rep D ι σ w → IdsF ι (· < σ.n) X T ds pan → (∀ v, mode = some v → ids ι (· < σ.n) v) →
    Out D P X b ι σ w e pan' σ' (lone (unwinding b (concL ι T).toArray (ds.map (concDef ι)) todo (modeOf ι mode)) (X.cs ι pan) w)

def EndOK (D : Tab) (P : Program) (endLoop : AFr → Nat → AEnd → Pan → St → R (AEnd × Pan × St)) : Prop :=
  ∀ fr l en pan σ e pan' σ', endLoop fr l en pan σ = .ok (e, pan', σ') → ∀ X b ι w, Base P X b fr ι σ → Rep D ι σ w → IdsF ι (· < σ.n) X fr.T fr.defers pan → l < σ.n →
    idsEnd ι (· < σ.n) en →
    Out D P X b ι σ w e pan' σ' (lone (after (on b (concL ι fr.T).toArray (fr.defers.map (concDef ι)) (.inRangeFunc (ι l).block :: fr.todo.map cItem)) (concEnd ι en)) (X.cs ι pan) w)

structure FnsOK (D : Tab) (P : Program) (F : Fns) : Prop where
  run : RunOK D P F.run
  finish : FinOK D P F.finish
  endLoop : EndOK D P F.endLoop
  call : CallOK D P F.call
  round : RoundOK D P F.round

section loops
variable {ι : Nat → Loc} {σ : St} {w : World}

theorem getLoop_ok {l : Nat} {r : ALoop} (h : getLoop σ l = .ok r) : l < σ.n ∧ σ.getO l = .loop r := by
  unfold getLoop at h
  split at h
  · rename_i hl
    split at h
    · rename_i r' he
      simp at h
      subst h
      exact ⟨hl, he⟩
    · simp at h
  · simp at h

theorem loop_heap (R : Rep D ι σ w) {l : Nat} {r : ALoop} (h : getLoop σ l = .ok r) :
    w.heap[(ι l).block]? = some (.loop (concLoop ι r)) ∧ (ι l).shift = 0 ∧ idsL ι (· < σ.n) r.T ∧ r.defers < σ.n := by
  obtain ⟨h1, h2⟩ := getLoop_ok h
  have := R.obj l h1
  rw [h2] at this
  exact ⟨this.2.1, this.1, this.2.2.1, this.2.2.2⟩

theorem run_instrGet (R : Rep D ι σ w) {l : Nat} {r : ALoop} (h : getLoop σ l = .ok r) : (Instr.getLoop (ι l).block).run P w = .ok (concLoop ι r) w := by
  have := run_getObj P w (ι l).block _ (loop_heap R h).1 (by simp)
  simp only [Instr.getLoop, Sem.run_bind, this, Result.andThen_ok, Sem.run_pure]

theorem loop_set (R : Rep D ι σ w) {l : Nat} {r : ALoop} (h : getLoop σ l = .ok r) (r' : ALoop) (hT : r'.T = r.T) (hd : r'.defers = r.defers) :
    ∃ w', (setObj (ι l).block (.loop (concLoop ι r'))).run P w = .ok () w' ∧ Rep D ι (σ.set l (.loop r')) w' ∧ Ext ι σ w ι (σ.set l (.loop r')) w' := by
  obtain ⟨h1, h2⟩ := getLoop_ok h
  obtain ⟨hh, hs, hi, hdn⟩ := loop_heap R h
  have hlt : (ι l).block < w.heap.size := (Array.getElem?_eq_some_iff.1 hh).1
  have ho := only_setIf w (ι l).block (.loop (concLoop ι r'))
  have hset := R.set (o := .loop r') h1 (by rw [h2]; rfl) ho.size ho.other ho.os ⟨hs, heap_setIf w _ _ hlt, hT ▸ hi, hd ▸ hdn⟩
  exact ⟨_, run_setObj P w _ _ _ hh (by simp), hset.1, hset.2⟩

theorem run_endRound (R : Rep D ι σ w) {l : Nat} {r : ALoop} (h : getLoop σ l = .ok r) (jump : Option Code) :
    ∃ w', (Instr.endRound (ι l).block jump).run P w = .ok (.bool jump.isNone) w' ∧
      Rep D ι (σ.set l (.loop { r with state := if jump.isNone then .ready else .done, pending := jump })) w' ∧
      Ext ι σ w ι (σ.set l (.loop { r with state := if jump.isNone then .ready else .done, pending := jump })) w' := by
  obtain ⟨w', h1, h2, h3⟩ := loop_set (P := P) R h { r with state := if jump.isNone then .ready else .done, pending := jump } rfl rfl
  refine ⟨w', ?_, h2, h3⟩
  simp only [Instr.endRound, Sem.run_bind, run_instrGet R h, Result.andThen_ok, Sem.run_pure]
  simp only [concLoop] at h1 ⊢
  rw [h1]
  rfl

theorem run_beginRound (R : Rep D ι σ w) {l : Nat} {r : ALoop} (h : getLoop σ l = .ok r) (hs : r.state = .ready) :
    ∃ w', (Instr.beginRound (ι l).block).run P w = .ok () w' ∧ Rep D ι (σ.set l (.loop { r with state := .busy })) w' ∧ Ext ι σ w ι (σ.set l (.loop { r with state := .busy })) w' := by
  obtain ⟨w', h1, h2, h3⟩ := loop_set (P := P) R h { r with state := .busy } rfl rfl
  refine ⟨w', ?_, h2, h3⟩
  simp only [Instr.beginRound, Sem.run_bind, run_instrGet R h, Result.andThen_ok]
  simp only [concLoop] at h1 ⊢
  rw [h1]
  simp [hs]

theorem run_endLoop (R : Rep D ι σ w) {l : Nat} {r : ALoop} (h : getLoop σ l = .ok r) (hs : r.state ≠ .busy) :
    ∃ w', (Instr.endLoop (ι l).block).run P w = .ok r.pending w' ∧ Rep D ι (σ.set l (.loop { r with state := .exhausted })) w' ∧ Ext ι σ w ι (σ.set l (.loop { r with state := .exhausted })) w' := by
  obtain ⟨w', h1, h2, h3⟩ := loop_set (P := P) R h { r with state := .exhausted } rfl rfl
  refine ⟨w', ?_, h2, h3⟩
  simp only [Instr.endLoop, Sem.run_bind, run_instrGet R h, Result.andThen_ok]
  have : ((concLoop ι r).state == LoopState.busy) = false := by simpa [concLoop] using hs
  simp only [concLoop] at h1 this ⊢
  simp [this, h1]

theorem set_n (l : Nat) (o : AO) : (σ.set l o).n = σ.n := rfl
end loops

theorem leave_round {X : Ctx} {b : Frame} {fr : AFr} {ι : Nat → Loc} {σ σ' : St} {w : World} {pan pan' : Pan} {e : AEnd} {l : Nat} {jump : Option Code} {F : Fns} {m : Machine}
    (hl : fr.round = some l) (B : Base P X b fr ι σ) (Rp : Rep D ι σ w) (I : IdsF ι (· < σ.n) X fr.T fr.defers pan) (h : leaveF F fr jump pan σ = .ok (e, pan', σ'))
    (st : ∀ (c : Frame) (cs : List Frame) (v : Value) (w' : World), X.cs ι pan = c :: cs → (Instr.endRound (ι l).block jump).run P w = .ok v w' → Steps P m (lone (c.finish v) cs w')) :
    Out D P X b ι σ w e pan' σ' m := by
  simp only [leaveF, hl] at h
  split at h
  · simp only [bind_ok, pure_ok, Prod.mk.injEq] at h
    obtain ⟨r, hr, rfl, rfl, rfl⟩ := h
    obtain ⟨w', h1, h2, h3⟩ := run_endRound (P := P) Rp hr jump
    refine ⟨ι, w', h2, h3, trivial, I.pan, I.fit, ?_⟩
    unfold Gone
    have hb : b.roundOf = some (ι l).block := by rw [B.round, hl]; rfl
    simp only [hb]
    intro c cs hc
    simpa [concEnd, after, boolV, conc] using st c cs _ _ hc h1
  · simp at h

theorem panic_ok {F : Fns} (HF : FnsOK D P F) {X : Ctx} {b : Frame} {fr : AFr} {ι : Nat → Loc} {σ σ' : St} {w : World} {pan pan' : Pan} {e : AEnd} {v : AV} {todo : List Item}
    (B : Base P X b fr ι σ) (Rp : Rep D ι σ w) (I : IdsF ι (· < σ.n) X fr.T fr.defers pan) (hv : ids ι (· < σ.n) v) (h : panicF F fr v pan σ = .ok (e, pan', σ')) :
    Out D P X b ι σ w e pan' σ' (machP X b ι fr.T fr.defers pan todo v w) := by
  unfold panicF at h
  split at h
  · rename_i hr
    have hb : b.roundOf = none := by rw [B.round, hr]; rfl
    exact HF.finish _ _ _ _ _ _ _ _ _ h X b ι w todo B.kind B.fn hb B.has Rp I (by intro v' hv'; cases hv'; exact hv)
  · rename_i l hr
    split at h
    · rename_i hds
      simp at h
      obtain ⟨rfl, rfl, rfl⟩ := h
      have hb : b.roundOf = some (ι l).block := by rw [B.round, hr]; rfl
      refine ⟨ι, w, Rp, Ext.refl _ _ _, hv, I.pan, I.fit, ?_⟩
      unfold Gone
      simp only [hb]
      intro c cs hc
      obtain ⟨fn, hfn⟩ := B.has
      have hds' : fr.defers = [] := by simpa using hds
      have := step_round_panic (P := P) (b := b) (T := (concL ι fr.T).toArray) (c := c) (cs := cs) (w := w) (todo := todo) (chain := [{ v := conc ι v, recovered := false }]) hfn
      unfold machP
      rw [hc, hds']
      exact .one this
    · simp at h

theorem endLoop_ok {F : Fns} (HF : FnsOK D P F) : EndOK D P (endLoopF F) := by
  intro fr l en pan σ e pan' σ' h X b ι w B Rp I hl hen
  unfold endLoopF at h
  split at h
  · rename_i v
    simp only [bind_ok] at h
    obtain ⟨r, hr, h⟩ := h
    split at h
    · simp at h
    · rename_i hs
      obtain ⟨w1, h1, h2, h3⟩ := run_endLoop (P := P) Rp hr hs
      have hst : Steps P (lone (after (on b (concL ι fr.T).toArray (fr.defers.map (concDef ι)) (.inRangeFunc (ι l).block :: fr.todo.map cItem)) (concEnd ι (.ret v))) (X.cs ι pan) w)
          (lone (on b (concL ι fr.T).toArray (fr.defers.map (concDef ι)) ((r.pending.map Item.code).toList ++ fr.todo.map cItem)) (X.cs ι pan) w1) := .one (step_endLoop h1)
      refine Out.of_steps hst h3 ?_
      have I' : IdsF ι (· < (σ.set l (.loop { r with state := .exhausted })).n) X fr.T fr.defers pan := I
      split at h
      · rename_i hp
        have hp' : (r.pending.map Item.code).toList = [] := by rw [hp]; rfl
        rw [hp']
        exact HF.run _ _ _ _ _ _ h X b ι w1 (B.ext h3 rfl rfl) h2 I'
      · rename_i c hp
        have hp' : (r.pending.map Item.code).toList = [.code c] := by rw [hp]; rfl
        rw [hp']
        exact HF.run _ _ _ _ _ _ h X b ι w1 (B.ext h3 rfl rfl) h2 I'
  · rename_i v
    exact panic_ok HF B Rp I hen h

def resM (T : Array Value) : ResultVar → Sem Value
  | .tmp t => pure (T.getD t undef)
  | .cell a t => do loadVar t (← asAddr (T.getD a undef))

theorem resultV_ok (F : Fits D P) {ι : Nat → Loc} {σ : St} {w : World} (Rp : Rep D ι σ w) {T : List AV} (hT : idsL ι (· < σ.n) T) : ∀ (l : List ResultVar) (vs : List AV), resultV D σ T l = .ok vs →
    (l.mapM (resM (concL ι T).toArray)).run P w = .ok (concL ι vs) w ∧ idsL ι (· < σ.n) vs := by
  intro l
  induction l with
  | nil => intro vs h; simp [resultV] at h; subst h; simp [concL, idsL]
  | cons x l ih =>
    intro vs h
    cases x with
    | tmp t =>
      simp only [resultV, bind_ok, pure_ok] at h
      obtain ⟨r, h1, rfl⟩ := h
      obtain ⟨h2, h3⟩ := ih r h1
      refine ⟨?_, ?_, h3⟩
      · simp only [List.mapM_cons, Sem.run_bind, Sem.run_pure, Result.andThen_ok, h2, resM, getD_conc, concL]
      · have := evalO_ids (D := D) Rp Rp.glob_lt hT (.tmp t)
        simpa [evalO] using this
    | cell a t =>
      simp only [resultV, bind_ok, pure_ok] at h
      obtain ⟨v, hv, r, h1, rfl⟩ := h
      obtain ⟨h2, h3⟩ := ih r h1
      obtain ⟨h4, h5⟩ := run_loadV F Rp hv
      refine ⟨?_, h5, h3⟩
      have hp : ∃ b o, T.getD a .undef = .ptr b o := by
        unfold loadV at hv
        split at hv
        · rename_i b o hb
          exact ⟨b, o, hb⟩
        · simp at hv
      obtain ⟨b, o, hp⟩ := hp
      rw [hp] at h4
      simp only [Instr.loadAt, conc, Instr.sureAddr, Sem.run_bind, Sem.run_pure, Result.andThen_ok] at h4
      simp only [List.mapM_cons, Sem.run_bind, Sem.run_pure, Result.andThen_ok, resM, getD_conc, hp, conc, asAddr, h4, h2, concL]

theorem results_ok (F : Fits D P) {ι : Nat → Loc} {σ : St} {w : World} (Rp : Rep D ι σ w) {T : List AV} (hT : idsL ι (· < σ.n) T) {f : FuncId} {v : AV} (h : resultsV D σ f T = .ok v) :
    ∃ fn, P.funcs[f]? = some fn ∧ (results fn (concL ι T).toArray).run P w = .ok (conc ι v) w ∧ ids ι (· < σ.n) v := by
  unfold resultsV at h
  split at h
  · rename_i fn hfn
    simp only [bind_ok] at h
    obtain ⟨vs, hvs, h⟩ := h
    obtain ⟨h1, h2⟩ := resultV_ok F Rp hT _ _ hvs
    refine ⟨fn, F.func _ _ hfn, ?_, ?_⟩
    · have hm : results fn (concL ι T).toArray = (do let vs ← fn.results.mapM (resM (concL ι T).toArray); pure (if h : vs.size = 1 then vs[0] else .tuple vs) : Sem Value) := by
        unfold results
        congr
      rw [hm, Array.mapM_eq_mapM_toList]
      simp only [Sem.run_bind, Sem.run_map, h1, Result.andThen_ok]
      split at h
      · rename_i x
        simp at h; subst h
        simp [concL]
      · rename_i hne
        simp at h; subst h
        have : vs.length ≠ 1 := by
          intro e
          obtain ⟨x, hx⟩ := List.length_eq_one_iff.1 e
          exact hne x hx
        simp [this, conc]
    · split at h
      · rename_i x
        simp at h; subst h
        exact h2.1
      · simp at h; subst h
        exact h2
  · simp at h

end
end Go.Dt
