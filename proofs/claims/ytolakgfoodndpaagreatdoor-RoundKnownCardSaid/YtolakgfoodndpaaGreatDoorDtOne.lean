/-
  One operation of a region. No statement of this seat stands here.
-/
import Derived.Test.YtolakgfoodndpaaGreatDoorDtSeq
namespace Go.Dt

section
variable {D : Tab} {P : Program}

theorem after_on {b : Frame} {M : Array Value} {ds : List Deferred} {ops : Array Oper} {i : Nat} {rest : List Nat} {k : List Item} {o : Oper} (ho : ops[i]? = some o) (ι : Nat → Loc) (e : AEnd) :
    after (on b M ds (.inRegion ops (i :: rest) :: k)) (concEnd ι e) =
      match e with
      | .ret v => on b (putV M o.dst (conc ι v)) ds (.inRegion ops rest :: k)
      | .panic v => { on b M ds (.inRegion ops (i :: rest) :: k) with mode := .panicking [{ v := conc ι v, recovered := false }] } := by
  cases e with
  | ret v => simp only [after, concEnd]; exact on_finish b M ds ops i rest k o ho _
  | panic v => simp [after, concEnd, Frame.raise, on]

/-- the call of a function under a waiting frame -/
theorem call_steps {f : FuncId} {args : Array Value} {w : World} {Q : Ending → World → Prop} (h : Calls P f args w Q) (hQ : ∀ w', ¬ Q .outgrown w') (c : Frame) (cs : List Frame) :
    ∃ e w', Q e w' ∧ Steps P (lone (Frame.enter P f args .normal) (c :: cs) w) (lone (after c e) cs w') := by
  obtain ⟨e, w', fr, hq, hc, _, hl⟩ := h (c :: cs)
  refine ⟨e, w', hq, ?_⟩
  cases e with
  | returned v => exact Steps.trans hc (.one (step_leave_returned hl))
  | panicked chain => exact Steps.trans hc (.one (step_leave_panicked hl))
  | outgrown => exact (hQ _ hq).elim

theorem concEnd_ne (ι : Nat → Loc) (e : AEnd) : concEnd ι e ≠ .outgrown := by cases e <;> simp [concEnd]

theorem not_defer {e : Operand → AV} {σ σ' : St} {op : Op} {nx : ANext} (h : execOp D e σ op = .ok (nx, σ')) (hn : ∀ d, nx ≠ .defer d) : ∀ c, op ≠ .defer c := by
  rintro c rfl
  simp only [execOp, clsD, clsOf, actOp] at h
  split at h
  · split at h
    · simp only [Except.ok.injEq, Prod.mk.injEq] at h; exact hn _ h.1.symm
    · simp at h
  · simp at h

theorem tryRecover_some {X : Ctx} {ι : Nat → Loc} {v : AV} {fr : Frame} (hk : fr.kind = X.kind) (hfit : X.fits (some (v, false))) :
    tryRecover fr (X.cs ι (some (v, false))) = some (conc ι v, X.cs ι (some (v, true))) := by
  cases X with
  | norm cs => simp [Ctx.fits] at hfit
  | dfr c rest => simp [tryRecover, hk, Ctx.kind, Ctx.cs, panMode]

theorem tryRecover_none {X : Ctx} {ι : Nat → Loc} {pan : Pan} {fr : Frame} (hk : fr.kind = X.kind) (hp : ∀ v, pan ≠ some (v, false)) :
    tryRecover fr (X.cs ι pan) = none := by
  cases X with
  | norm cs => simp [tryRecover, hk, Ctx.kind]
  | dfr c rest =>
    cases pan with
    | none => simp [tryRecover, hk, Ctx.kind, Ctx.cs, panMode]
    | some p =>
      obtain ⟨v, r⟩ := p
      cases r with
      | false => exact (hp v rfl).elim
      | true => simp [tryRecover, hk, Ctx.kind, Ctx.cs, panMode]

section
variable {b : Frame} {T : Array Value} {ds : List Deferred} {k : List Item} {cs cs' : List Frame} {w w' : World} {ops : Array Oper} {i : Nat} {rest : List Nat} {o : Oper}

theorem step_recover_some {v : Value} (ho : ops[i]? = some o) (hw : Region.wanted o (yielded ops T) = true) (hr0 : b.roundOf = none)
    (hr : (Go.execOp (evT T) o).run P w = .ok .recover w') (ht : tryRecover (on b T ds (.inRegion ops (i :: rest) :: k)) cs = some (v, cs')) :
    step P (lone (on b T ds (.inRegion ops (i :: rest) :: k)) cs w) = .next (lone (on b (putV T o.dst v) ds (.inRegion ops rest :: k)) cs' w') := by
  refine step_go ?_
  rw [stepG_on ho hw (.inl hr0), ← on_finish b T ds ops i rest k o ho v]
  have : (on b T ds (.inRegion ops (i :: rest) :: k)).roundOf = none := hr0
  simp [stepG.apply, hr, gor, this, ht]

theorem step_recover_none (ho : ops[i]? = some o) (hw : Region.wanted o (yielded ops T) = true) (hr0 : b.roundOf = none)
    (hr : (Go.execOp (evT T) o).run P w = .ok .recover w') (ht : tryRecover (on b T ds (.inRegion ops (i :: rest) :: k)) cs = none) :
    step P (lone (on b T ds (.inRegion ops (i :: rest) :: k)) cs w) = .next (lone (on b (putV T o.dst .nilIface) ds (.inRegion ops rest :: k)) cs w') := by
  refine step_go ?_
  rw [stepG_on ho hw (.inl hr0), ← on_finish b T ds ops i rest k o ho .nilIface]
  have : (on b T ds (.inRegion ops (i :: rest) :: k)).roundOf = none := hr0
  simp [stepG.apply, hr, gor, this, ht]
end

/-- what an operation leaves -/
inductive OneEnd (P : Program) (X : Ctx) (b : Frame) (ops : Array Oper) (i : Nat) (rest : List Nat) (k : List Item) (o : Oper) (m : Machine) (M : Array Value) (T : List AV) (ds : List ADef) (pan : Pan) :
    OpEnd → (Nat → Loc) → St → World → Prop
  | go {ι' : Nat → Loc} {σ' : St} {w' : World} {v : AV} {ds' : List ADef} {pan' : Pan}
      (steps : Steps P m (lone (on b (putV M o.dst (conc ι' v)) (ds'.map (concDef ι')) (.inRegion ops rest :: k)) (X.cs ι' pan') w'))
      (hv : ids ι' (· < σ'.n) v) (hds : idsDs ι' (· < σ'.n) ds') (hpan : idsPan ι' (· < σ'.n) pan') (hfit : X.fits pan') :
      OneEnd P X b ops i rest k o m M T ds pan (.go (put T o.dst v) ds' pan' σ') ι' σ' w'
  | panic {ι' : Nat → Loc} {σ' : St} {w' : World} {v : AV}
      (steps : Steps P m (lone { on b M (ds.map (concDef ι')) (.inRegion ops (i :: rest) :: k) with mode := .panicking [{ v := conc ι' v, recovered := false }] } (X.cs ι' pan) w'))
      (hv : ids ι' (· < σ'.n) v) : OneEnd P X b ops i rest k o m M T ds pan (.panic v T ds pan σ') ι' σ' w'

theorem runOne_ok (F : Fits D P) {call : CallT} {round : RoundT} (HC : CallOK D P call) (HR : RoundOK D P round) {isRound : Bool} {X : Ctx} {b : Frame} (hk : b.kind = X.kind)
    (hround : b.roundOf = none ↔ isRound = false) {ι : Nat → Loc} {σ : St} {w : World} (R : Rep D ι σ w) {ops : Array Oper} {i : Nat} {rest : List Nat} {k : List Item} {o : Oper}
    (ho : ops[i]? = some o) {M : Array Value} {T : List AV} {ds : List ADef} {pan : Pan} {r : OpEnd}
    (hw : Region.wanted o (yielded ops M) = true) (hop : Go.execOp (evT M) o = Go.execOp (fun x => conc ι (evalO D T x)) o)
    (hid : ∀ x, x ∈ o.op.operands → ids ι (· < σ.n) (evalO D T x))
    (hds : idsDs ι (· < σ.n) ds) (hpan : idsPan ι (· < σ.n) pan) (hfit : X.fits pan)
    (h : runOne D call round isRound o T ds pan σ = .ok r) :
    ∃ ι' σ' w', OneEnd P X b ops i rest k o (lone (on b M (ds.map (concDef ι)) (.inRegion ops (i :: rest) :: k)) (X.cs ι pan) w) M T ds pan r ι' σ' w' ∧
      Rep D ι' σ' w' ∧ Ext ι σ w ι' σ' w' := by
  simp only [runOne, bind_ok] at h
  obtain ⟨⟨nx, σ1⟩, hx, h⟩ := h
  obtain ⟨ι1, w1, hc, R1, E1, hids⟩ := execOp_run F R hx hid
  rw [← hop] at hc
  have hds1 := idsDs_mono E1.k hds
  have hpan1 := idsPan_mono E1.k pan hpan
  have hcs : X.cs ι1 pan = X.cs ι pan := X.agree E1.agree hpan
  have hdsc : ds.map (concDef ι1) = ds.map (concDef ι) := concDs_agree E1.agree hds
  have hnd : (∀ d, nx ≠ .defer d) → (b.roundOf = none ∨ ∀ c, o.op ≠ .defer c) := fun hn => .inr (not_defer hx hn)
  cases nx with
  | value v =>
    simp at h; subst h
    obtain ⟨x, hx', hrun⟩ := hc
    simp only [concNext, Option.some.injEq] at hx'; subst hx'
    refine ⟨ι1, σ1, w1, .go (v := v) ?_ hids hds1 hpan1 hfit, R1, E1⟩
    rw [hcs, hdsc]
    exact .one (step_value ho hw (hnd (by simp)) hrun)
  | skip =>
    simp at h; subst h
    obtain ⟨x, hx', hrun⟩ := hc
    simp only [concNext, Option.some.injEq] at hx'; subst hx'
    refine ⟨ι1, σ1, w1, .go (v := .undef) ?_ (ids_undef _ _) hds1 hpan1 hfit, R1, E1⟩
    rw [hcs, hdsc, conc_undef]
    exact .one (step_skip' ho hw (hnd (by simp)) hrun)
  | defer d =>
    simp only at h
    split at h
    · simp at h
    · rename_i hR
      simp at h; subst h
      obtain ⟨x, hx', hrun⟩ := hc
      simp only [concNext, Option.some.injEq] at hx'; subst hx'
      refine ⟨ι1, σ1, w1, .go (v := .undef) ?_ (ids_undef _ _) ?_ hpan1 hfit, R1, E1⟩
      · rw [hcs, List.map_cons, hdsc, conc_undef]
        exact .one (step_deferOp ho hw (hround.2 (by simpa using hR)) hrun)
      · intro d' hd'
        rcases List.mem_cons.1 hd' with h1 | h1
        · exact h1 ▸ hids
        · exact hds1 d' h1
  | recover =>
    simp only at h
    split at h
    · simp at h
    · rename_i hR
      have hb0 := hround.2 (by simpa using hR)
      obtain ⟨x, hx', hrun⟩ := hc
      simp only [concNext, Option.some.injEq] at hx'; subst hx'
      split at h
      · rename_i v
        simp at h; subst h
        refine ⟨ι1, σ1, w1, .go (v := v) ?_ hpan1 hds1 hpan1 ?_, R1, E1⟩
        · rw [hdsc]
          refine .one (step_recover_some ho hw hb0 hrun ?_)
          rw [← hcs]
          exact tryRecover_some hk hfit
        · cases X with
          | norm cs => simp [Ctx.fits] at hfit
          | dfr c rest => trivial
      · rename_i hne
        simp at h; subst h
        refine ⟨ι1, σ1, w1, .go (v := .base .nilIface) ?_ (by trivial) hds1 hpan1 hfit, R1, E1⟩
        rw [hcs, hdsc, conc]
        exact .one (step_recover_none ho hw hb0 hrun (tryRecover_none hk fun v hv => hne v hv))
  | panic v =>
    simp at h; subst h
    refine ⟨ι1, σ1, w1, .panic ?_ hids, R1, E1⟩
    rw [hcs, hdsc]
    exact .one (step_panicOp ho hw (hnd (by simp)) hc)
  | enter f args =>
    simp only [bind_ok] at h
    obtain ⟨⟨e, σ2⟩, hcall, h⟩ := h
    obtain ⟨x, hx', hrun⟩ := hc
    simp only [concNext, Option.some.injEq] at hx'; subst hx'
    obtain ⟨en, w2, ⟨ι2, rfl, R2, E2, he⟩, hs⟩ := call_steps (HC _ _ _ _ _ hcall ι1 w1 R1 hids) (fun w' ⟨ι', h', _⟩ => concEnd_ne ι' e h'.symm)
      (on b M (ds.map (concDef ι)) (.inRegion ops (i :: rest) :: k)) (X.cs ι pan)
    have E := E1.trans E2
    have hs' := Steps.trans (.one (step_enter (P := P) (b := b) (ds := ds.map (concDef ι)) (k := k) (cs := X.cs ι pan) (rest := rest) ho hw (hnd (by simp)) hrun)) hs
    rw [after_on ho] at hs'
    have hcs2 : X.cs ι2 pan = X.cs ι pan := X.agree E.agree hpan
    have hdsc2 : ds.map (concDef ι2) = ds.map (concDef ι) := concDs_agree E.agree hds
    cases e with
    | ret v =>
      simp at h; subst h
      refine ⟨ι2, σ2, w2, .go (v := v) ?_ he (idsDs_mono E.k hds) (idsPan_mono E.k pan hpan) hfit, R2, E⟩
      rw [hcs2, hdsc2]; exact hs'
    | panic v =>
      simp at h; subst h
      refine ⟨ι2, σ2, w2, .panic ?_ he, R2, E⟩
      rw [hcs2, hdsc2]; exact hs'
  | round l args =>
    simp only [bind_ok] at h
    obtain ⟨⟨e, σ2⟩, hcall, h⟩ := h
    obtain ⟨hrun, rfl⟩ := hc
    obtain ⟨fn, tmps, assign, body, hy, hsteps⟩ := HR _ _ _ _ _ hcall ι1 w1 R1 hids.2 hids.1
    obtain ⟨ι2, w2, hs, R2, E2, he⟩ := hsteps (on b M (ds.map (concDef ι)) (.inRegion ops (i :: rest) :: k)) (X.cs ι pan)
    have E := E1.trans E2
    have hs' := Steps.trans (.one (step_roundOp (P := P) (b := b) (ds := ds.map (concDef ι)) (k := k) (cs := X.cs ι pan) (rest := rest) ho hw (hnd (by simp)) (hrun.trans hy))) hs
    rw [after_on ho] at hs'
    have hcs2 : X.cs ι2 pan = X.cs ι pan := X.agree E.agree hpan
    have hdsc2 : ds.map (concDef ι2) = ds.map (concDef ι) := concDs_agree E.agree hds
    cases e with
    | ret v =>
      simp at h; subst h
      refine ⟨ι2, σ2, w2, .go (v := v) ?_ he (idsDs_mono E.k hds) (idsPan_mono E.k pan hpan) hfit, R2, E⟩
      rw [hcs2, hdsc2]; exact hs'
    | panic v =>
      simp at h; subst h
      refine ⟨ι2, σ2, w2, .panic ?_ he, R2, E⟩
      rw [hcs2, hdsc2]; exact hs'

end
end Go.Dt
