/-
  One operation of a region. No statement of this seat stands here.
-/
import Derived.Test.YtcibhglcmcgneaaGreatDoorP01
import Derived.Orders
namespace Go.Dt

section
variable {D : Tab} {P : Program}

theorem after_on {b : Frame} {M : Array Value} {ds : List Deferred} {ops : Array Oper} {i : Nat} {rest : List Nat} {k : List Item} {o : Oper} (ho : ops[i]? = some o) (ι : Nat → Loc) (e : AEnd) :
    after (on b M ds (.inRegion ops (i :: rest) :: k)) (concEnd ι e) =
      match e with
      | .ret v => on b (putV M o.dst (conc ι v)) ds (.inRegion ops rest :: k)
      | .panic v => { on b M ds (.inRegion ops (i :: rest) :: k) with mode := .panicking [{ v := conc ι v, recovered := false }] } := by
  cases e with
  | ret v => simp only [after, concEnd]; exact on_finish b M ds ops i rest k o ho _
  | panic v => simp [after, concEnd, Frame.raise, on]

/-- the call of a function under a waiting frame -/
theorem call_steps {f : FuncId} {args : Array Value} {w : World} {Q : Ending → World → Prop} (h : Calls P f args w Q) (hQ : ∀ w', ¬ Q .outgrown w') (c : Frame) (cs : List Frame) :
    ∃ e w', Q e w' ∧ Steps P (lone (Frame.enter P f args .normal) (c :: cs) w) (lone (after c e) cs w') := by
  obtain ⟨e, w', fr, hq, hc, _, hl⟩ := h (c :: cs)
  refine ⟨e, w', hq, ?_⟩
  cases e with
  | returned v => exact Steps.trans hc (.one (step_leave_returned hl))
  | panicked chain => exact Steps.trans hc (.one (step_leave_panicked hl))
  | outgrown => exact (hQ _ hq).elim

theorem concEnd_ne (ι : Nat → Loc) (e : AEnd) : concEnd ι e ≠ .outgrown := by cases e <;> simp [concEnd]

theorem not_defer {e : Operand → AV} {σ σ' : St} {op : Op} {nx : ANext} (h : execOp D e σ op = .ok (nx, σ')) (hn : ∀ d, nx ≠ .defer d) : ∀ c, op ≠ .defer c := by
  rintro c rfl
  simp only [execOp, clsD, clsOf, actOp] at h
  split at h
  · split at h
    · simp only [Except.ok.injEq, Prod.mk.injEq] at h; exact hn _ h.1.symm
    · simp at h
  · simp at h

theorem tryRecover_some {X : Ctx} {ι : Nat → Loc} {v : AV} {fr : Frame} (hk : fr.kind = X.kind) (hfit : X.fits (some (v, false))) :
    tryRecover fr (X.cs ι (some (v, false))) = some (conc ι v, X.cs ι (some (v, true))) := by
  cases X with
  | norm cs => simp [Ctx.fits] at hfit
  | dfr c rest => simp [tryRecover, hk, Ctx.kind, Ctx.cs, panMode]

theorem tryRecover_none {X : Ctx} {ι : Nat → Loc} {pan : Pan} {fr : Frame} (hk : fr.kind = X.kind) (hp : ∀ v, pan ≠ some (v, false)) :
    tryRecover fr (X.cs ι pan) = none := by
  cases X with
  | norm cs => simp [tryRecover, hk, Ctx.kind]
  | dfr c rest =>
    cases pan with
    | none => simp [tryRecover, hk, Ctx.kind, Ctx.cs, panMode]
    | some p =>
      obtain ⟨v, r⟩ := p
      cases r with
      | false => exact (hp v rfl).elim
      | true => simp [tryRecover, hk, Ctx.kind, Ctx.cs, panMode]

section
variable {b : Frame} {T : Array Value} {ds : List Deferred} {k : List Item} {cs cs' : List Frame} {w w' : World} {ops : Array Oper} {i : Nat} {rest : List Nat} {o : Oper}

theorem step_recover_some {v : Value} (ho : ops[i]? = some o) (hw : Region.wanted o (yielded ops T) = true) (hr0 : b.roundOf = none)
    (hr : (Go.execOp (evT T) o).run P w = .ok .recover w') (ht : tryRecover (on b T ds (.inRegion ops (i :: rest) :: k)) cs = some (v, cs')) :
    step P (lone (on b T ds (.inRegion ops (i :: rest) :: k)) cs w) = .next (lone (on b (putV T o.dst v) ds (.inRegion ops rest :: k)) cs' w') := by
  refine step_go ?_
  rw [stepG_on ho hw (.inl hr0), ← on_finish b T ds ops i rest k o ho v]
  have : (on b T ds (.inRegion ops (i :: rest) :: k)).roundOf = none := hr0
  simp [stepG.apply, hr, gor, this, ht]

theorem step_recover_none (ho : ops[i]? = some o) (hw : Region.wanted o (yielded ops T) = true) (hr0 : b.roundOf = none)
    (hr : (Go.execOp (evT T) o).run P w = .ok .recover w') (ht : tryRecover (on b T ds (.inRegion ops (i :: rest) :: k)) cs = none) :
    step P (lone (on b T ds (.inRegion ops (i :: rest) :: k)) cs w) = .next (lone (on b (putV T o.dst .nilIface) ds (.inRegion ops rest :: k)) cs w') := by
  refine step_go ?_
  rw [stepG_on ho hw (.inl hr0), ← on_finish b T ds ops i rest k o ho .nilIface]
  have : (on b T ds (.inRegion ops (i :: rest) :: k)).roundOf = none := hr0
  simp [stepG.apply, hr, gor, this, ht]
end

/-- what an operation leaves -/
inductive OneEnd (P : Program) (X : Ctx) (b : Frame) (ops : Array Oper) (i : Nat) (rest : List Nat) (k : List Item) (o : Oper) (m : Machine) (M : Array Value) (T : List AV) (ds : List ADef) (pan : Pan) :
    OpEnd → (Nat → Loc) → St → World → Prop
  | go {ι' : Nat → Loc} {σ' : St} {w' : World} {v : AV} {ds' : List ADef} {pan' : Pan}
      (steps : Steps P m (lone (on b (putV M o.dst (conc ι' v)) (ds'.map (concDef ι')) (.inRegion ops rest :: k)) (X.cs ι' pan') w'))
      (hv : ids ι' (· < σ'.n) v) (hds : idsDs ι' (· < σ'.n) ds') (hpan : idsPan ι' (· < σ'.n) pan') (hfit : X.fits pan') :
      OneEnd P X b ops i rest k o m M T ds pan (.go (put T o.dst v) ds' pan' σ') ι' σ' w'
  | panic {ι' : Nat → Loc} {σ' : St} {w' : World} {v : AV}
      (steps : Steps P m (lone { on b M (ds.map (concDef ι')) (.inRegion ops (i :: rest) :: k) with mode := .panicking [{ v := conc ι' v, recovered := false }] } (X.cs ι' pan) w'))
      (hv : ids ι' (· < σ'.n) v) : OneEnd P X b ops i rest k o m M T ds pan (.panic v T ds pan σ') ι' σ' w'

theorem runOne_ok (F : Fits D P) {call : CallT} {round : RoundT} (HC : CallOK D P call) (HR : RoundOK D P round) {isRound : Bool} {X : Ctx} {b : Frame} (hk : b.kind = X.kind)
    (hround : b.roundOf = none ↔ isRound = false) {ι : Nat → Loc} {σ : St} {w : World} (R : Rep D ι σ w) {ops : Array Oper} {i : Nat} {rest : List Nat} {k : List Item} {o : Oper}
    (ho : ops[i]? = some o) {M : Array Value} {T : List AV} {ds : List ADef} {pan : Pan} {r : OpEnd}
    (hw : Region.wanted o (yielded ops M) = true) (hop : Go.execOp (evT M) o = Go.execOp (fun x => conc ι (evalO D T x)) o)
    (hid : ∀ x, x ∈ o.op.operands → ids ι (· < σ.n) (evalO D T x))
    (hds : idsDs ι (· < σ.n) ds) (hpan : idsPan ι (· < σ.n) pan) (hfit : X.fits pan)
    (h : runOne D call round isRound o T ds pan σ = .ok r) :
    ∃ ι' σ' w', OneEnd P X b ops i rest k o (lone (on b M (ds.map (concDef ι)) (.inRegion ops (i :: rest) :: k)) (X.cs ι pan) w) M T ds pan r ι' σ' w' ∧
      Rep D ι' σ' w' ∧ Ext ι σ w ι' σ' w' := by
  simp only [runOne, bind_ok] at h
  obtain ⟨⟨nx, σ1⟩, hx, h⟩ := h
  obtain ⟨ι1, w1, hc, R1, E1, hids⟩ := execOp_run F R hx hid
  rw [← hop] at hc
  have hds1 := idsDs_mono E1.k hds
  have hpan1 := idsPan_mono E1.k pan hpan
  have hcs : X.cs ι1 pan = X.cs ι pan := X.agree E1.agree hpan
  have hdsc : ds.map (concDef ι1) = ds.map (concDef ι) := concDs_agree E1.agree hds
  have hnd : (∀ d, nx ≠ .defer d) → (b.roundOf = none ∨ ∀ c, o.op ≠ .defer c) := fun hn => .inr (not_defer hx hn)
  cases nx with
  | value v =>
    simp at h; subst h
    obtain ⟨x, hx', hrun⟩ := hc
    simp only [concNext, Option.some.injEq] at hx'; subst hx'
    refine ⟨ι1, σ1, w1, .go (v := v) ?_ hids hds1 hpan1 hfit, R1, E1⟩
    rw [hcs, hdsc]
    exact .one (step_value ho hw (hnd (by simp)) hrun)
  | skip =>
    simp at h; subst h
    obtain ⟨x, hx', hrun⟩ := hc
    simp only [concNext, Option.some.injEq] at hx'; subst hx'
    refine ⟨ι1, σ1, w1, .go (v := .undef) ?_ (ids_undef _ _) hds1 hpan1 hfit, R1, E1⟩
    rw [hcs, hdsc, conc_undef]
    exact .one (step_skip' ho hw (hnd (by simp)) hrun)
  | defer d =>
    simp only at h
    split at h
    · simp at h
    · rename_i hR
      simp at h; subst h
      obtain ⟨x, hx', hrun⟩ := hc
      simp only [concNext, Option.some.injEq] at hx'; subst hx'
      refine ⟨ι1, σ1, w1, .go (v := .undef) ?_ (ids_undef _ _) ?_ hpan1 hfit, R1, E1⟩
      · rw [hcs, List.map_cons, hdsc, conc_undef]
        exact .one (step_deferOp ho hw (hround.2 (by simpa using hR)) hrun)
      · intro d' hd'
        rcases List.mem_cons.1 hd' with h1 | h1
        · exact h1 ▸ hids
        · exact hds1 d' h1
  | recover =>
    simp only at h
    split at h
    · simp at h
    · rename_i hR
      have hb0 := hround.2 (by simpa using hR)
      obtain ⟨x, hx', hrun⟩ := hc
      simp only [concNext, Option.some.injEq] at hx'; subst hx'
      split at h
      · rename_i v
        simp at h; subst h
        refine ⟨ι1, σ1, w1, .go (v := v) ?_ hpan1 hds1 hpan1 ?_, R1, E1⟩
        · rw [hdsc]
          refine .one (step_recover_some ho hw hb0 hrun ?_)
          rw [← hcs]
          exact tryRecover_some hk hfit
        · cases X with
          | norm cs => simp [Ctx.fits] at hfit
          | dfr c rest => trivial
      · rename_i hne
        simp at h; subst h
        refine ⟨ι1, σ1, w1, .go (v := .base .nilIface) ?_ (by trivial) hds1 hpan1 hfit, R1, E1⟩
        rw [hcs, hdsc, conc]
        exact .one (step_recover_none ho hw hb0 hrun (tryRecover_none hk fun v hv => hne v hv))
  | panic v =>
    simp at h; subst h
    refine ⟨ι1, σ1, w1, .panic ?_ hids, R1, E1⟩
    rw [hcs, hdsc]
    exact .one (step_panicOp ho hw (hnd (by simp)) hc)
  | enter f args =>
    simp only [bind_ok] at h
    obtain ⟨⟨e, σ2⟩, hcall, h⟩ := h
    obtain ⟨x, hx', hrun⟩ := hc
    simp only [concNext, Option.some.injEq] at hx'; subst hx'
    obtain ⟨en, w2, ⟨ι2, rfl, R2, E2, he⟩, hs⟩ := call_steps (HC _ _ _ _ _ hcall ι1 w1 R1 hids) (fun w' ⟨ι', h', _⟩ => concEnd_ne ι' e h'.symm)
      (on b M (ds.map (concDef ι)) (.inRegion ops (i :: rest) :: k)) (X.cs ι pan)
    have E := E1.trans E2
    have hs' := Steps.trans (.one (step_enter (P := P) (b := b) (ds := ds.map (concDef ι)) (k := k) (cs := X.cs ι pan) (rest := rest) ho hw (hnd (by simp)) hrun)) hs
    rw [after_on ho] at hs'
    have hcs2 : X.cs ι2 pan = X.cs ι pan := X.agree E.agree hpan
    have hdsc2 : ds.map (concDef ι2) = ds.map (concDef ι) := concDs_agree E.agree hds
    cases e with
    | ret v =>
      simp at h; subst h
      refine ⟨ι2, σ2, w2, .go (v := v) ?_ he (idsDs_mono E.k hds) (idsPan_mono E.k pan hpan) hfit, R2, E⟩
      rw [hcs2, hdsc2]; exact hs'
    | panic v =>
      simp at h; subst h
      refine ⟨ι2, σ2, w2, .panic ?_ he, R2, E⟩
      rw [hcs2, hdsc2]; exact hs'
  | round l args =>
    simp only [bind_ok] at h
    obtain ⟨⟨e, σ2⟩, hcall, h⟩ := h
    obtain ⟨hrun, rfl⟩ := hc
    obtain ⟨fn, tmps, assign, body, hy, hsteps⟩ := HR _ _ _ _ _ hcall ι1 w1 R1 hids.2 hids.1
    obtain ⟨ι2, w2, hs, R2, E2, he⟩ := hsteps (on b M (ds.map (concDef ι)) (.inRegion ops (i :: rest) :: k)) (X.cs ι pan)
    have E := E1.trans E2
    have hs' := Steps.trans (.one (step_roundOp (P := P) (b := b) (ds := ds.map (concDef ι)) (k := k) (cs := X.cs ι pan) (rest := rest) ho hw (hnd (by simp)) (hrun.trans hy))) hs
    rw [after_on ho] at hs'
    have hcs2 : X.cs ι2 pan = X.cs ι pan := X.agree E.agree hpan
    have hdsc2 : ds.map (concDef ι2) = ds.map (concDef ι) := concDs_agree E.agree hds
    cases e with
    | ret v =>
      simp at h; subst h
      refine ⟨ι2, σ2, w2, .go (v := v) ?_ he (idsDs_mono E.k hds) (idsPan_mono E.k pan hpan) hfit, R2, E⟩
      rw [hcs2, hdsc2]; exact hs'
    | panic v =>
      simp at h; subst h
      refine ⟨ι2, σ2, w2, .panic ?_ he, R2, E⟩
      rw [hcs2, hdsc2]; exact hs'

end
end Go.Dt
namespace Go.Dt

section
variable {D : Tab} {P : Program}

structure IdsF (ι : Nat → Loc) (A : Nat → Prop) (X : Ctx) (T : List AV) (ds : List ADef) (pan : Pan) : Prop where
  fit : X.fits pan
  T : idsL ι A T
  ds : idsDs ι A ds
  pan : idsPan ι A pan

/-- a running frame -/
def mach (X : Ctx) (b : Frame) (ι : Nat → Loc) (T : List AV) (ds : List ADef) (pan : Pan) (todo : List Item) (w : World) : Machine :=
  lone (on b (concL ι T).toArray (ds.map (concDef ι)) todo) (X.cs ι pan) w

/-- a frame that begins to unwind -/
def machP (X : Ctx) (b : Frame) (ι : Nat → Loc) (T : List AV) (ds : List ADef) (pan : Pan) (todo : List Item) (v : AV) (w : World) : Machine :=
  lone { on b (concL ι T).toArray (ds.map (concDef ι)) todo with mode := .panicking [{ v := conc ι v, recovered := false }] } (X.cs ι pan) w

theorem mach_agree {X : Ctx} {b : Frame} {ι ι' : Nat → Loc} {σ σ' : St} {w w' w0 : World} {T : List AV} {ds : List ADef} {pan : Pan} {todo : List Item} (I : IdsF ι (· < σ.n) X T ds pan)
    (E : Ext ι σ w ι' σ' w') : mach X b ι' T ds pan todo w0 = mach X b ι T ds pan todo w0 := by
  unfold mach
  rw [concL_agree E.agree T I.T, concDs_agree E.agree I.ds, X.agree E.agree I.pan]

theorem IdsF.ext {X : Ctx} {ι ι' : Nat → Loc} {σ σ' : St} {w w' : World} {T : List AV} {ds : List ADef} {pan : Pan} (I : IdsF ι (· < σ.n) X T ds pan)
    (E : Ext ι σ w ι' σ' w') : IdsF ι' (· < σ'.n) X T ds pan :=
  ⟨I.fit, idsL_mono E.k T I.T, idsDs_mono E.k I.ds, idsPan_mono E.k pan I.pan⟩

inductive RegEnd (P : Program) (X : Ctx) (b : Frame) (ops : Array Oper) (k : List Item) (m : Machine) : OpEnd → (Nat → Loc) → St → World → Prop
  | go {ι' : Nat → Loc} {σ' : St} {w' : World} {T : List AV} {ds : List ADef} {pan : Pan}
      (steps : Steps P m (mach X b ι' T ds pan (.inRegion ops [] :: k) w')) (ids : IdsF ι' (· < σ'.n) X T ds pan) :
      RegEnd P X b ops k m (.go T ds pan σ') ι' σ' w'
  | panic {ι' : Nat → Loc} {σ' : St} {w' : World} {T : List AV} {ds : List ADef} {pan : Pan} {v : AV} (todo : List Item)
      (steps : Steps P m (machP X b ι' T ds pan todo v w')) (ids : IdsF ι' (· < σ'.n) X T ds pan) (hv : Dt.ids ι' (· < σ'.n) v) :
      RegEnd P X b ops k m (.panic v T ds pan σ') ι' σ' w'

theorem RegEnd.of_steps {X : Ctx} {b : Frame} {ops : Array Oper} {k : List Item} {m m1 : Machine} {r : OpEnd} {ι' : Nat → Loc} {σ' : St} {w' : World} (h : Steps P m m1)
    (h' : RegEnd P X b ops k m1 r ι' σ' w') : RegEnd P X b ops k m r ι' σ' w' := by
  cases h' with
  | go s i => exact .go (Steps.trans h s) i
  | panic t s i hv => exact .panic t (Steps.trans h s) i hv

theorem runSeq_ok (F : Fits D P) {call : CallT} {round : RoundT} (HC : CallOK D P call) (HR : RoundOK D P round) {isRound : Bool} {X : Ctx} {b : Frame} (hk : b.kind = X.kind)
    (hround : b.roundOf = none ↔ isRound = false) {ops : Array Oper} {k : List Item} : ∀ (l : List Oper) (i : Nat), ops.toList.drop i = l →
    ∀ {ι : Nat → Loc} {σ : St} {w : World} {T : List AV} {ds : List ADef} {pan : Pan} {r : OpEnd}, Rep D ι σ w → IdsF ι (· < σ.n) X T ds pan →
    runSeq D call round isRound ops l T ds pan σ = .ok r →
    ∃ ι' σ' w', RegEnd P X b ops k (mach X b ι T ds pan (.inRegion ops (List.range' i l.length) :: k) w) r ι' σ' w' ∧ Rep D ι' σ' w' ∧ Ext ι σ w ι' σ' w' := by
  intro l
  induction l with
  | nil =>
    intro i _ ι σ w T ds pan r R I h
    simp [runSeq] at h
    subst h
    exact ⟨ι, σ, w, .go (Steps.refl _ _) I, R, Ext.refl _ _ _⟩
  | cons o l ih =>
    intro i hd ι σ w T ds pan r R I h
    have ho : ops[i]? = some o := by
      have h1 : ops.toList[i]? = some o := by
        have : (ops.toList.drop i)[0]? = some o := by rw [hd]; rfl
        rwa [List.getElem?_drop, Nat.add_zero] at this
      simpa using h1
    have hd' : ops.toList.drop (i + 1) = l := by
      rw [← List.tail_drop, hd, List.tail_cons]
    have hrange : List.range' i (o :: l).length = i :: List.range' (i + 1) l.length := by simp [List.range'_succ]
    rw [hrange]
    simp only [runSeq] at h
    split at h
    · rename_i hwant
      simp only [bind_ok] at h
      obtain ⟨r1, h1, h⟩ := h
      have hw : Region.wanted o (yielded ops (concL ι T).toArray) = true := by rw [wanted_conc]; exact hwant
      obtain ⟨ι1, σ1, w1, h2, R1, E1⟩ := runOne_ok F HC HR hk hround R ho hw (rest := List.range' (i + 1) l.length) (k := k) (by rw [evT_eq R]) (fun x _ => evalO_ids R R.glob_lt I.T x) I.ds I.pan I.fit h1
      cases h2 with
      | go steps hv hds hpan hfit =>
        simp only at h
        rw [putV_agree E1 I.T] at steps
        have I1 : IdsF ι1 (· < σ1.n) X _ _ _ := ⟨hfit, put_ids (idsL_mono E1.k T I.T) hv o.dst, hds, hpan⟩
        obtain ⟨ι2, σ2, w2, h3, R2, E2⟩ := ih (i + 1) hd' R1 I1 h
        exact ⟨ι2, σ2, w2, .of_steps steps h3, R2, E1.trans E2⟩
      | panic steps hv =>
        simp at h
        subst h
        refine ⟨ι1, σ1, w1, .panic (.inRegion ops (i :: List.range' (i + 1) l.length) :: k) ?_ (I.ext E1) hv, R1, E1⟩
        unfold mach machP
        rw [concL_agree E1.agree T I.T]
        exact steps
    · rename_i hwant
      have I1 : IdsF ι (· < σ.n) X (put T o.dst .undef) ds pan := ⟨I.fit, put_ids I.T (ids_undef _ _) o.dst, I.ds, I.pan⟩
      obtain ⟨ι2, σ2, w2, h3, R2, E2⟩ := ih (i + 1) hd' R I1 h
      refine ⟨ι2, σ2, w2, .of_steps (.one ?_) h3, R2, E2⟩
      have := step_unwanted (P := P) (b := b) (ds := ds.map (concDef ι)) (k := k) (cs := X.cs ι pan) (w := w) (T := (concL ι T).toArray) (ops := ops) (i := i) (rest := List.range' (i + 1) l.length) (o := o)
        (by simp [ho, wanted_conc, hwant]) ho
      unfold mach
      rw [this, ← conc_undef ι, putV_conc]

end
end Go.Dt
namespace Go.Dt

abbrev Alc := Nat × Nat × AO

inductive Tr (D : Tab) (call : CallT) (round : RoundT) (isRound : Bool) (ops : Array Oper) (Te : List AV) (dsE : List ADef) (panE : Pan) (σE : St) :
    List PlanItem → List St → List AV → List ADef → Pan → St → List Alc → Prop
  | nil {snaps : List St} : Tr D call round isRound ops Te dsE panE σE [] snaps Te dsE panE σE []
  | skip {it : PlanItem} {rest : List PlanItem} {snaps : List St} {T : List AV} {ds : List ADef} {pan : Pan} {σ : St} {al : List Alc} {o : Oper}
      (ho : ops[it.i]? = some o) (hw : wantedA ops o T = false)
      (next : Tr D call round isRound ops Te dsE panE σE rest (if it.act then σ :: snaps else snaps) (put T o.dst .undef) ds pan σ al) :
      Tr D call round isRound ops Te dsE panE σE (it :: rest) snaps T ds pan σ al
  | act {it : PlanItem} {rest : List PlanItem} {snaps : List St} {T : List AV} {ds : List ADef} {pan : Pan} {σ : St} {al : List Alc} {o : Oper} {v : AV} {ds' : List ADef} {pan' : Pan} {σ' : St}
      (ho : ops[it.i]? = some o) (hw : wantedA ops o T = true) (ha : it.act = true)
      (hb : ∀ x, x ∈ o.op.operands → bndA σ.n (evalO D T x) = true)
      (hr : runOne D call round isRound o T ds pan σ = .ok (.go (put T o.dst v) ds' pan' σ')) (hn : σ.n ≤ σ'.n)
      (next : Tr D call round isRound ops Te dsE panE σE rest (σ' :: snaps) (put T o.dst v) ds' pan' σ' al) :
      Tr D call round isRound ops Te dsE panE σE (it :: rest) snaps T ds pan σ al
  | pure {it : PlanItem} {rest : List PlanItem} {snaps : List St} {T : List AV} {ds : List ADef} {pan : Pan} {σ : St} {al : List Alc} {o : Oper} {v : AV}
      (ho : ops[it.i]? = some o) (hw : wantedA ops o T = true) (ha : it.act = false)
      (hr : pureOp D (evalO D T) o.op = .ok v)
      (next : Tr D call round isRound ops Te dsE panE σE rest snaps (put T o.dst v) ds pan σ al) :
      Tr D call round isRound ops Te dsE panE σE (it :: rest) snaps T ds pan σ al
  | read {it : PlanItem} {rest : List PlanItem} {snaps : List St} {T : List AV} {ds : List ADef} {pan : Pan} {σ : St} {al : List Alc} {o : Oper} {v : AV}
      (ho : ops[it.i]? = some o) (hw : wantedA ops o T = true) (ha : it.act = false)
      (hlo : it.lo < snaps.length) (hs : ∀ s, s ∈ snaps.take (snaps.length - it.lo) → sameAt D T o.op v s = true)
      (next : Tr D call round isRound ops Te dsE panE σE rest snaps (put T o.dst v) ds pan σ al) :
      Tr D call round isRound ops Te dsE panE σE (it :: rest) snaps T ds pan σ al
  | alloc {it : PlanItem} {rest : List PlanItem} {snaps : List St} {T : List AV} {ds : List ADef} {pan : Pan} {σ : St} {al : List Alc} {o : Oper} {v : AV} {ob : AO}
      (ho : ops[it.i]? = some o) (hw : wantedA ops o T = true) (ha : it.act = false)
      (hr : allocOp D (evalO D T) o.op σ.n = .ok (v, ob)) (hb : bndO (σ.n + 1) ob = true)
      (next : Tr D call round isRound ops Te dsE panE σE rest snaps (put T o.dst v) ds pan (σ.push ob) al) :
      Tr D call round isRound ops Te dsE panE σE (it :: rest) snaps T ds pan σ ((it.i, σ.n, ob) :: al)

section
variable {D : Tab} {call : CallT} {round : RoundT} {isRound : Bool} {ops : Array Oper}

theorem runOne_go {o : Oper} {T : List AV} {ds : List ADef} {pan : Pan} {σ : St} {T' : List AV} {ds' : List ADef} {pan' : Pan} {σ' : St}
    (h : runOne D call round isRound o T ds pan σ = .ok (.go T' ds' pan' σ')) : ∃ v, T' = put T o.dst v := by
  simp only [runOne, bind_ok] at h
  obtain ⟨⟨nx, σ1⟩, _, h⟩ := h
  cases nx with
  | value v => simp at h; exact ⟨v, h.1.symm⟩
  | skip => simp at h; exact ⟨_, h.1.symm⟩
  | defer d => simp only at h; split at h <;> simp at h; exact ⟨_, h.1.symm⟩
  | recover =>
    simp only at h
    split at h
    · simp at h
    · split at h <;> simp at h <;> exact ⟨_, h.1.symm⟩
  | panic v => simp at h
  | enter f args =>
    simp only [bind_ok] at h
    obtain ⟨⟨e, σ2⟩, _, h⟩ := h
    cases e <;> simp at h
    exact ⟨_, h.1.symm⟩
  | round l args =>
    simp only [bind_ok] at h
    obtain ⟨⟨e, σ2⟩, _, h⟩ := h
    cases e <;> simp at h
    exact ⟨_, h.1.symm⟩

theorem runDraw_tr : ∀ (p : List PlanItem) {snaps : List St} {T : List AV} {ds : List ADef} {pan : Pan} {σ : St} {r : OpEnd},
    runDraw D call round isRound ops p snaps T ds pan σ = .ok r →
    ∃ Te dsE panE σE al, r = .go Te dsE panE σE ∧ Tr D call round isRound ops Te dsE panE σE p snaps T ds pan σ al := by
  intro p
  induction p with
  | nil =>
    intro snaps T ds pan σ r h
    simp [runDraw] at h
    exact ⟨_, _, _, _, _, h.symm, .nil⟩
  | cons it rest ih =>
    intro snaps T ds pan σ r h
    simp only [runDraw] at h
    split at h
    · simp at h
    · rename_i o ho
      split at h
      · rename_i hw
        split at h
        · rename_i ha
          split at h
          · rename_i hb
            simp only [bind_ok] at h
            obtain ⟨r1, h1, h⟩ := h
            cases r1 with
            | go T' ds' pan' σ' =>
              simp only at h
              split at h
              · rename_i hn
                obtain ⟨v, rfl⟩ := runOne_go h1
                obtain ⟨Te, dsE, panE, σE, al, hr, ht⟩ := ih h
                refine ⟨Te, dsE, panE, σE, al, hr, .act ho hw ha (fun x hx => ?_) h1 hn ht⟩
                exact List.all_eq_true.1 hb x (by simpa using hx)
              · simp at h
            | panic => simp at h
          · simp at h
        · rename_i ha
          have ha : it.act = false := by simpa using ha
          split at h
          · simp only [bind_ok] at h
            obtain ⟨v, h1, h⟩ := h
            obtain ⟨Te, dsE, panE, σE, al, hr, ht⟩ := ih h
            exact ⟨Te, dsE, panE, σE, al, hr, .pure ho hw ha h1 ht⟩
          · simp only [bind_ok] at h
            obtain ⟨v, h1, h⟩ := h
            split at h
            · rename_i hs
              simp only [Bool.and_eq_true, decide_eq_true_eq] at hs
              obtain ⟨Te, dsE, panE, σE, al, hr, ht⟩ := ih h
              exact ⟨Te, dsE, panE, σE, al, hr, .read ho hw ha hs.1 (fun s hm => List.all_eq_true.1 hs.2 s hm) ht⟩
            · simp at h
          · simp only [bind_ok] at h
            obtain ⟨⟨v, ob⟩, h1, h⟩ := h
            split at h
            · rename_i hb
              obtain ⟨Te, dsE, panE, σE, al, hr, ht⟩ := ih h
              exact ⟨Te, dsE, panE, σE, _, hr, .alloc ho hw ha h1 hb ht⟩
            · simp at h
          · simp at h
      · rename_i hw
        obtain ⟨Te, dsE, panE, σE, al, hr, ht⟩ := ih h
        exact ⟨Te, dsE, panE, σE, al, hr, .skip ho (by simpa using hw) ht⟩

theorem put_length (T : List AV) (dst : Option Tmp) (v : AV) : (put T dst v).length = T.length := by
  cases dst <;> simp [put]
theorem put_get_ne {T : List AV} {dst : Option Tmp} {v : AV} {t : Tmp} (h : dst ≠ some t) : (put T dst v)[t]? = T[t]? := by
  cases dst with
  | none => rfl
  | some d =>
    have hne : d ≠ t := fun e => h (by rw [e])
    simp [put, hne]
theorem put_get_eq {T : List AV} {v : AV} {t : Tmp} (h : t < T.length) : (put T (some t) v)[t]? = some v := by
  simp [put, h]

variable {Te : List AV} {dsE : List ADef} {panE : Pan} {σE : St}

theorem writes_cons {it : PlanItem} {rest : List PlanItem} {t : Tmp} : writes ops (it :: rest) t = (dstAt ops it.i == some t || writes ops rest t) := by simp [writes]

theorem dstAt_eq {i : Nat} {o : Oper} (ho : ops[i]? = some o) : dstAt ops i = o.dst := by simp [dstAt, ho]

/-- a step of the run's list -/
theorem Tr.T_eq {p : List PlanItem} {snaps : List St} {T : List AV} {ds : List ADef} {pan : Pan} {σ : St} {al : List Alc}
    (h : Tr D call round isRound ops Te dsE panE σE p snaps T ds pan σ al) : T.length = Te.length ∧ ∀ t, writes ops p t = false → T[t]? = Te[t]? := by
  induction h with
  | nil => exact ⟨rfl, fun _ _ => rfl⟩
  | skip ho _ _ ih | act ho _ _ _ _ _ _ ih | pure ho _ _ _ _ ih | read ho _ _ _ _ _ ih | alloc ho _ _ _ _ _ ih =>
    refine ⟨by rw [← ih.1, put_length], fun t ht => ?_⟩
    rw [writes_cons, Bool.or_eq_false_iff, dstAt_eq ho] at ht
    rw [← ih.2 t ht.2, put_get_ne (by simpa using ht.1)]

theorem Tr.n_le {p : List PlanItem} {snaps : List St} {T : List AV} {ds : List ADef} {pan : Pan} {σ : St} {al : List Alc}
    (h : Tr D call round isRound ops Te dsE panE σE p snaps T ds pan σ al) : (∀ e, e ∈ al → σ.n ≤ e.2.1 ∧ ∃ it, it ∈ p ∧ it.i = e.1) ∧ al.Pairwise (fun a b => a.2.1 < b.2.1) := by
  have up : ∀ {it : PlanItem} {rest : List PlanItem} {i : Nat}, (∃ it', it' ∈ rest ∧ it'.i = i) → ∃ it', it' ∈ it :: rest ∧ it'.i = i :=
    fun ⟨it', hm, he⟩ => ⟨it', List.mem_cons_of_mem _ hm, he⟩
  induction h with
  | nil => exact ⟨by simp, .nil⟩
  | skip ho _ _ ih | pure ho _ _ _ _ ih | read ho _ _ _ _ _ ih => exact ⟨fun e he => ⟨(ih.1 e he).1, up (ih.1 e he).2⟩, ih.2⟩
  | act ho _ _ _ _ hn _ ih => exact ⟨fun e he => ⟨Nat.le_trans hn (ih.1 e he).1, up (ih.1 e he).2⟩, ih.2⟩
  | alloc ho _ _ _ _ _ ih =>
    refine ⟨fun e he => ?_, List.pairwise_cons.2 ⟨fun e he => ?_, ih.2⟩⟩
    · rcases List.mem_cons.1 he with rfl | he
      · exact ⟨Nat.le_refl _, _, List.mem_cons_self, rfl⟩
      · exact ⟨Nat.le_of_succ_le (ih.1 e he).1, up (ih.1 e he).2⟩
    · exact (ih.1 e he).1

/-- what the run says of one operation that is no act -/
structure Fact (D : Tab) (ops : Array Oper) (Te : List AV) (s : St) (al : List Alc) (i : Nat) (lo k : Nat) : Prop where
  out : ∃ o T, ops[i]? = some o ∧ (∀ t, t ∈ looksAt ops o → T[t]? = Te[t]?) ∧ ∃ v, (∀ d, o.dst = some d → d < Te.length → Te[d]? = some v) ∧
    ((wantedA ops o T = false ∧ v = .undef ∧ ∀ e, e ∈ al → e.1 ≠ i) ∨
     (wantedA ops o T = true ∧ pureOp D (evalO D T) o.op = .ok v ∧ ∀ e, e ∈ al → e.1 ≠ i) ∨
     (wantedA ops o T = true ∧ (lo ≤ k → sameAt D T o.op v s = true) ∧ ∀ e, e ∈ al → e.1 ≠ i) ∨
     (∃ n ob, wantedA ops o T = true ∧ allocOp D (evalO D T) o.op n = .ok (v, ob) ∧ bndO (n + 1) ob = true ∧ (i, n, ob) ∈ al ∧ ∀ e, e ∈ al → e.1 = i → e = (i, n, ob)))

/-- the plan's static facts that the run needs -/
def ssa (ops : Array Oper) : List PlanItem → Prop
  | [] => True
  | it :: rest => (∀ it', it' ∈ rest → it'.i ≠ it.i) ∧ (∀ o, ops[it.i]? = some o → (∀ t, t ∈ looksAt ops o → writes ops (it :: rest) t = false) ∧ (∀ d, o.dst = some d → writes ops rest d = false)) ∧ ssa ops rest

theorem Tr.fact {p : List PlanItem} {snaps : List St} {T : List AV} {ds : List ADef} {pan : Pan} {σ : St} {al : List Alc}
    (h : Tr D call round isRound ops Te dsE panE σE p snaps T ds pan σ al) (hs : ssa ops p) {s : St} {old : List St} :
    (∃ more, snaps = more ++ s :: old) → ∀ it, it ∈ p → it.act = false → Fact D ops Te s al it.i it.lo old.length := by
  have hdst : ∀ {rest : List PlanItem} {T : List AV} {o : Oper} {v : AV}, (put T o.dst v).length = Te.length ∧ (∀ t, writes ops rest t = false → (put T o.dst v)[t]? = Te[t]?) →
      (∀ d, o.dst = some d → writes ops rest d = false) → ∀ d, o.dst = some d → d < Te.length → Te[d]? = some v := by
    intro rest T o v h1 h2 d hd hlt
    rw [← h1.2 d (h2 d hd), hd, put_get_eq (by rw [← h1.1, put_length] at hlt; exact hlt)]
  have noal : ∀ {it : PlanItem} {rest : List PlanItem} {al : List Alc} {n : Nat}, (∀ e, e ∈ al → n ≤ e.2.1 ∧ ∃ it', it' ∈ rest ∧ it'.i = e.1) → (∀ it', it' ∈ rest → it'.i ≠ it.i) → ∀ e, e ∈ al → e.1 ≠ it.i := by
    intro it rest al n h1 h2 e he heq
    obtain ⟨it', hm, hi⟩ := (h1 e he).2
    exact h2 it' hm (hi.trans heq)
  induction h with
  | nil => intro _ it hm; simp at hm
  | @skip it rest snaps T ds pan σ al o ho hw next ih =>
    intro hsn it' hm ha
    obtain ⟨more, rfl⟩ := hsn
    rcases List.mem_cons.1 hm with rfl | hm
    · exact ⟨o, T, ho, fun t ht => (Tr.skip ho hw next).T_eq.2 t ((hs.2.1 o ho).1 t ht), .undef, hdst next.T_eq (hs.2.1 o ho).2, .inl ⟨hw, rfl, noal next.n_le.1 hs.1⟩⟩
    · refine ih hs.2.2 ?_ it' hm ha
      split
      · exact ⟨_ :: more, rfl⟩
      · exact ⟨more, rfl⟩
  | @act it rest snaps T ds pan σ al o v ds' pan' σ' ho hw ha' hb hr hn next ih =>
    intro hsn it' hm ha
    obtain ⟨more, rfl⟩ := hsn
    rcases List.mem_cons.1 hm with rfl | hm
    · rw [ha] at ha'; cases ha'
    · exact ih hs.2.2 ⟨_ :: more, rfl⟩ it' hm ha
  | @pure it rest snaps T ds pan σ al o v ho hw ha' hr next ih =>
    intro hsn it' hm ha
    rcases List.mem_cons.1 hm with rfl | hm
    · exact ⟨o, T, ho, fun t ht => (Tr.pure ho hw ha hr next).T_eq.2 t ((hs.2.1 o ho).1 t ht), v, hdst next.T_eq (hs.2.1 o ho).2, .inr (.inl ⟨hw, hr, noal next.n_le.1 hs.1⟩)⟩
    · exact ih hs.2.2 hsn it' hm ha
  | @read it rest snaps T ds pan σ al o v ho hw ha' hlo hss next ih =>
    intro hsn it' hm ha
    rcases List.mem_cons.1 hm with rfl | hm
    · refine ⟨o, T, ho, fun t ht => (Tr.read ho hw ha hlo hss next).T_eq.2 t ((hs.2.1 o ho).1 t ht), v, hdst next.T_eq (hs.2.1 o ho).2, .inr (.inr (.inl ⟨hw, fun hk => ?_, noal next.n_le.1 hs.1⟩))⟩
      obtain ⟨more, rfl⟩ := hsn
      refine hss s ?_
      rw [List.mem_take_iff_getElem]
      refine ⟨more.length, ?_, ?_⟩
      · simp only [List.length_append, List.length_cons]; omega
      · simp
    · exact ih hs.2.2 hsn it' hm ha
  | @alloc it rest snaps T ds pan σ al o v ob ho hw ha' hr hb next ih =>
    intro hsn it' hm ha
    have h0 := noal next.n_le.1 hs.1
    rcases List.mem_cons.1 hm with rfl | hm
    · refine ⟨o, T, ho, fun t ht => (Tr.alloc ho hw ha hr hb next).T_eq.2 t ((hs.2.1 o ho).1 t ht), v, hdst next.T_eq (hs.2.1 o ho).2, .inr (.inr (.inr ⟨σ.n, ob, hw, hr, hb, List.mem_cons_self, fun e he hei => ?_⟩))⟩
      rcases List.mem_cons.1 he with rfl | he
      · rfl
      · exact (h0 e he hei).elim
    · have hne : it.i ≠ it'.i := fun e => hs.1 it' hm e.symm
      obtain ⟨o', T', ho', hl, v', hd, hc⟩ := (ih hs.2.2 hsn it' hm ha).out
      refine ⟨o', T', ho', hl, v', hd, ?_⟩
      have hn : ∀ e, e ∈ (it.i, σ.n, ob) :: al → e.1 = it'.i → e ∈ al := fun e he hei => by
        rcases List.mem_cons.1 he with rfl | he
        · exact (hne hei).elim
        · exact he
      rcases hc with ⟨h1, h2, h3⟩ | ⟨h1, h2, h3⟩ | ⟨h1, h2, h3⟩ | ⟨n, ob', h1, h2, h3, h4, h5⟩
      · exact .inl ⟨h1, h2, fun e he hei => h3 e (hn e he hei) hei⟩
      · exact .inr (.inl ⟨h1, h2, fun e he hei => h3 e (hn e he hei) hei⟩)
      · exact .inr (.inr (.inl ⟨h1, h2, fun e he hei => h3 e (hn e he hei) hei⟩))
      · exact .inr (.inr (.inr ⟨n, ob', h1, h2, h3, List.mem_cons_of_mem _ h4, fun e he hei => h5 e (hn e he hei) hei⟩))

end
end Go.Dt
namespace Go.Dt

theorem sameAt_ok {D : Tab} {T : List AV} {op : Op} {v : AV} {s : St} (h : sameAt D T op v s = true) : readOp D s (evalO D T) op = .ok v := by
  unfold sameAt at h
  split at h
  · rename_i v' hv
    rw [hv, beqA_ok _ _ h]
  · cases h

mutual
theorem ids_restrict {ι : Nat → Loc} {A : Nat → Prop} {n : Nat} : ∀ (v : AV), ids ι A v → bndA n v = true → ids ι (fun b => A b ∧ b < n) v
  | .base _, _, _ => trivial
  | .ptr b _, h, k => ⟨h, by simpa [bndA] using k⟩
  | .slice b _ _ (some _) _, h, k => ⟨h, by simpa [bndA] using k⟩
  | .slice b _ _ none _, h, k => ⟨⟨h.1, by simpa [bndA] using k⟩, h.2⟩
  | .sliceZ b _ _ _, h, k => ⟨⟨h.1, by simpa [bndA] using k⟩, h.2⟩
  | .mapv b, h, k => ⟨h, by simpa [bndA] using k⟩
  | .func _ a c, h, k => by
    simp only [bndA, Bool.and_eq_true] at k
    exact ⟨idsL_restrict a h.1 k.1, idsL_restrict c h.2 k.2⟩
  | .yield l, h, k => ⟨h, by simpa [bndA] using k⟩
  | .iface _ v, h, k => ids_restrict v h k
  | .agg cs, h, k => idsL_restrict cs h k
  | .tuple vs, h, k => idsL_restrict vs h k
theorem idsL_restrict {ι : Nat → Loc} {A : Nat → Prop} {n : Nat} : ∀ (l : List AV), idsL ι A l → bndL n l = true → idsL ι (fun b => A b ∧ b < n) l
  | [], _, _ => trivial
  | v :: l, h, k => by
    simp only [bndL, Bool.and_eq_true] at k
    exact ⟨ids_restrict v h.1 k.1, idsL_restrict l h.2 k.2⟩
end

theorem ids_sub {ι : Nat → Loc} {A B : Nat → Prop} (h : ∀ b, A b → B b) {v : AV} (k : ids ι A v) : ids ι B v := ids_mono (fun b hb => ⟨h b hb, rfl⟩) v k

theorem ORep.restrict {ι : Nat → Loc} {A : Nat → Prop} {n : Nat} {o : AO} {L : Loc} {w : World} (h : ORep ι A o L w) (k : bndO n o = true) : ORep ι (fun b => A b ∧ b < n) o L w := by
  cases o with
  | cells cs elem own sz =>
    obtain ⟨h1, h2⟩ := h
    exact ⟨idsL_restrict cs h1 k, h2⟩
  | map es clock =>
    cases es with
    | nil => exact ⟨h.1, h.2.1, by simp⟩
    | cons e es => simp [bndO] at k
  | _ => simp [bndO] at k

theorem bndO_ne {n : Nat} {o : AO} (k : bndO n o = true) : o ≠ .gone := by rintro rfl; simp [bndO] at k

section
variable {D : Tab} {ι ι' : Nat → Loc} {σ : St} {w : World}

theorem Rep.iota (R : Rep D ι σ w) (h : ∀ b, b < σ.n → ι' b = ι b) : Rep D ι' σ w where
  len := R.len
  glob := R.glob
  gloc := fun g hg => by rw [h g (Nat.lt_of_lt_of_le hg R.glob)]; exact R.gloc g hg
  obj := fun b hb => by rw [h b hb]; exact (R.obj b hb).mono fun x hx => ⟨hx, h x hx⟩
  sep := fun b b' hb hb' hne hm hg => by rw [h b hb, h b' hb']; exact R.sep b b' hb hb' hne hm hg
  mem := R.mem

theorem Ext.iota {ι0 : Nat → Loc} {σ0 : St} {w0 : World} (E : Ext ι0 σ0 w0 ι σ w) (h : ∀ b, b < σ.n → ι' b = ι b) : Ext ι0 σ0 w0 ι' σ w where
  os := E.os
  tape := E.tape
  output := E.output
  size := E.size
  n := E.n
  agree := fun b hb => (h b (Nat.lt_of_lt_of_le hb E.n)).trans (E.agree b hb)
  frame := E.frame
  own := fun b hb hg => by rw [h b hb]; exact E.own b hb hg

/-- an object that lies in memory already is taken into the heap -/
theorem Rep.adopt (R : Rep D ι σ w) {o : AO} (ho : ORep ι (· < σ.n + 1) o (ι σ.n) w) (hs : ∀ b, b < σ.n → σ.getO b ≠ .gone → (ι b).block ≠ (ι σ.n).block) :
    Rep D ι (σ.push o) w where
  len := by simp [St.push, R.len]
  glob := Nat.le_succ_of_le R.glob
  gloc := R.gloc
  obj := fun b hb => by
    simp only [St.push] at hb
    by_cases he : b = σ.n
    · subst he; rw [getO_push_new]; exact ho
    · have hb1 : b < σ.n := by omega
      rw [getO_push_old hb1]
      exact (R.obj b hb1).mono fun x hx => ⟨Nat.lt_succ_of_lt hx, rfl⟩
  sep := fun b b' hb hb' hne hm hg => by
    simp only [St.push] at hb hb'
    by_cases he : b = σ.n
    · subst he
      have hb1 : b' < σ.n := by omega
      rw [getO_push_old hb1] at hg
      exact (hs b' hb1 hg).symm
    · have hb1 : b < σ.n := by omega
      rw [getO_push_old hb1] at hm
      by_cases he' : b' = σ.n
      · subst he'; exact hs b hb1 (AO.isMut_ne hm)
      · have hb2 : b' < σ.n := by omega
        rw [getO_push_old hb2] at hg
        exact R.sep b b' hb1 hb2 hne hm hg
  mem := R.mem

theorem Ext.adopt {ι0 : Nat → Loc} {σ0 : St} {w0 : World} (E : Ext ι0 σ0 w0 ι σ w) {o : AO} (hb0 : w0.heap.size ≤ (ι σ.n).block) : Ext ι0 σ0 w0 ι (σ.push o) w where
  os := E.os
  tape := E.tape
  output := E.output
  size := E.size
  n := Nat.le_succ_of_le E.n
  agree := E.agree
  frame := E.frame
  own := fun b hb hg => by
    simp only [St.push] at hb
    by_cases he : b = σ.n
    · subst he; exact .inl hb0
    · have hb1 : b < σ.n := by omega
      rw [getO_push_old hb1] at hg ⊢
      exact E.own b hb1 hg

/-- a new block in memory that the heap does not yet know -/
theorem Ext.aside {ι0 : Nat → Loc} {σ0 : St} {w0 : World} (E : Ext ι0 σ0 w0 ι σ w) (ob : Obj) (h : ∀ b, b < σ.n → ι' b = ι b) : Ext ι0 σ0 w0 ι' σ (w.alloc ob) := by
  refine Ext.iota ⟨E.os, E.tape, E.output, ?_, E.n, E.agree, fun r hr hno => ?_, E.own⟩ h
  · have : (w.alloc ob).heap.size = w.heap.size + 1 := by simp
    rw [this]; exact Nat.le_succ_of_le E.size
  · rw [← E.frame r hr hno]
    show (w.heap.push ob)[r]? = _
    have := E.size
    rw [Array.getElem?_push, if_neg (by omega)]

theorem heap_alloc_old (w : World) (ob : Obj) {r : Nat} (hr : r < w.heap.size) : (w.alloc ob).heap[r]? = w.heap[r]? := by
  show (w.heap.push ob)[r]? = _
  rw [Array.getElem?_push, if_neg (by omega)]

theorem Rep.aside (R : Rep D ι σ w) (ob : Obj) (h : ∀ b, b < σ.n → ι' b = ι b) : Rep D ι' σ (w.alloc ob) := by
  refine Rep.iota ⟨R.len, R.glob, R.gloc, fun b hb => ?_, R.sep, R.mem⟩ h
  by_cases hg : σ.getO b = .gone
  · rw [hg]; trivial
  · exact (R.obj b hb).congr (heap_alloc_old w ob ((R.obj b hb).lt hg))

end
end Go.Dt
namespace Go.Dt

def lst (listed : Array Bool) (i : Nat) : Bool := listed.getD i false

theorem lst_set {listed : Array Bool} {i : Nat} (hi : i < listed.size) (j : Nat) : lst (listed.setIfInBounds i true) j = (lst listed j || j == i) := by
  unfold lst
  by_cases h : i = j
  · subst h; simp [hi]
  · have h' : (j == i) = false := by simpa using fun e => h e.symm
    simp [Array.getElem?_setIfInBounds_ne h, h']

theorem lst_lt {listed : Array Bool} {i : Nat} (h : lst listed i = true) : i < listed.size := by
  unfold lst at h
  rcases Nat.lt_or_ge i listed.size with h' | h'
  · exact h'
  · simp [Array.getElem?_eq_none h'] at h

/- the marks rest on edges -/
theorem beq_dec (a b : Nat) : Nat.beq a b = decide (a = b) := by
  by_cases h : a = b
  · subst h; simp
  · have : Nat.beq a b = false := by
      cases hb : Nat.beq a b with
      | false => rfl
      | true => exact (h (Nat.eq_of_beq_eq_true hb)).elim
    simp [h, this]
theorem blt_dec (a b : Nat) : Nat.blt a b = decide (a < b) := by
  by_cases h : a < b
  · simp [h, Nat.blt, Nat.ble_eq_true_of_le h]
  · have : Nat.blt a b = false := by
      cases hb : Nat.blt a b with
      | false => rfl
      | true => exact (h (by simpa [Nat.blt_eq] using hb)).elim
    simp [h, this]

theorem bitOf_eq (m i : Nat) : bitOf m i = m.testBit i := by
  unfold bitOf Nat.testBit
  rw [beq_dec]
  have h1 : Nat.land (Nat.shiftRight m i) 1 = 1 &&& (m >>> i) := Nat.and_comm _ _
  rw [h1]
  have h2 : 1 &&& (m >>> i) = (m >>> i) % 2 := by rw [Nat.and_comm]; exact Nat.and_one_is_mod _
  rw [h2]
  rcases Nat.mod_two_eq_zero_or_one (m >>> i) with h | h <;> simp [h]

theorem nthN_eq : ∀ (l : List Nat) (i : Nat), nthN l i = l.getD i 0
  | [], i => rfl
  | x :: l, 0 => rfl
  | x :: l, i + 1 => by
    have : nthN (x :: l) (i + 1) = nthN l i := rfl
    rw [this, nthN_eq l i]
    simp

theorem edgesM_spec {acc : List Nat} {k i : Nat} : ∀ {l : List Edge}, (edgesM acc k l).testBit i = true →
    ∃ e, e ∈ l ∧ Region.binds .any e = true ∧ (e.on = i ∨ (e.on < k ∧ (acc.getD (k - 1 - e.on) 0).testBit i = true))
  | [], h => by simp [edgesM] at h
  | e :: l, h => by
    unfold edgesM at h
    cases hb : Region.binds .any e with
    | false =>
      rw [hb] at h
      obtain ⟨e', h1, h2⟩ := edgesM_spec (l := l) h
      exact ⟨e', List.mem_cons_of_mem _ h1, h2⟩
    | true =>
      rw [hb] at h
      simp only [cond_true] at h
      have h' : ((((1 <<< e.on) ||| (bif Nat.blt e.on k then nthN acc (Nat.sub (Nat.sub k 1) e.on) else 0)) ||| edgesM acc k l) : Nat).testBit i = true := h
      rw [Nat.testBit_or, Nat.testBit_or, Bool.or_eq_true, Bool.or_eq_true] at h'
      rcases h' with (h1 | h1) | h1
      · refine ⟨e, by simp, hb, .inl ?_⟩
        rw [Nat.one_shiftLeft, Nat.testBit_two_pow] at h1
        exact of_decide_eq_true h1
      · rw [blt_dec] at h1
        by_cases hlt : e.on < k
        · simp only [hlt, decide_true, cond_true] at h1
          rw [nthN_eq] at h1
          exact ⟨e, by simp, hb, .inr ⟨hlt, h1⟩⟩
        · simp [hlt] at h1
      · obtain ⟨e', h2, h3⟩ := edgesM_spec (l := l) h1
        exact ⟨e', List.mem_cons_of_mem _ h2, h3⟩

theorem befL_spec (i : Nat) : ∀ (l : List Oper) (acc : List Nat) (k : Nat), acc.length = k → ∀ j o, l[j]? = some o → ((befL l acc k).getD j 0).testBit i = true →
    ∃ e, e ∈ o.after ∧ Region.binds .any e = true ∧ (e.on = i ∨ ((acc.reverse ++ befL l acc k).getD e.on 0).testBit i = true)
  | [], _, _, _, j, o, h, _ => by simp at h
  | o :: l, acc, k, hk, 0, o', ho, hb => by
    simp only [List.getElem?_cons_zero, Option.some.injEq] at ho
    subst ho
    have hb' : (edgesM acc k o.after.toList).testBit i = true := by simpa [befL] using hb
    obtain ⟨e, h1, h2, h3⟩ := edgesM_spec hb'
    refine ⟨e, by simpa using h1, h2, h3.imp id fun ⟨hlt, h4⟩ => ?_⟩
    have hl : e.on < acc.reverse.length := by rw [List.length_reverse, hk]; exact hlt
    have : (acc.reverse ++ befL (o :: l) acc k).getD e.on 0 = acc.getD (k - 1 - e.on) 0 := by
      rw [List.getD_eq_getElem?_getD, List.getD_eq_getElem?_getD, List.getElem?_append_left hl, List.getElem?_reverse (by rwa [List.length_reverse] at hl), hk]
    rw [this]
    exact h4
  | o :: l, acc, k, hk, j + 1, o', ho, hb => by
    simp only [List.getElem?_cons_succ] at ho
    have hb' : ((befL l (edgesM acc k o.after.toList :: acc) (k + 1)).getD j 0).testBit i = true := by simpa [befL] using hb
    obtain ⟨e, h1, h2, h3⟩ := befL_spec i l (edgesM acc k o.after.toList :: acc) (k + 1) (by simp [hk]) j o' ho hb'
    refine ⟨e, h1, h2, h3.imp id fun h4 => ?_⟩
    have : acc.reverse ++ befL (o :: l) acc k = (edgesM acc k o.after.toList :: acc).reverse ++ befL l (edgesM acc k o.after.toList :: acc) (k + 1) := by
      simp [befL]
    rw [this]
    exact h4

theorem marks_before (ops : Array Oper) : marksOk ops (befA ops) = true := by
  simp only [marksOk, idxs, List.all_eq_true, List.mem_range]
  intro j hj i hi
  by_cases h : isBefore (befA ops) i j = true
  · have ho : ops.toList[j]? = some ops[j] := by simp [hj]
    unfold isBefore befA at h
    have h' : ((befL ops.toList [] 0).getD j 0).testBit i = true := by simpa using h
    obtain ⟨e, he, hbi, h4⟩ := befL_spec i ops.toList [] 0 rfl j _ ho h'
    have ho' : ops[j]? = some ops[j] := by simp [hj]
    rw [ho']
    simp only [Bool.or_eq_true]
    right
    refine List.any_eq_true.2 ⟨e, by simpa using he, ?_⟩
    simp only [Bool.and_eq_true, Bool.or_eq_true, beq_iff_eq]
    refine ⟨hbi, h4.imp id fun h5 => ?_⟩
    unfold isBefore befA
    simpa using h5
  · simp [h]

def Cl (ops : Array Oper) (b : Array Nat) (listed : Array Bool) : Prop := ∀ i j, i < ops.size → lst listed j = true → isBefore b i j = true → lst listed i = true

section
variable {ops : Array Oper} {m : Nat} {b : Array Nat} {listed : Array Bool}

theorem marks_spec (hm : marksOk ops b = true) {i j : Nat} (hi : i < ops.size) (hj : j < ops.size) (h : isBefore b i j = true) :
    ∃ o e, ops[j]? = some o ∧ e ∈ o.after ∧ Region.binds .any e = true ∧ (e.on = i ∨ isBefore b i e.on = true) := by
  simp only [marksOk, idxs, List.all_eq_true, List.mem_range] at hm
  have := hm j hj i hi
  rw [h] at this
  simp only [Bool.not_true, Bool.false_or] at this
  split at this
  · rename_i o ho
    obtain ⟨e, he, h2⟩ := List.any_eq_true.1 this
    simp only [Bool.and_eq_true, Bool.or_eq_true, beq_iff_eq] at h2
    exact ⟨o, e, ho, by simpa using he, h2.1, h2.2⟩
  · cases this

theorem ready_lst {j : Nat} (h : j ∈ Region.ready .any ops listed) (hsz : listed.size = ops.size) : j < ops.size ∧ lst listed j = false := by
  obtain ⟨h0, o, ho, _⟩ := mem_ready.1 h
  have hj : j < ops.size := (Array.getElem?_eq_some_iff.1 ho).1
  refine ⟨hj, ?_⟩
  unfold lst
  have : j < listed.size := by omega
  simp [this] at h0 ⊢
  exact h0

theorem ready_before (hm : marksOk ops b = true) (hc : Cl ops b listed) (hsz : listed.size = ops.size) {i j : Nat} (hj : j ∈ Region.ready .any ops listed) (hi : i < ops.size)
    (h : isBefore b i j = true) : lst listed i = true := by
  have hj' := (ready_lst hj hsz).1
  obtain ⟨_, o, ho, hall⟩ := mem_ready.1 hj
  obtain ⟨o', e, ho', he, hb, hor⟩ := marks_spec hm hi hj' h
  rw [ho] at ho'; cases ho'
  have hl : lst listed e.on = true := hall e he hb
  rcases hor with h1 | h1
  · rw [← h1]; exact hl
  · exact hc i e.on hi hl h1

theorem Cl.set (hc : Cl ops b listed) (hm : marksOk ops b = true) (hsz : listed.size = ops.size) {j : Nat} (hj : j ∈ Region.ready .any ops listed) : Cl ops b (listed.setIfInBounds j true) := by
  have hj' := (ready_lst hj hsz).1
  intro i x hi hx h
  rw [lst_set (by omega)] at hx ⊢
  rw [Bool.or_eq_true] at hx ⊢
  left
  rcases hx with hx | hx
  · exact hc i x hi hx h
  · rw [beq_iff_eq] at hx; subst hx
    exact ready_before hm hc hsz hj hi h

/- what the static check says of the plan's head -/
structure Head (ops : Array Oper) (m : Nat) (b : Array Nat) (as : List Nat) (seen : List Nat) (it : PlanItem) (rest : List PlanItem) (o : Oper) : Prop where
  ho : ops[it.i]? = some o
  lt : it.i < m
  nosel : ∀ cs d, o.op ≠ .select cs d
  new : it.i ∉ seen
  top : ∀ e, e ∈ o.after → Region.binds .any e = true → e.on ∈ seen
  first : ∀ a, firstAct rest = some a → isBefore b it.i a = true
  lo : it.lo = 0 ∨ ∃ a, as[it.lo - 1]? = some a ∧ isBefore b a it.i = true
  looks : ∀ t, t ∈ looksAt ops o → writes ops (it :: rest) t = false ∧ ∀ j, j < m → dstAt ops j = some t → isBefore b j it.i = true
  dst : ∀ d, o.dst = some d → writes ops rest d = false

theorem chk_head {as seen : List Nat} {it : PlanItem} {rest : List PlanItem} (h : planChk ops m b as seen (it :: rest) = true) :
    (∃ o, Head ops m b as seen it rest o) ∧ planChk ops m b as (it.i :: seen) rest = true := by
  simp only [planChk, Bool.and_eq_true] at h
  refine ⟨?_, h.2⟩
  have h1 := h.1
  split at h1
  · cases h1
  · rename_i o ho
    simp only [Bool.and_eq_true, Bool.not_eq_true', List.all_eq_true, Bool.or_eq_true] at h1
    obtain ⟨⟨⟨⟨⟨⟨⟨h0, h1⟩, h2⟩, h3⟩, h4⟩, h5⟩, h6⟩, h7⟩ := h1
    refine ⟨o, ho, by simpa [Nat.blt_eq] using h0, ?_, ?_, ?_, ?_, ?_, ?_, ?_⟩
    · intro cs d e; rw [e] at h1; simp [isSelect] at h1
    · simpa using h2
    · intro e he hb
      rcases h3 e (by simpa using he) with h | h
      · rw [hb] at h; cases h
      · simpa using h
    · intro a ha; rw [ha] at h4; exact h4
    · rcases h5 with h | h
      · left; simpa using h
      · right
        split at h
        · rename_i a ha; exact ⟨a, ha, h⟩
        · cases h
    · intro t ht
      refine ⟨by simpa using (h6 t ht).1, fun j hj hd => ?_⟩
      have := (h6 t ht).2
      simp only [List.mem_range] at this
      rcases this j hj with h | h
      · rw [hd] at h; simp at h
      · exact h
    · intro d hd; rw [hd] at h7; simpa using h7

theorem chk_new {as : List Nat} : ∀ {rest : List PlanItem} {seen : List Nat}, planChk ops m b as seen rest = true → ∀ it, it ∈ rest → it.i ∉ seen := by
  intro rest
  induction rest with
  | nil => intro seen _ it hm; simp at hm
  | cons x rest ih =>
    intro seen h it hm
    obtain ⟨⟨o, hh⟩, h2⟩ := chk_head h
    rcases List.mem_cons.1 hm with rfl | hm
    · exact hh.new
    · intro hs; exact ih h2 it hm (List.mem_cons_of_mem _ hs)

theorem chk_ssa {as : List Nat} : ∀ {rest : List PlanItem} {seen : List Nat}, planChk ops m b as seen rest = true → ssa ops rest := by
  intro rest
  induction rest with
  | nil => intro seen _; trivial
  | cons x rest ih =>
    intro seen h
    obtain ⟨⟨o, hh⟩, h2⟩ := chk_head h
    refine ⟨fun it' hm e => chk_new h2 it' hm (e ▸ List.mem_cons_self), fun o' ho' => ?_, ih h2⟩
    rw [hh.ho] at ho'; cases ho'
    exact ⟨fun t ht => (hh.looks t ht).1, hh.dst⟩

theorem ssa_inj : ∀ {rest : List PlanItem}, ssa ops rest → ∀ {x y : PlanItem}, x ∈ rest → y ∈ rest → x.i = y.i → x = y := by
  intro rest
  induction rest with
  | nil => intro _ x y hx; simp at hx
  | cons z rest ih =>
    intro h x y hx hy he
    rcases List.mem_cons.1 hx with rfl | hx1
    · rcases List.mem_cons.1 hy with rfl | hy1
      · rfl
      · exact (h.1 y hy1 he.symm).elim
    · rcases List.mem_cons.1 hy with rfl | hy1
      · exact (h.1 x hx1 he).elim
      · exact ih h.2.2 hx1 hy1 he

/-- the head's facts, for a member -/
theorem chk_mem {as : List Nat} : ∀ {rest : List PlanItem} {seen : List Nat}, planChk ops m b as seen rest = true → ∀ it, it ∈ rest → ∃ o seen' rest', Head ops m b as seen' it rest' o := by
  intro rest
  induction rest with
  | nil => intro seen _ it hm; simp at hm
  | cons x rest ih =>
    intro seen h it hm
    obtain ⟨⟨o, hh⟩, h2⟩ := chk_head h
    rcases List.mem_cons.1 hm with rfl | hm
    · exact ⟨o, seen, rest, hh⟩
    · exact ih h2 it hm

theorem chk_chain {as : List Nat} {it : PlanItem} (ha : it.act = true) : ∀ {rest : List PlanItem} {seen : List Nat}, planChk ops m b as seen rest = true → it ∈ rest →
    firstAct rest = some it.i ∨ ∃ p, p ∈ rest ∧ p.act = true ∧ isBefore b p.i it.i = true := by
  intro rest
  induction rest with
  | nil => intro seen _ hm; simp at hm
  | cons x rest ih =>
    intro seen h hm
    obtain ⟨⟨o, hh⟩, h2⟩ := chk_head h
    cases hx : x.act with
    | true =>
      rcases List.mem_cons.1 hm with rfl | hm
      · left; simp [firstAct, hx]
      · rcases ih h2 hm with h3 | ⟨p, hp, h3⟩
        · exact .inr ⟨x, List.mem_cons_self, hx, hh.first _ h3⟩
        · exact .inr ⟨p, List.mem_cons_of_mem _ hp, h3⟩
    | false =>
      rcases List.mem_cons.1 hm with rfl | hm
      · rw [ha] at hx; cases hx
      · rcases ih h2 hm with h3 | ⟨p, hp, h3⟩
        · left; simpa [firstAct, hx] using h3
        · exact .inr ⟨p, List.mem_cons_of_mem _ hp, h3⟩

end

def Live (σ : St) (al : List Alc) (listed : Array Bool) (b : Nat) : Prop := b < σ.n ∨ ∃ e, e ∈ al ∧ lst listed e.1 = true ∧ e.2.1 = b

structure Pend (σ : St) (al : List Alc) (listed : Array Bool) (ι : Nat → Loc) (w : World) (base : Nat) (e : Alc) : Prop where
  rep : ORep ι (Live σ al listed) e.2.2 (ι e.2.1) w
  bnd : bndO (e.2.1 + 1) e.2.2 = true
  base : base ≤ (ι e.2.1).block
  apart : ∀ b, b < σ.n → σ.getO b ≠ .gone → (ι b).block ≠ (ι e.2.1).block

/-- what stays the same -/
structure Env where
  D : Tab
  P : Program
  call : CallT
  round : RoundT
  isRound : Bool
  X : Ctx
  b : Frame
  ops : Array Oper
  m : Nat
  as : List Nat
  Te : List AV
  dsE : List ADef
  panE : Pan
  σE : St
  ι0 : Nat → Loc
  σ0 : St
  w0 : World

structure DInv (V : Env) (listed : Array Bool) (rest : List PlanItem) (seen : List Nat) (s : St) (old : List St) (T : List AV) (ds : List ADef) (pan : Pan) (σ : St) (al : List Alc)
    (ι : Nat → Loc) (w : World) (M : Array Value) : Prop where
  tr : Tr V.D V.call V.round V.isRound V.ops V.Te V.dsE V.panE V.σE rest (s :: old) T ds pan σ al
  chk : planChk V.ops V.m (befA V.ops) V.as seen rest = true
  acts : (rest.filter (·.act)).map (·.i) = V.as.drop old.length
  sz : listed.size = V.ops.size
  cl : Cl V.ops (befA V.ops) listed
  seenL : ∀ j, j ∈ seen → lst listed j = true
  cov : ∀ i, i < V.m → i ∈ seen ∨ ∃ it, it ∈ rest ∧ it.i = i
  un : ∀ it, it ∈ rest → it.act = true → lst listed it.i = false
  rep : Rep V.D ι σ w
  ext : Ext V.ι0 V.σ0 V.w0 ι σ w
  msz : M.size = V.Te.length
  val : ∀ t v, V.Te[t]? = some v → (∀ it, it ∈ rest → lst listed it.i = false → dstAt V.ops it.i ≠ some t) → M[t]? = some (conc ι v) ∧ ids ι (Live σ al listed) v
  pend : ∀ e, e ∈ al → lst listed e.1 = true → Pend σ al listed ι w V.w0.heap.size e
  sep : ∀ e e', e ∈ al → e' ∈ al → lst listed e.1 = true → lst listed e'.1 = true → e.2.1 ≠ e'.2.1 → (ι e.2.1).block ≠ (ι e'.2.1).block
  fit : V.X.fits pan
  ds : idsDs ι (· < σ.n) ds
  pan : idsPan ι (· < σ.n) pan

section
variable {V : Env} {listed : Array Bool} {rest : List PlanItem} {seen : List Nat} {s : St} {old : List St} {T : List AV} {ds : List ADef} {pan : Pan} {σ : St} {al : List Alc}
  {ι : Nat → Loc} {w : World} {M : Array Value}

/-- what a ready operation looks at -/
structure Looks (V : Env) (σ : St) (al : List Alc) (listed : Array Bool) (ι : Nat → Loc) (M : Array Value) (o : Oper) (T : List AV) : Prop where
  ev : Go.execOp (evT M) o = Go.execOp (fun x => conc ι (evalO V.D T x)) o
  ids : ∀ x, x ∈ o.op.operands → Dt.ids ι (Live σ al listed) (evalO V.D T x)
  wanted : Region.wanted o (yielded V.ops M) = wantedA V.ops o T

theorem DInv.looks (I : DInv V listed rest seen s old T ds pan σ al ι w M) (hm : marksOk V.ops (befA V.ops) = true) {it : PlanItem} (hit : it ∈ rest) (hr : it.i ∈ Region.ready .any V.ops listed)
    {o : Oper} (ho : V.ops[it.i]? = some o) {T' : List AV} (hT : ∀ t, t ∈ looksAt V.ops o → T'[t]? = V.Te[t]?) : Looks V σ al listed ι M o T' := by
  obtain ⟨o', seen', rest', hh⟩ := chk_mem I.chk it hit
  rw [hh.ho] at ho; cases ho
  have key : ∀ t, t ∈ looksAt V.ops o → ∀ v, T'[t]? = some v → M[t]? = some (conc ι v) ∧ ids ι (Live σ al listed) v := by
    intro t ht v hv
    rw [hT t ht] at hv
    refine I.val t v hv fun it' hm' hl' hd' => ?_
    have hlt : it'.i < V.ops.size := by
      unfold dstAt at hd'
      cases hx : V.ops[it'.i]? with
      | none => rw [hx] at hd'; cases hd'
      | some _ => exact (Array.getElem?_eq_some_iff.1 hx).1
    obtain ⟨_, _, _, hh'⟩ := chk_mem I.chk it' hm'
    have := ready_before hm I.cl I.sz hr hlt ((hh.looks t ht).2 it'.i hh'.lt hd')
    rw [hl'] at this; cases this
  have keyN : ∀ t, t ∈ looksAt V.ops o → T'[t]? = none → M[t]? = none := by
    intro t ht hv
    rw [hT t ht, List.getElem?_eq_none_iff] at hv
    exact Array.getElem?_eq_none (by rw [I.msz]; exact hv)
  have tm : ∀ t, (Operand.tmp t) ∈ o.op.operands → t ∈ looksAt V.ops o := fun t ht =>
    List.mem_append_left _ (List.mem_filterMap.2 ⟨.tmp t, by simpa using ht, rfl⟩)
  refine ⟨execOp_congr o hh.nosel fun x hx => ?_, fun x hx => ?_, ?_⟩
  · cases x with
    | tmp t =>
      have ht := tm t hx
      simp only [evT, evalO, Array.getD_eq_getD_getElem?, List.getD_eq_getElem?_getD]
      cases hv : T'[t]? with
      | none => rw [keyN t ht hv]; simp
      | some v => rw [(key t ht v hv).1]; simp
    | const v => simp [evT, evalO]
    | global g =>
      simp only [evT, evalO]
      split
      · rename_i hg
        have := I.rep.gloc g hg
        simp [conc, Loc.at, this.1, this.2]
      · simp [conc]
    | func f => simp [evT, evalO, conc, concL]
  · cases x with
    | tmp t =>
      have ht := tm t hx
      simp only [evalO, List.getD_eq_getElem?_getD]
      cases hv : T'[t]? with
      | none => simpa using ids_undef ι _
      | some v => simpa using (key t ht v hv).2
    | const v => exact ids_ofConst ι _ v
    | global g =>
      simp only [evalO]
      split
      · rename_i hg; exact .inl (I.rep.glob_lt g hg)
      · trivial
    | func f => simp [evalO, Dt.ids, idsL]
  · unfold Region.wanted wantedA
    cases hg : o.guard with
    | none => rfl
    | some p =>
      obtain ⟨g, want⟩ := p
      have : yielded V.ops M g = yieldedA V.ops T' g := by
        rw [← yielded_conc ι]
        unfold yielded
        cases ht : (V.ops[g]?).bind (·.dst) with
        | none => rfl
        | some t =>
          have hl : t ∈ looksAt V.ops o := List.mem_append_right _ (by simp [hg, ht])
          simp only [Option.bind_some, List.getElem?_toArray, concL_getElem?]
          cases hv : T'[t]? with
          | none => rw [keyN t hl hv]; simp
          | some v => rw [(key t hl v hv).1]; simp
      simp only [this]

/-- an operation that is no act has been listed -/
theorem DInv.inert (I : DInv V listed rest seen s old T ds pan σ al ι w M) (hm : marksOk V.ops (befA V.ops) = true) {it : PlanItem} (hit : it ∈ rest) (hr : it.i ∈ Region.ready .any V.ops listed)
    (hna : it.act = false) {o : Oper} (ho : V.ops[it.i]? = some o) {v : AV} (hv : ∀ d, o.dst = some d → d < V.Te.length → V.Te[d]? = some v) {ι' : Nat → Loc} {w' : World}
    (hk : ∀ b, Live σ al listed b → Live σ al (listed.setIfInBounds it.i true) b ∧ ι' b = ι b) (R : Rep V.D ι' σ w') (E : Ext V.ι0 V.σ0 V.w0 ι' σ w')
    (hid : ids ι' (Live σ al (listed.setIfInBounds it.i true)) v)
    (hp : ∀ e, e ∈ al → lst (listed.setIfInBounds it.i true) e.1 = true → Pend σ al (listed.setIfInBounds it.i true) ι' w' V.w0.heap.size e)
    (hs : ∀ e e', e ∈ al → e' ∈ al → lst (listed.setIfInBounds it.i true) e.1 = true → lst (listed.setIfInBounds it.i true) e'.1 = true → e.2.1 ≠ e'.2.1 → (ι' e.2.1).block ≠ (ι' e'.2.1).block) :
    DInv V (listed.setIfInBounds it.i true) rest seen s old T ds pan σ al ι' w' (putV M o.dst (conc ι' v)) := by
  have hlt := (ready_lst hr I.sz).1
  have hset := fun j => lst_set (listed := listed) (i := it.i) (by rw [I.sz]; exact hlt) j
  have hkn : ∀ b, b < σ.n → b < σ.n ∧ ι' b = ι b := fun b hb => ⟨hb, (hk b (.inl hb)).2⟩
  refine { tr := I.tr, chk := I.chk, acts := I.acts, sz := by simpa using I.sz, cl := I.cl.set hm I.sz hr, seenL := fun j hj => by rw [hset, I.seenL j hj]; rfl, cov := I.cov,
           un := fun it' hm' ha' => ?_, rep := R, ext := E, msz := ?_, val := fun t v' hv' hno => ?_, pend := hp, sep := hs,
           ds := idsDs_mono hkn I.ds, pan := idsPan_mono hkn pan I.pan, fit := I.fit }
  · rw [hset, I.un it' hm' ha', Bool.false_or]
    simp only [beq_eq_false_iff_ne]
    intro he
    have hsame : it' = it := ssa_inj (chk_ssa I.chk) hm' hit he
    rw [hsame, hna] at ha'; cases ha'
  · rw [← I.msz]; unfold putV; split <;> simp
  · by_cases hd : o.dst = some t
    · have htl : t < V.Te.length := (List.getElem?_eq_some_iff.1 hv').1
      have := hv t hd htl
      rw [hv'] at this; cases this
      refine ⟨?_, hid⟩
      rw [hd]; simp only [putV]
      rw [Array.getElem?_setIfInBounds_self_of_lt (by rw [I.msz]; exact htl)]
    · have h1 := I.val t v' hv' fun it' hm' hl' hd' => ?_
      · refine ⟨?_, ids_mono hk v' h1.2⟩
        have hM : (putV M o.dst (conc ι' v))[t]? = M[t]? := by
          unfold putV
          split
          · rename_i d hd'
            exact Array.getElem?_setIfInBounds_ne fun e => hd (by rw [hd', e])
          · rfl
        rw [hM, h1.1, conc_agree (fun b hb => (hk b hb).2) v' h1.2]
      · by_cases he : it'.i = it.i
        · rw [he, dstAt_eq ho] at hd'; exact hd hd'
        · refine hno it' hm' ?_ hd'
          rw [hset, hl']; simpa using he

end
end Go.Dt
namespace Go.Dt

section
variable {V : Env} {listed : Array Bool} {rest : List PlanItem} {seen : List Nat} {s : St} {old : List St} {T : List AV} {ds : List ADef} {pan : Pan} {σ : St} {al : List Alc}
  {ι : Nat → Loc} {w : World} {M : Array Value}

theorem Live.same {i : Nat} (hi : i < listed.size) (hno : ∀ e, e ∈ al → e.1 ≠ i) (b : Nat) : Live σ al (listed.setIfInBounds i true) b ↔ Live σ al listed b := by
  unfold Live
  constructor
  · rintro (h | ⟨e, he, hl, h⟩)
    · exact .inl h
    · rw [lst_set hi] at hl
      exact .inr ⟨e, he, by simpa [hno e he] using hl, h⟩
  · rintro (h | ⟨e, he, hl, h⟩)
    · exact .inl h
    · exact .inr ⟨e, he, by rw [lst_set hi, hl]; rfl, h⟩

/-- the machine in a region -/
def mch (V : Env) (order : List Nat) (k : List Item) (ι : Nat → Loc) (ds : List ADef) (pan : Pan) (w : World) (M : Array Value) : Machine :=
  lone (on V.b M (ds.map (concDef ι)) (.inRegion V.ops order :: k)) (V.X.cs ι pan) w

theorem mch_agree {order : List Nat} {k : List Item} {ι ι' : Nat → Loc} {n : Nat} (h : ∀ b, b < n → ι' b = ι b) (hd : idsDs ι (· < n) ds) (hp : idsPan ι (· < n) pan) :
    mch V order k ι' ds pan w M = mch V order k ι ds pan w M := by
  unfold mch
  rw [concDs_agree h hd, V.X.agree h hp]

theorem DInv.early (I : DInv V listed rest seen σ old T ds pan σ al ι w M) (F : Fits V.D V.P) (hm : marksOk V.ops (befA V.ops) = true) {it : PlanItem} (hit : it ∈ rest)
    (hr : it.i ∈ Region.ready .any V.ops listed) (hna : it.act = false) (hlo : it.lo ≤ old.length) (order : List Nat) (k : List Item) :
    ∃ ι' w' M', Steps V.P (mch V (it.i :: order) k ι ds pan w M) (mch V order k ι' ds pan w' M') ∧ DInv V (listed.setIfInBounds it.i true) rest seen σ old T ds pan σ al ι' w' M' := by
  obtain ⟨o, T', ho, hT, v, hv, hc⟩ := (I.tr.fact (chk_ssa I.chk) ⟨[], rfl⟩ it hit hna).out
  have hlt := (ready_lst hr I.sz).1
  have hls : it.i < listed.size := by rw [I.sz]; exact hlt
  have L := I.looks hm hit hr ho hT
  obtain ⟨o', seen', rest', hh⟩ := chk_mem I.chk it hit
  have hoo : o' = o := by have := hh.ho; rw [ho] at this; cases this; rfl
  subst hoo
  -- nothing new in memory
  have plain : ∀ (hno : ∀ e, e ∈ al → e.1 ≠ it.i), ids ι (Live σ al listed) v → DInv V (listed.setIfInBounds it.i true) rest seen σ old T ds pan σ al ι w (putV M o'.dst (conc ι v)) := by
    intro hno hid
    have hsame := Live.same (σ := σ) hls hno
    have hl : ∀ e, e ∈ al → lst (listed.setIfInBounds it.i true) e.1 = true → lst listed e.1 = true := fun e he h => by
      rw [lst_set hls] at h; simpa [hno e he] using h
    refine I.inert hm hit hr hna ho hv (fun b hb => ⟨(hsame b).2 hb, rfl⟩) I.rep I.ext (ids_sub (fun b hb => (hsame b).2 hb) hid) (fun e he h => ?_) fun e e' he he' h h' hne => I.sep e e' he he' (hl e he h) (hl e' he' h') hne
    have p := I.pend e he (hl e he h)
    exact ⟨p.rep.mono fun b hb => ⟨(hsame b).2 hb, rfl⟩, p.bnd, p.base, p.apart⟩
  have nd : V.b.roundOf = none ∨ ∀ c, o'.op ≠ .defer c ∨ wantedA V.ops o' T' = false := by
    right
    intro c
    rcases hc with ⟨h1, _⟩ | ⟨h1, h2, _⟩ | ⟨h1, h2, _⟩ | ⟨n, ob, h1, h2, _⟩
    · exact .inr h1
    · left; intro e; rw [e] at h2; simp [pureOp] at h2
    · left; intro e; have := sameAt_ok (h2 hlo); rw [e] at this; simp [readOp] at this
    · left; intro e; rw [e] at h2; simp [allocOp] at h2
  have nd' : wantedA V.ops o' T' = true → V.b.roundOf = none ∨ ∀ c, o'.op ≠ .defer c := fun hw => by
    rcases nd with h | h
    · exact .inl h
    · right; intro c
      rcases h c with h | h
      · exact h
      · rw [hw] at h; cases h
  rcases hc with ⟨h1, h2, h3⟩ | ⟨h1, h2, h3⟩ | ⟨h1, h2, h3⟩ | ⟨n, ob, h1, h2, h3, h4, h5⟩
  · subst h2
    refine ⟨ι, w, _, .one ?_, plain h3 (ids_undef _ _)⟩
    rw [conc_undef]
    exact step_unwanted (by simp [ho, L.wanted, h1]) ho
  · obtain ⟨hrun, hids⟩ := pureOp_run F w h2 L.ids
    refine ⟨ι, w, _, .one ?_, plain h3 hids⟩
    exact step_value ho (by rw [L.wanted, h1]) (nd' h1) (by rw [L.ev]; exact hrun)
  · obtain ⟨hrun, hids⟩ := readOp_run F I.rep (sameAt_ok (h2 hlo))
    refine ⟨ι, w, _, .one ?_, plain h3 (ids_sub (fun b hb => .inl hb) hids)⟩
    exact step_value ho (by rw [L.wanted, h1]) (nd' h1) (by rw [L.ev]; exact hrun)
  · -- a new block
    have hn := I.tr.n_le
    have hnn : σ.n ≤ n := (hn.1 _ h4).1
    have hdis : ∀ e, e ∈ al → e.1 ≠ it.i → e.2.1 ≠ n := by
      intro e he hne heq
      have hp := hn.2
      have := List.pairwise_iff_getElem.1 hp
      obtain ⟨x, hx, hxe⟩ := List.getElem_of_mem he
      obtain ⟨y, hy, hye⟩ := List.getElem_of_mem h4
      rcases Nat.lt_trichotomy x y with hxy | hxy | hxy
      · have := this x y hx hy hxy; rw [hxe, hye] at this; simp only at this; omega
      · subst hxy; rw [hxe] at hye; rw [hye] at hne; exact hne rfl
      · have := this y x hy hx hxy; rw [hxe, hye] at this; simp only at this; omega
    have hun := (ready_lst hr I.sz).2
    have hnl : ¬ Live σ al listed n := by
      rintro (h | ⟨e, he, hl, h⟩)
      · omega
      · by_cases hei : e.1 = it.i
        · rw [hei, hun] at hl; cases hl
        · exact hdis e he hei h
    obtain ⟨obj, Lc, g1, g2, g3, g4⟩ := (allocOp_run F w hnl h2 L.ids).out
    have hlive : ∀ b, (Live σ al listed b ∨ b = n) → Live σ al (listed.setIfInBounds it.i true) b := by
      rintro b (h | rfl)
      · rcases h with h | ⟨e, he, hl, h⟩
        · exact .inl h
        · exact .inr ⟨e, he, by rw [lst_set hls, hl]; rfl, h⟩
      · exact .inr ⟨_, h4, by rw [lst_set hls]; simp, rfl⟩
    have hk : ∀ b, Live σ al listed b → Live σ al (listed.setIfInBounds it.i true) b ∧ upd ι n Lc b = ι b := fun b hb => ⟨hlive b (.inl hb), upd_old fun e => hnl (e ▸ hb)⟩
    have hagree : ∀ b, b < σ.n → upd ι n Lc b = ι b := fun b hb => upd_old (by omega)
    have R' := I.rep.aside obj hagree
    have E' := I.ext.aside obj hagree
    have hsz : V.w0.heap.size ≤ w.heap.size := I.ext.size
    refine ⟨upd ι n Lc, w.alloc obj, putV M o'.dst (conc (upd ι n Lc) v), ?_, ?_⟩
    · rw [mch_agree hagree I.ds I.pan]
      exact .one (step_value ho (by rw [L.wanted, h1]) (nd' h1) (by rw [L.ev]; exact g1))
    · have hlst : ∀ e, e ∈ al → lst (listed.setIfInBounds it.i true) e.1 = true → e = (it.i, n, ob) ∨ (lst listed e.1 = true ∧ e.2.1 ≠ n) := by
        intro e he h
        by_cases hei : e.1 = it.i
        · exact .inl (h5 e he hei)
        · right
          rw [lst_set hls] at h
          exact ⟨by simpa [hei] using h, hdis e he hei⟩
      have hblk : ∀ e, e ∈ al → lst listed e.1 = true → (ι e.2.1).block < w.heap.size := fun e he hl => by
        have p := I.pend e he hl
        exact p.rep.lt (bndO_ne p.bnd)
      refine I.inert hm hit hr hna ho hv hk R' E' (ids_sub hlive g4) (fun e he h => ?_) fun e e' he he' h h' hne => ?_
      · rcases hlst e he h with rfl | ⟨hl, hne⟩
        · refine ⟨?_, h3, ?_, fun b hb hg => ?_⟩
          · simp only [upd_new]
            exact g3.mono fun b hb => ⟨hlive b hb, rfl⟩
          · simp only [upd_new, g2]; exact hsz
          · simp only [upd_new, g2]
            rw [hagree b hb]
            have := (I.rep.obj b hb).lt hg
            omega
        · have p := I.pend e he hl
          refine ⟨?_, p.bnd, ?_, fun b hb hg => ?_⟩
          · rw [upd_old hne]
            exact (p.rep.mono hk).congr (heap_alloc_old w obj (hblk e he hl))
          · rw [upd_old hne]; exact p.base
          · rw [upd_old hne, hagree b hb]; exact p.apart b hb hg
      · rcases hlst e he h with rfl | ⟨hl, hn1⟩
        · rcases hlst e' he' h' with rfl | ⟨hl', hn2⟩
          · exact (hne rfl).elim
          · simp only [upd_new, g2]
            rw [upd_old hn2]
            have := hblk e' he' hl'
            omega
        · rcases hlst e' he' h' with rfl | ⟨hl', hn2⟩
          · simp only [upd_new, g2]
            rw [upd_old hn1]
            have := hblk e he hl
            omega
          · rw [upd_old hn1, upd_old hn2]
            exact I.sep e e' he he' hl hl' hne

theorem drop_cons_tail {α : Type} {l : List α} {n : Nat} {x : α} {r : List α} (h : x :: r = l.drop n) : r = l.drop (n + 1) := by
  rw [← List.tail_drop, ← h, List.tail_cons]

/-- the plan moves over an operation that is no act and has been listed -/
theorem DInv.adv {it : PlanItem} (I : DInv V listed (it :: rest) seen s old T ds pan σ al ι w M) (hna : it.act = false) (hl : lst listed it.i = true) :
    ∃ T' σ' al', DInv V listed rest (it.i :: seen) s old T' ds pan σ' al' ι w M := by
  have base : ∀ {T' : List AV} {σ' : St} {al' : List Alc} (_ : Tr V.D V.call V.round V.isRound V.ops V.Te V.dsE V.panE V.σE rest (s :: old) T' ds pan σ' al')
      (_ : Rep V.D ι σ' w) (_ : Ext V.ι0 V.σ0 V.w0 ι σ' w) (_ : ∀ b, Live σ al listed b → Live σ' al' listed b) (_ : σ.n ≤ σ'.n)
      (_ : ∀ e, e ∈ al' → lst listed e.1 = true → Pend σ' al' listed ι w V.w0.heap.size e)
      (_ : ∀ e, e ∈ al' → e ∈ al), DInv V listed rest (it.i :: seen) s old T' ds pan σ' al' ι w M := by
    intro T' σ' al' htr hrep hext hlive hn hpend hsub
    have hkn : ∀ b, b < σ.n → b < σ'.n ∧ ι b = ι b := fun b hb => ⟨Nat.lt_of_lt_of_le hb hn, rfl⟩
    exact { tr := htr, chk := (chk_head I.chk).2, acts := by have := I.acts; simpa [List.filter_cons, hna] using this, sz := I.sz, cl := I.cl,
            seenL := fun j hj => by
              rcases List.mem_cons.1 hj with rfl | hj
              · exact hl
              · exact I.seenL j hj,
            cov := fun i hi => by
              rcases I.cov i hi with h | ⟨x, hx, rfl⟩
              · exact .inl (List.mem_cons_of_mem _ h)
              · rcases List.mem_cons.1 hx with rfl | hx
                · exact .inl List.mem_cons_self
                · exact .inr ⟨x, hx, rfl⟩,
            un := fun x hx ha => I.un x (List.mem_cons_of_mem _ hx) ha, rep := hrep, ext := hext, msz := I.msz,
            val := fun t v hv hno => by
              have := I.val t v hv fun x hx hxl => by
                rcases List.mem_cons.1 hx with rfl | hx
                · rw [hl] at hxl; cases hxl
                · exact hno x hx hxl
              exact ⟨this.1, ids_sub hlive this.2⟩,
            pend := hpend, sep := fun e e' he he' => I.sep e e' (hsub e he) (hsub e' he'), fit := I.fit, ds := idsDs_mono hkn I.ds, pan := idsPan_mono hkn pan I.pan }
  have htr := I.tr
  cases htr with
  | skip ho hw next =>
    rw [hna] at next
    exact ⟨_, _, _, base next I.rep I.ext (fun b hb => hb) (Nat.le_refl _) I.pend fun e he => he⟩
  | act ho hw ha => rw [hna] at ha; cases ha
  | pure ho hw ha hr next => exact ⟨_, _, _, base next I.rep I.ext (fun b hb => hb) (Nat.le_refl _) I.pend fun e he => he⟩
  | read ho hw ha hlo hs next => exact ⟨_, _, _, base next I.rep I.ext (fun b hb => hb) (Nat.le_refl _) I.pend fun e he => he⟩
  | @alloc _ _ _ _ _ _ _ al' o v ob ho hw ha hr hb next =>
    have p := I.pend _ List.mem_cons_self hl
    have hORep : ORep ι (· < σ.n + 1) ob (ι σ.n) w := (p.rep.restrict hb).mono fun b hb => ⟨hb.2, rfl⟩
    have hlive : ∀ b, Live σ ((it.i, σ.n, ob) :: al') listed b → Live (σ.push ob) al' listed b := by
      rintro b (h | ⟨e, he, hle, h⟩)
      · exact .inl (Nat.lt_succ_of_lt h)
      · rcases List.mem_cons.1 he with rfl | he
        · left; simp only at h; rw [← h]; exact Nat.lt_succ_self _
        · exact .inr ⟨e, he, hle, h⟩
    refine ⟨_, _, _, base next (I.rep.adopt hORep p.apart) (I.ext.adopt p.base) hlive (Nat.le_succ _) (fun e he hle => ?_) fun e he => List.mem_cons_of_mem _ he⟩
    have q := I.pend e (List.mem_cons_of_mem _ he) hle
    refine ⟨q.rep.mono fun b hb => ⟨hlive b hb, rfl⟩, q.bnd, q.base, fun b hb hg => ?_⟩
    simp only [St.push] at hb
    by_cases hbe : b = σ.n
    · subst hbe
      have hlt : σ.n < e.2.1 := (List.pairwise_cons.1 I.tr.n_le.2).1 e he
      exact I.sep (it.i, σ.n, ob) e List.mem_cons_self (List.mem_cons_of_mem _ he) hl hle (Nat.ne_of_lt hlt)
    · have hb1 : b < σ.n := by omega
      rw [getO_push_old hb1] at hg
      exact q.apart b hb1 hg

end
end Go.Dt
namespace Go.Dt

section
variable {V : Env} {listed : Array Bool} {rest : List PlanItem} {seen : List Nat} {s : St} {old : List St} {T : List AV} {ds : List ADef} {pan : Pan} {σ : St} {al : List Alc}
  {ι : Nat → Loc} {w : World} {M : Array Value}

structure Env.OK (V : Env) : Prop where
  F : Fits V.D V.P
  call : CallOK V.D V.P V.call
  round : RoundOK V.D V.P V.round
  kind : V.b.kind = V.X.kind
  isRound : V.b.roundOf = none ↔ V.isRound = false
  marks : marksOk V.ops (befA V.ops) = true

theorem DInv.act {it : PlanItem} (I : DInv V listed (it :: rest) seen s old T ds pan σ al ι w M) (K : V.OK) (ha : it.act = true) (hr : it.i ∈ Region.ready .any V.ops listed)
    (order : List Nat) (k : List Item) :
    ∃ T' ds' pan' σ' ι' w' M', Steps V.P (mch V (it.i :: order) k ι ds pan w M) (mch V order k ι' ds' pan' w' M') ∧
      DInv V (listed.setIfInBounds it.i true) rest (it.i :: seen) σ' (s :: old) T' ds' pan' σ' al ι' w' M' := by
  have hm := K.marks
  have hlt := (ready_lst hr I.sz).1
  have hls : it.i < listed.size := by rw [I.sz]; exact hlt
  have hset := fun j => lst_set (listed := listed) (i := it.i) hls j
  obtain ⟨⟨o0, hh⟩, hchk⟩ := chk_head I.chk
  have hnd := chk_ssa I.chk
  have hne : ∀ x, x ∈ rest → x.i ≠ it.i := hnd.1
  have hlook : ∀ {o : Oper}, V.ops[it.i]? = some o → Looks V σ al listed ι M o T := fun ho =>
    I.looks hm List.mem_cons_self hr ho fun t ht => I.tr.T_eq.2 t ((hnd.2.1 _ ho).1 t ht)
  -- the plan goes on
  have base : ∀ {T' : List AV} {ds' : List ADef} {pan' : Pan} {σ' : St} {ι' : Nat → Loc} {w' : World} {v : AV} {o : Oper} (_ : V.ops[it.i]? = some o)
      (_ : Tr V.D V.call V.round V.isRound V.ops V.Te V.dsE V.panE V.σE rest (σ' :: s :: old) T' ds' pan' σ' al) (_ : T' = put T o.dst v)
      (_ : Rep V.D ι' σ' w') (_ : Ext V.ι0 V.σ0 V.w0 ι' σ' w') (_ : ∀ b, Live σ al listed b → Live σ' al (listed.setIfInBounds it.i true) b ∧ ι' b = ι b)
      (_ : ids ι' (Live σ' al (listed.setIfInBounds it.i true)) v)
      (_ : ∀ e, e ∈ al → lst listed e.1 = true → Pend σ' al (listed.setIfInBounds it.i true) ι' w' V.w0.heap.size e)
      (_ : ∀ e, e ∈ al → ι' e.2.1 = ι e.2.1) (_ : V.X.fits pan') (_ : idsDs ι' (· < σ'.n) ds') (_ : idsPan ι' (· < σ'.n) pan'),
      DInv V (listed.setIfInBounds it.i true) rest (it.i :: seen) σ' (s :: old) T' ds' pan' σ' al ι' w' (putV M o.dst (conc ι' v)) := by
    intro T' ds' pan' σ' ι' w' v o ho htr hT' hrep hext hk hid hpend hal hfit hds hpan
    have hin : ∀ e, e ∈ al → lst (listed.setIfInBounds it.i true) e.1 = true → lst listed e.1 = true := fun e he h => by
      obtain ⟨x, hx, hxe⟩ := (htr.n_le.1 e he).2
      rw [hset, Bool.or_eq_true] at h
      rcases h with h | h
      · exact h
      · rw [beq_iff_eq] at h; exact (hne x hx (hxe.trans h)).elim
    exact { tr := htr, chk := hchk,
            acts := by
              have := I.acts
              simp only [List.filter_cons, ha, if_true, List.map_cons] at this
              exact drop_cons_tail this,
            sz := by simpa using I.sz, cl := I.cl.set hm I.sz hr,
            seenL := fun j hj => by
              rw [hset]
              rcases List.mem_cons.1 hj with rfl | hj
              · simp
              · rw [I.seenL j hj]; rfl,
            cov := fun i hi => by
              rcases I.cov i hi with h | ⟨x, hx, rfl⟩
              · exact .inl (List.mem_cons_of_mem _ h)
              · rcases List.mem_cons.1 hx with rfl | hx
                · exact .inl List.mem_cons_self
                · exact .inr ⟨x, hx, rfl⟩,
            un := fun x hx hxa => by
              rw [hset, I.un x (List.mem_cons_of_mem _ hx) hxa, Bool.false_or]
              simpa using hne x hx,
            rep := hrep, ext := hext, msz := by rw [← I.msz]; unfold putV; split <;> simp,
            val := fun t v' hv' hno => by
              by_cases hd : o.dst = some t
              · have htl : t < V.Te.length := (List.getElem?_eq_some_iff.1 hv').1
                have h1 := htr.T_eq.2 t ((hnd.2.1 _ ho).2 t hd)
                have hlen : T.length = V.Te.length := I.tr.T_eq.1
                rw [hT', hd, put_get_eq (by rw [hlen]; exact htl), hv'] at h1
                cases h1
                refine ⟨?_, hid⟩
                rw [hd]; simp only [putV]
                rw [Array.getElem?_setIfInBounds_self_of_lt (by rw [I.msz]; exact htl)]
              · have h1 := I.val t v' hv' fun x hx hxl hxd => by
                  rcases List.mem_cons.1 hx with rfl | hx
                  · rw [dstAt_eq ho] at hxd; exact hd hxd
                  · refine hno x hx ?_ hxd
                    rw [hset, hxl]; simpa using hne x hx
                refine ⟨?_, ids_mono hk v' h1.2⟩
                have hM : (putV M o.dst (conc ι' v))[t]? = M[t]? := by
                  unfold putV
                  split
                  · rename_i d hd'
                    exact Array.getElem?_setIfInBounds_ne fun e => hd (by rw [hd', e])
                  · rfl
                rw [hM, h1.1, conc_agree (fun b hb => (hk b hb).2) v' h1.2],
            pend := fun e he h => hpend e he (hin e he h),
            sep := fun e e' he he' h h' hne' => by
              rw [hal e he, hal e' he']
              exact I.sep e e' he he' (hin e he h) (hin e' he' h') hne',
            fit := hfit, ds := hds, pan := hpan }
  have htr := I.tr
  cases htr with
  | @skip _ _ _ _ _ _ _ _ o ho hw next =>
    rw [ha] at next
    have L := hlook ho
    have hlive : ∀ b, Live σ al listed b → Live σ al (listed.setIfInBounds it.i true) b := by
      rintro b (h | ⟨e, he, hl, h⟩)
      · exact .inl h
      · exact .inr ⟨e, he, by rw [hset, hl]; rfl, h⟩
    refine ⟨_, _, _, _, ι, w, putV M o.dst (conc ι .undef), .one ?_, base ho next rfl I.rep I.ext (fun b hb => ⟨hlive b hb, rfl⟩) (ids_undef _ _) (fun e he hl => ?_) (fun _ _ => rfl) I.fit I.ds I.pan⟩
    · rw [conc_undef]
      exact step_unwanted (by simp [ho, L.wanted, hw]) ho
    · have p := I.pend e he hl
      exact ⟨p.rep.mono fun b hb => ⟨hlive b hb, rfl⟩, p.bnd, p.base, p.apart⟩
  | @act _ _ _ _ _ _ _ _ o v0 ds' pan' σ' ho hw _ hb hrun hn next =>
    have L := hlook ho
    have hid : ∀ x, x ∈ o.op.operands → ids ι (· < σ.n) (evalO V.D T x) := fun x hx => ids_sub (fun b hb => hb.2) (ids_restrict _ (L.ids x hx) (hb x hx))
    obtain ⟨ι1, σ1, w1, h2, R1, E1⟩ := runOne_ok K.F K.call K.round K.kind K.isRound I.rep ho (by rw [L.wanted, hw]) L.ev hid I.ds I.pan I.fit hrun (rest := order) (k := k) (X := V.X) (b := V.b) (ops := V.ops)
    generalize hg : OpEnd.go (put T o.dst v0) ds' pan' σ' = r at h2
    cases h2 with
    | panic steps hv => cases hg
    | @go _ _ _ v _ _ steps hv hds hpan hfit =>
      simp only [OpEnd.go.injEq] at hg
      obtain ⟨hput, rfl, rfl, rfl⟩ := hg
      have hge : ∀ e, e ∈ al → σ'.n ≤ e.2.1 := fun e he => (next.n_le.1 e he).1
      let ι2 : Nat → Loc := fun b => if b < σ'.n then ι1 b else ι b
      have h12 : ∀ b, b < σ'.n → ι2 b = ι1 b := fun b hb => by simp [ι2, hb]
      have h21 : ∀ b, b < σ'.n → b < σ'.n ∧ ι2 b = ι1 b := fun b hb => ⟨hb, h12 b hb⟩
      have hal : ∀ e, e ∈ al → ι2 e.2.1 = ι e.2.1 := fun e he => by
        have := hge e he
        simp only [ι2]; rw [if_neg (by omega)]
      have hk : ∀ b, Live σ al listed b → Live σ' al (listed.setIfInBounds it.i true) b ∧ ι2 b = ι b := by
        rintro b (h | ⟨e, he, hl, rfl⟩)
        · have hb' : b < σ'.n := Nat.lt_of_lt_of_le h hn
          exact ⟨.inl hb', (h12 b hb').trans (E1.agree b h)⟩
        · exact ⟨.inr ⟨e, he, by rw [hset, hl]; rfl, rfl⟩, hal e he⟩
      have E2 := (I.ext.trans E1).iota h12
      refine ⟨_, _, _, _, ι2, w1, putV M o.dst (conc ι2 v), ?_, base ho next hput (R1.iota h12) E2 hk (ids_mono (fun b hb => ⟨.inl hb, h12 b hb⟩) v hv) (fun e he hl => ?_) hal hfit (idsDs_mono h21 hds) (idsPan_mono h21 _ hpan)⟩
      · unfold mch
        rw [concDs_agree h12 hds, V.X.agree h12 hpan, conc_agree h12 v hv]
        exact steps
      · have p := I.pend e he hl
        have hblk : (ι e.2.1).block < w.heap.size := p.rep.lt (bndO_ne p.bnd)
        refine ⟨?_, p.bnd, ?_, fun b hb hg => ?_⟩
        · rw [hal e he]
          exact (p.rep.mono hk).congr (E1.frame _ hblk fun b hb hmu => p.apart b hb (AO.isMut_ne hmu))
        · rw [hal e he]; exact p.base
        · rw [hal e he, h12 b hb]
          rcases E1.own b hb hg with h | ⟨b0, h1, h2, _, h3⟩
          · omega
          · rw [← h3]; exact p.apart b0 h1 h2
  | pure ho hw hna => rw [ha] at hna; cases hna
  | read ho hw hna => rw [ha] at hna; cases hna
  | alloc ho hw hna => rw [ha] at hna; cases hna

end
end Go.Dt
namespace Go.Dt

def Lin (ops : Array Oper) : Array Bool → List Nat → Prop
  | listed, [] => Region.ready .any ops listed = []
  | listed, i :: order => i ∈ Region.ready .any ops listed ∧ Lin ops (listed.setIfInBounds i true) order

theorem countP_lt {p q : Nat → Bool} {i : Nat} (hp : p i = true) (hq : q i = false) : ∀ {l : List Nat}, (∀ x, x ∈ l → q x = true → p x = true) → i ∈ l → l.countP q < l.countP p := by
  intro l
  induction l with
  | nil => intro _ hi; simp at hi
  | cons x l ih =>
    intro h hi
    have hle : l.countP q ≤ l.countP p := List.countP_mono_left fun y hy => h y (List.mem_cons_of_mem _ hy)
    simp only [List.countP_cons]
    by_cases hx : i = x
    · subst hx; simp [hp, hq]; omega
    · have hi' : i ∈ l := (List.mem_cons.1 hi).resolve_left hx
      have := ih (fun y hy => h y (List.mem_cons_of_mem _ hy)) hi'
      have h2 := h x List.mem_cons_self
      cases hqx : q x
      · simp; omega
      · simp [h2 hqx]; omega

theorem go_lin {ops : Array Oper} : ∀ (fuel t : Nat) (listed : Array Bool), listed.size = ops.size → (List.range ops.size).countP (fun i => !lst listed i) ≤ fuel →
    Lin ops listed (Region.linearise.go .any ops fuel t listed []) := by
  intro fuel
  induction fuel with
  | zero =>
    intro t listed hsz hc
    show Region.ready .any ops listed = []
    cases hr : Region.ready .any ops listed with
    | nil => rfl
    | cons x xs =>
      have hx : x ∈ Region.ready .any ops listed := by rw [hr]; exact List.mem_cons_self
      have := ready_lst hx hsz
      have h0 := List.countP_eq_zero.1 (Nat.le_zero.1 hc) x (List.mem_range.2 this.1)
      rw [this.2] at h0
      simp at h0
  | succ fuel ih =>
    intro t listed hsz hc
    simp only [Region.linearise.go]
    change Lin ops listed (match (Region.ready .any ops listed)[t % (Region.ready .any ops listed).length]? with
      | some i => Region.linearise.go .any ops fuel (t / (Region.ready .any ops listed).length) (listed.setIfInBounds i true) [i]
      | none => [].reverse)
    cases hi : (Region.ready .any ops listed)[t % (Region.ready .any ops listed).length]? with
    | none =>
      show Region.ready .any ops listed = []
      cases hr : Region.ready .any ops listed with
      | nil => rfl
      | cons x xs =>
        rw [hr] at hi
        have hlt : t % (x :: xs).length < (x :: xs).length := Nat.mod_lt _ (by simp)
        simp at hi
        simp at hlt
        omega
    | some i =>
      simp only []
      rw [linearise_go_acc, List.reverse_singleton, List.singleton_append]
      have hm := List.mem_of_getElem? hi
      have hri := ready_lst hm hsz
      refine ⟨hm, ih _ _ (by simpa using hsz) ?_⟩
      have hs := fun j => lst_set (listed := listed) (i := i) (by rw [hsz]; exact hri.1) j
      have := countP_lt (p := fun j => !lst listed j) (q := fun j => !lst (listed.setIfInBounds i true) j) (i := i) (by simp [hri.2]) (by simp [hs]) (l := List.range ops.size)
        (fun x _ hx => by simp only [hs] at hx; simp at hx ⊢; exact hx.1) (List.mem_range.2 hri.1)
      omega

section
variable {V : Env} {listed : Array Bool} {rest : List PlanItem} {seen : List Nat} {s : St} {old : List St} {T : List AV} {ds : List ADef} {pan : Pan} {σ : St} {al : List Alc}
  {ι : Nat → Loc} {w : World} {M : Array Value}

theorem DInv.lo (I : DInv V listed rest seen s old T ds pan σ al ι w M) (hm : marksOk V.ops (befA V.ops) = true) {it : PlanItem} (hit : it ∈ rest)
    (hr : it.i ∈ Region.ready .any V.ops listed) : it.lo ≤ old.length := by
  obtain ⟨o, seen', rest', hh⟩ := chk_mem I.chk it hit
  rcases hh.lo with h | ⟨a, ha, hb⟩
  · omega
  · rcases Nat.lt_or_ge old.length it.lo with h | h
    · have hmem : a ∈ V.as.drop old.length := by
        refine List.mem_of_getElem? (i := it.lo - 1 - old.length) ?_
        rw [List.getElem?_drop]
        have : old.length + (it.lo - 1 - old.length) = it.lo - 1 := by omega
        rw [this]; exact ha
      rw [← I.acts, List.mem_map] at hmem
      obtain ⟨x, hx, rfl⟩ := hmem
      rw [List.mem_filter] at hx
      obtain ⟨o', _, _, hh'⟩ := chk_mem I.chk x hx.1
      have hxl : x.i < V.ops.size := (Array.getElem?_eq_some_iff.1 hh'.ho).1
      have := ready_before hm I.cl I.sz hr hxl hb
      rw [I.un x hx.1 hx.2] at this
      cases this
    · exact h

theorem DInv.adv_to (hm : marksOk V.ops (befA V.ops) = true) {i : Nat} (hr : i ∈ Region.ready .any V.ops listed) : ∀ (rest : List PlanItem) {seen : List Nat} {T : List AV} {σ : St} {al : List Alc},
    DInv V listed rest seen s old T ds pan σ al ι w M → firstAct rest = some i →
    ∃ it post seen' T' σ' al', it.i = i ∧ it.act = true ∧ DInv V listed (it :: post) seen' s old T' ds pan σ' al' ι w M := by
  intro rest
  induction rest with
  | nil => intro seen T σ al _ h; simp [firstAct] at h
  | cons x rest ih =>
    intro seen T σ al I h
    cases hx : x.act with
    | true =>
      simp only [firstAct, hx, if_true, Option.some.injEq] at h
      exact ⟨x, rest, seen, T, σ, al, h, hx, I⟩
    | false =>
      have h' : firstAct rest = some i := by simpa [firstAct, hx] using h
      obtain ⟨⟨o, hh⟩, _⟩ := chk_head I.chk
      have hxl : x.i < V.ops.size := (Array.getElem?_eq_some_iff.1 hh.ho).1
      obtain ⟨T', σ', al', I'⟩ := I.adv hx (ready_before hm I.cl I.sz hr hxl (hh.first i h'))
      exact ih I' h'

theorem DInv.adv_all (hr : Region.ready .any V.ops listed = []) : ∀ (rest : List PlanItem) {seen : List Nat} {T : List AV} {σ : St} {al : List Alc},
    DInv V listed rest seen s old T ds pan σ al ι w M → ∃ seen' T' σ' al', DInv V listed [] seen' s old T' ds pan σ' al' ι w M := by
  intro rest
  induction rest with
  | nil => intro seen T σ al I; exact ⟨seen, T, σ, al, I⟩
  | cons x rest ih =>
    intro seen T σ al I
    obtain ⟨⟨o, hh⟩, _⟩ := chk_head I.chk
    have hxl : x.i < V.ops.size := (Array.getElem?_eq_some_iff.1 hh.ho).1
    have hl : lst listed x.i = true := by
      cases hl : lst listed x.i with
      | true => rfl
      | false =>
        have : x.i ∈ Region.ready .any V.ops listed := by
          refine mem_ready.2 ⟨?_, o, hh.ho, fun e he hb => I.seenL _ (hh.top e he hb)⟩
          have hlt : x.i < listed.size := by rw [I.sz]; exact hxl
          unfold lst at hl
          simp [hlt] at hl ⊢
          exact hl
        rw [hr] at this; simp at this
    have hx : x.act = false := by
      cases hx : x.act with
      | false => rfl
      | true => rw [I.un x List.mem_cons_self hx] at hl; cases hl
    obtain ⟨T', σ', al', I'⟩ := I.adv hx hl
    exact ih I'

theorem DInv.fin (I : DInv V listed [] seen s old T ds pan σ al ι w M) (k : List Item) :
    mch V [] k ι ds pan w M = mach V.X V.b ι V.Te V.dsE V.panE (.inRegion V.ops [] :: k) w ∧ Rep V.D ι V.σE w ∧ Ext V.ι0 V.σ0 V.w0 ι V.σE w ∧ IdsF ι (· < V.σE.n) V.X V.Te V.dsE V.panE := by
  have htr := I.tr
  generalize hs : s :: old = snaps at htr
  generalize hp : ([] : List PlanItem) = p at htr
  cases htr with
  | nil =>
    have hval : ∀ t v, V.Te[t]? = some v → M[t]? = some (conc ι v) ∧ ids ι (· < V.σE.n) v := fun t v hv => by
      have := I.val t v hv (by simp)
      exact ⟨this.1, ids_sub (fun b hb => by rcases hb with h | ⟨e, he, _⟩; exact h; simp at he) this.2⟩
    refine ⟨?_, I.rep, I.ext, I.fit, idsL_iff.2 fun v hv => ?_, I.ds, I.pan⟩
    · unfold mch mach
      have : M = (concL ι V.Te).toArray := by
        apply Array.ext_getElem?
        intro t
        simp only [List.getElem?_toArray, concL_getElem?]
        cases hv : V.Te[t]? with
        | some v => rw [(hval t v hv).1]; rfl
        | none =>
          rw [List.getElem?_eq_none_iff] at hv
          exact Array.getElem?_eq_none (by rw [I.msz]; exact hv)
      rw [this]
    · obtain ⟨t, ht, rfl⟩ := List.getElem_of_mem hv
      exact (hval t _ (List.getElem?_eq_getElem ht)).2
  | skip => cases hp
  | act => cases hp
  | pure => cases hp
  | read => cases hp
  | alloc => cases hp

theorem DInv.all (I : DInv V listed [] seen s old T ds pan σ al ι w M) : ∀ i, i < V.m → lst listed i = true := fun i hi => by
  rcases I.cov i hi with h | ⟨it, hit, _⟩
  · exact I.seenL i h
  · simp at hit

theorem DInv.adv_full (hall : ∀ i, i < V.m → lst listed i = true) : ∀ (rest : List PlanItem) {seen : List Nat} {T : List AV} {σ : St} {al : List Alc},
    DInv V listed rest seen s old T ds pan σ al ι w M → ∃ seen' T' σ' al', DInv V listed [] seen' s old T' ds pan σ' al' ι w M := by
  intro rest
  induction rest with
  | nil => intro seen T σ al I; exact ⟨seen, T, σ, al, I⟩
  | cons x rest ih =>
    intro seen T σ al I
    obtain ⟨⟨o, hh⟩, _⟩ := chk_head I.chk
    have hl : lst listed x.i = true := hall x.i hh.lt
    have hx : x.act = false := by
      cases hx : x.act with
      | false => rfl
      | true => rw [I.un x List.mem_cons_self hx] at hl; cases hl
    obtain ⟨T', σ', al', I'⟩ := I.adv hx hl
    exact ih I'

theorem DInv.fin' (I : DInv V listed [] seen s old T ds pan σ al ι w M) (order : List Nat) (k : List Item) :
    mch V order k ι ds pan w M = mach V.X V.b ι V.Te V.dsE V.panE (.inRegion V.ops order :: k) w := by
  have h := (I.fin k).1
  simp only [mch, mach] at h ⊢
  have h2 : M = (concL ι V.Te).toArray ∧ ds.map (concDef ι) = V.dsE.map (concDef ι) ∧ V.X.cs ι pan = V.X.cs ι V.panE := by
    have h3 := congrArg (fun m : Machine => m.gs) h
    simp only [lone] at h3
    have h4 := congrArg (fun g : Array Goroutine => g[0]?) h3
    simp only [List.getElem?_toArray, List.getElem?_cons_zero, Option.some.injEq, Goroutine.mk.injEq, on, Frame.mk.injEq] at h4
    exact ⟨h4.1.2.1, h4.1.2.2.2.1, h4.2.1⟩
  rw [h2.1, h2.2.1, h2.2.2]

theorem draw_main (K : V.OK) (_ : V.m ≤ V.ops.size) (hahead : ∀ i j, i < V.m → V.m ≤ j → j < V.ops.size → isBefore (befA V.ops) i j = true) (k : List Item) : ∀ (order : List Nat) (listed : Array Bool), Lin V.ops listed order →
    (∀ i, V.m ≤ i → lst listed i = false) →
    ∀ {rest : List PlanItem} {seen : List Nat} {old : List St} {T : List AV} {ds : List ADef} {pan : Pan} {σ : St} {al : List Alc} {ι : Nat → Loc} {w : World} {M : Array Value},
    DInv V listed rest seen σ old T ds pan σ al ι w M →
    ∃ order2 listed2 ι' w', Steps V.P (mch V order k ι ds pan w M) (mach V.X V.b ι' V.Te V.dsE V.panE (.inRegion V.ops order2 :: k) w') ∧
      Lin V.ops listed2 order2 ∧ listed2.size = V.ops.size ∧ (∀ i, i < V.m → lst listed2 i = true) ∧ (∀ i, V.m ≤ i → lst listed2 i = false) ∧
      Rep V.D ι' V.σE w' ∧ Ext V.ι0 V.σ0 V.w0 ι' V.σE w' ∧ IdsF ι' (· < V.σE.n) V.X V.Te V.dsE V.panE := by
  intro order
  induction order with
  | nil =>
    intro listed hlin hun rest seen old T ds pan σ al ι w M I
    obtain ⟨seen', T', σ', al', I'⟩ := DInv.adv_all hlin rest I
    exact ⟨[], listed, ι, w, I'.fin' [] k ▸ Steps.refl _ _, hlin, I'.sz, I'.all, hun, (I'.fin k).2⟩
  | cons i order ih =>
    intro listed hlin hun rest seen old T ds pan σ al ι w M I
    obtain ⟨hr, hlin'⟩ := hlin
    have hri := ready_lst hr I.sz
    by_cases hlt : V.m ≤ i
    · have hall : ∀ j, j < V.m → lst listed j = true := fun j hj => ready_before K.marks I.cl I.sz hr (by omega) (hahead j i hj hlt hri.1)
      obtain ⟨seen', T', σ', al', I'⟩ := DInv.adv_full hall rest I
      exact ⟨i :: order, listed, ι, w, I'.fin' (i :: order) k ▸ Steps.refl _ _, ⟨hr, hlin'⟩, I'.sz, hall, hun, (I'.fin k).2⟩
    · have hun' : ∀ j, V.m ≤ j → lst (listed.setIfInBounds i true) j = false := fun j hj => by
        rw [lst_set (by rw [I.sz]; exact hri.1), hun j hj]
        have : ¬ j = i := by omega
        simpa using this
      have hit : ∃ it, it ∈ rest ∧ it.i = i := (I.cov i (by omega)).resolve_left fun h => by rw [I.seenL i h] at hri; simp at hri
      obtain ⟨it, hit, rfl⟩ := hit
      cases ha : it.act with
      | false =>
        obtain ⟨ι', w', M', h1, I'⟩ := I.early K.F K.marks hit hr ha (I.lo K.marks hit hr) order k
        obtain ⟨o2, l2, ι2, w2, h2, h3⟩ := ih _ hlin' hun' I'
        exact ⟨o2, l2, ι2, w2, Steps.trans h1 h2, h3⟩
      | true =>
        have hf : firstAct rest = some it.i := by
          rcases chk_chain ha I.chk hit with h | ⟨p, hp, hpa, hb⟩
          · exact h
          · obtain ⟨o, _, _, hh⟩ := chk_mem I.chk p hp
            have := ready_before K.marks I.cl I.sz hr (Array.getElem?_eq_some_iff.1 hh.ho).1 hb
            rw [I.un p hp hpa] at this; cases this
        obtain ⟨x, post, seen', T', σ', al', hxi, hxa, I'⟩ := DInv.adv_to K.marks hr rest I hf
        rw [← hxi] at hr hlin' hun' ⊢
        obtain ⟨T2, ds2, pan2, σ2, ι2, w2, M2, h1, I2⟩ := I'.act K hxa hr order k
        obtain ⟨o2, l2, ι3, w3, h3, h4⟩ := ih _ hlin' hun' I2
        exact ⟨o2, l2, ι3, w3, Steps.trans h1 h3, h4⟩

end
end Go.Dt
namespace Go.Dt

section
variable {D : Tab} {P : Program} {eqT : List AV → List AV → Bool} {eqH : List AO → List AO → Bool}

theorem insE_ok (hT : ∀ a b, eqT a b = true → a = b) (hH : ∀ a b, eqH a b = true → a = b) {s : ES} : ∀ {l l' : List ES}, insE eqT eqH s l = .ok l' → (∀ x, x ∈ l → x ∈ l') ∧ s ∈ l'
  | [], l', h => by
    simp [insE] at h
    subst h
    exact ⟨by simp, by simp⟩
  | x :: l, l', h => by
    unfold insE at h
    cases h1 : Nat.beq x.mask s.mask with
    | true =>
      rw [h1] at h
      simp only [cond_true] at h
      cases h2 : eqT x.T s.T with
      | false => rw [h2] at h; cases h
      | true =>
        rw [h2] at h
        simp only [cond_true] at h
        cases h3 : Nat.beq x.n s.n with
        | false => rw [h3] at h; cases h
        | true =>
          rw [h3] at h
          simp only [cond_true] at h
          cases h4 : eqH x.l s.l with
          | false => rw [h4] at h; cases h
          | true =>
            rw [h4] at h
            simp only [cond_true, Except.ok.injEq] at h
            subst h
            have e : s = x := by
              have e1 := Nat.eq_of_beq_eq_true h1
              have e2 := hT _ _ h2
              have e3 := Nat.eq_of_beq_eq_true h3
              have e4 := hH _ _ h4
              cases s; cases x
              simp only at e1 e2 e3 e4
              subst e1; subst e2; subst e3; subst e4
              rfl
            exact ⟨fun y hy => hy, by rw [e]; simp⟩
    | false =>
      rw [h1] at h
      simp only [cond_false] at h
      split at h
      · rename_i l1 hl1
        simp at h
        subst h
        obtain ⟨k1, k2⟩ := insE_ok hT hH hl1
        exact ⟨fun y hy => by
          rcases List.mem_cons.1 hy with rfl | hy
          · simp
          · exact List.mem_cons_of_mem _ (k1 y hy), List.mem_cons_of_mem _ k2⟩
      · cases h

variable {ops : Array Oper} {m : Nat} {M : MTree}

/-- one step of one state is in the next level -/
def Next1 (D : Tab) (ops : Array Oper) (_ : Nat) (M : MTree) (s : ES) (i : Nat) (fr : List ES) : Prop :=
  ∃ o T σ, ops[i]? = some o ∧ stepE D ops o s.T { n := s.n, l := s.l, M := M } = .ok (T, σ) ∧ ({ mask := Nat.lor s.mask (Nat.shiftLeft 1 i), T := T, n := σ.n, l := σ.l } : ES) ∈ fr

theorem expE_ok (hT : ∀ a b, eqT a b = true → a = b) (hH : ∀ a b, eqH a b = true → a = b) {s : ES} : ∀ {is : List Nat} {acc fr : List ES}, expE D eqT eqH ops m M s is acc = .ok fr →
    (∀ x, x ∈ acc → x ∈ fr) ∧ ∀ i, i ∈ is → canE ops m s.mask i = true → Next1 D ops m M s i fr
  | [], acc, fr, h => by
    simp [expE] at h
    subst h
    exact ⟨fun _ hx => hx, by simp⟩
  | i :: is, acc, fr, h => by
    unfold expE at h
    cases hc : canE ops m s.mask i with
    | false =>
      rw [hc] at h
      simp only [cond_false] at h
      obtain ⟨k1, k2⟩ := expE_ok hT hH h
      refine ⟨k1, fun j hj hcj => ?_⟩
      rcases List.mem_cons.1 hj with rfl | hj
      · rw [hc] at hcj; cases hcj
      · exact k2 j hj hcj
    | true =>
      rw [hc] at h
      simp only [cond_true] at h
      split at h
      · cases h
      · rename_i o ho
        split at h
        · rename_i r hr
          split at h
          · rename_i acc1 hacc
            obtain ⟨k3, k4⟩ := insE_ok hT hH hacc
            obtain ⟨k1, k2⟩ := expE_ok hT hH h
            refine ⟨fun x hx => k1 x (k3 x hx), fun j hj hcj => ?_⟩
            rcases List.mem_cons.1 hj with rfl | hj
            · exact ⟨o, r.1, r.2, ho, hr, k1 _ k4⟩
            · exact k2 j hj hcj
          · cases h
        · cases h

theorem levE_ok (hT : ∀ a b, eqT a b = true → a = b) (hH : ∀ a b, eqH a b = true → a = b) {is : List Nat} : ∀ {fr acc fr' : List ES}, levE D eqT eqH ops m M is fr acc = .ok fr' →
    (∀ x, x ∈ acc → x ∈ fr') ∧ ∀ s, s ∈ fr → anyE ops m s.mask is = true ∧ ∀ i, i ∈ is → canE ops m s.mask i = true → Next1 D ops m M s i fr'
  | [], acc, fr', h => by
    simp [levE] at h
    subst h
    exact ⟨fun _ hx => hx, by simp⟩
  | s :: fr, acc, fr', h => by
    unfold levE at h
    cases ha : anyE ops m s.mask is with
    | false => rw [ha] at h; cases h
    | true =>
      rw [ha] at h
      simp only [cond_true] at h
      split at h
      · rename_i acc1 hacc
        obtain ⟨k1, k2⟩ := expE_ok hT hH hacc
        obtain ⟨k3, k4⟩ := levE_ok hT hH h
        refine ⟨fun x hx => k3 x (k1 x hx), fun t ht => ?_⟩
        rcases List.mem_cons.1 ht with rfl | ht
        · refine ⟨ha, fun i hi hc => ?_⟩
          obtain ⟨o, T, σ, h1, h2, h3⟩ := k2 i hi hc
          exact ⟨o, T, σ, h1, h2, k3 _ h3⟩
        · exact k4 t ht
      · cases h

theorem anyE_ok {mask : Nat} : ∀ {is : List Nat}, anyE ops m mask is = true → ∃ i, i ∈ is ∧ canE ops m mask i = true
  | i :: is, h => by
    unfold anyE at h
    cases hc : canE ops m mask i with
    | true => exact ⟨i, by simp, hc⟩
    | false =>
      rw [hc] at h
      obtain ⟨j, hj, hcj⟩ := anyE_ok h
      exact ⟨j, List.mem_cons_of_mem _ hj, hcj⟩

theorem fullE_ok {mask : Nat} : ∀ {is : List Nat}, fullE mask is = true → ∀ i, i ∈ is → mask.testBit i = true
  | j :: is, h, i, hi => by
    unfold fullE at h
    rw [bitOf_eq] at h
    cases hc : mask.testBit j with
    | false => rw [hc] at h; cases h
    | true =>
      rw [hc] at h
      rcases List.mem_cons.1 hi with rfl | hi
      · exact hc
      · exact fullE_ok h i hi

/-- what is listed, as a number -/
def Msk (m : Nat) (listed : Array Bool) (mask : Nat) : Prop := ∀ i, m ≤ i → mask.testBit i = lst listed i

theorem readyE_eq {listed : Array Bool} {mask : Nat} (hall : ∀ i, i < m → lst listed i = true) (hm : Msk m listed mask) :
    ∀ l : List Edge, readyE m mask l = true → ∀ e, e ∈ l → Region.binds .any e = true → lst listed e.on = true
  | e' :: l, h, e, he, hb => by
    unfold readyE at h
    rcases List.mem_cons.1 he with rfl | he
    · rw [hb] at h
      simp only [cond_true] at h
      rw [blt_dec] at h
      by_cases h1 : e.on < m
      · exact hall _ h1
      · simp only [h1, decide_false, cond_false] at h
        rw [bitOf_eq] at h
        cases h2 : mask.testBit e.on with
        | false => rw [h2] at h; cases h
        | true => rw [← hm e.on (Nat.le_of_not_lt h1), h2]
    · have h' : readyE m mask l = true := by
        cases hb' : Region.binds .any e' with
        | false => rw [hb'] at h; exact h
        | true =>
          rw [hb'] at h
          simp only [cond_true] at h
          cases h1 : Nat.blt e'.on m with
          | true => rw [h1] at h; exact h
          | false =>
            rw [h1] at h
            simp only [cond_false] at h
            cases h2 : bitOf mask e'.on with
            | true => rw [h2] at h; exact h
            | false => rw [h2] at h; cases h
      exact readyE_eq hall hm l h' e he hb

theorem readyE_of {listed : Array Bool} {mask : Nat} (hm : Msk m listed mask) :
    ∀ l : List Edge, (∀ e, e ∈ l → Region.binds .any e = true → lst listed e.on = true) → readyE m mask l = true
  | [], _ => rfl
  | e :: l, h => by
    unfold readyE
    have ih := readyE_of hm l fun e' he' => h e' (List.mem_cons_of_mem _ he')
    cases hb : Region.binds .any e with
    | false => exact ih
    | true =>
      simp only [cond_true]
      rw [blt_dec]
      by_cases h1 : e.on < m
      · simp only [h1, decide_true, cond_true]; exact ih
      · simp only [h1, decide_false, cond_false]
        have hl := h e (by simp) hb
        rw [bitOf_eq, hm e.on (Nat.le_of_not_lt h1), hl]
        exact ih

theorem stepE_one {call : CallT} {round : RoundT} {isRound : Bool} {o : Oper} {T T' : List AV} {σ σ' : St} {ds : List ADef} {pan : Pan} (hw : wantedA ops o T = true)
    (h : stepE D ops o T σ = .ok (T', σ')) : runOne D call round isRound o T ds pan σ = .ok (.go T' ds pan σ') := by
  unfold stepE at h
  rw [if_pos hw] at h
  split at h
  · rename_i hc
    simp only [bind_ok, pure_ok, Prod.mk.injEq] at h
    obtain ⟨v, hv, rfl, rfl⟩ := h
    simp [runOne, execOp, hc, hv, bind, Except.bind, pure, Except.pure]
  · rename_i hc
    simp only [bind_ok, pure_ok, Prod.mk.injEq] at h
    obtain ⟨v, hv, rfl, rfl⟩ := h
    simp [runOne, execOp, hc, hv, bind, Except.bind, pure, Except.pure]
  · rename_i hc
    split at h
    · rename_i t a x hop
      simp only [bind_ok, pure_ok, Prod.mk.injEq] at h
      obtain ⟨σ1, hv, rfl, rfl⟩ := h
      simp [runOne, execOp, hop, clsD, clsOf, actOp, hv, bind, Except.bind, pure, Except.pure]
    · simp at h
  · simp at h

theorem enum_ok (F : Fits D P) {call : CallT} {round : RoundT} (HC : CallOK D P call) (HR : RoundOK D P round) (hT : ∀ a b, eqT a b = true → a = b) (hH : ∀ a b, eqH a b = true → a = b)
    {isRound : Bool} {X : Ctx} {b : Frame} (hk : b.kind = X.kind) (hround : b.roundOf = none ↔ isRound = false) {k : List Item} {ds : List ADef} {pan : Pan} {is : List Nat} (his : ∀ i, i ∈ is ↔ m ≤ i ∧ i < ops.size) :
    ∀ (n : Nat) (fr : List ES) (se : ES), enumE D eqT eqH ops m M is n fr = .ok se → ∀ (order : List Nat) (listed : Array Bool), Lin ops listed order → listed.size = ops.size →
      (∀ i, i < m → lst listed i = true) → ∀ s, s ∈ fr → Msk m listed s.mask → ∀ {ι : Nat → Loc} {w : World}, Rep D ι { n := s.n, l := s.l, M := M } w → IdsF ι (· < s.n) X s.T ds pan →
      ∃ ι' w', Steps P (mach X b ι s.T ds pan (.inRegion ops order :: k) w) (mach X b ι' se.T ds pan (.inRegion ops [] :: k) w') ∧
        Rep D ι' { n := se.n, l := se.l, M := M } w' ∧ Ext ι { n := s.n, l := s.l, M := M } w ι' { n := se.n, l := se.l, M := M } w' ∧ IdsF ι' (· < se.n) X se.T ds pan := by
  intro n
  induction n with
  | zero =>
    intro fr se h order listed hlin hsz hall s hs hm ι w R I
    unfold enumE at h
    split at h
    · rename_i s0
      cases hf : fullE s0.mask is with
      | false => rw [hf] at h; cases h
      | true =>
        rw [hf] at h
        simp only [cond_true, Except.ok.injEq] at h
        subst h
        have hse : s = s0 := by simpa using hs
        subst hse
        cases order with
        | nil => exact ⟨ι, w, Steps.refl _ _, R, Ext.refl _ _ _, I⟩
        | cons i order =>
          exfalso
          have hri := ready_lst hlin.1 hsz
          by_cases hi : i < m
          · rw [hall i hi] at hri; simp at hri
          · have := fullE_ok hf i ((his i).2 ⟨Nat.le_of_not_lt hi, hri.1⟩)
            rw [hm i (Nat.le_of_not_lt hi), hri.2] at this
            cases this
    · cases h
  | succ n ih =>
    intro fr se h order listed hlin hsz hall s hs hm ι w R I
    unfold enumE at h
    split at h
    · rename_i fr' hlev
      obtain ⟨hany, hnext⟩ := (levE_ok hT hH hlev).2 s hs
      cases order with
      | nil =>
        exfalso
        obtain ⟨i, hi, hc⟩ := anyE_ok hany
        obtain ⟨hmi, hin⟩ := (his i).1 hi
        unfold canE at hc
        cases hb : bitOf s.mask i with
        | true => rw [hb] at hc; cases hc
        | false =>
          rw [hb] at hc
          simp only [cond_false] at hc
          split at hc
          · rename_i o ho
            have hli : lst listed i = false := by rw [← hm i hmi, ← bitOf_eq]; exact hb
            have : i ∈ Region.ready .any ops listed := by
              refine mem_ready.2 ⟨?_, o, ho, fun e he hbi => ?_⟩
              · have hlt : i < listed.size := by rw [hsz]; exact hin
                unfold lst at hli
                simp [hlt] at hli ⊢
                exact hli
              · exact readyE_eq hall hm _ hc e (by simpa using he) hbi
            rw [hlin] at this
            simp at this
          · cases hc
      | cons i order =>
        obtain ⟨hr, hlin'⟩ := hlin
        have hri := ready_lst hr hsz
        have hmi : m ≤ i := by
          rcases Nat.lt_or_ge i m with h1 | h1
          · rw [hall i h1] at hri; simp at hri
          · exact h1
        obtain ⟨_, o, ho, hedges⟩ := mem_ready.1 hr
        have hcan : canE ops m s.mask i = true := by
          unfold canE
          rw [bitOf_eq, hm i hmi, hri.2]
          simp only [cond_false, ho]
          exact readyE_of hm _ fun e he hb => hedges e (by simpa using he) hb
        obtain ⟨o', T', σ', ho', hst, hmem⟩ := hnext i ((his i).2 ⟨hmi, hri.1⟩) hcan
        rw [ho] at ho'
        cases ho'
        have hm' : Msk m (listed.setIfInBounds i true) (Nat.lor s.mask (Nat.shiftLeft 1 i)) := fun j hj1 => by
          have h1 : (Nat.lor s.mask (Nat.shiftLeft 1 i)).testBit j = (s.mask.testBit j || (Nat.shiftLeft 1 i).testBit j) := Nat.testBit_or _ _ _
          have h2 : (Nat.shiftLeft 1 i).testBit j = decide (i = j) := by
            have : Nat.shiftLeft 1 i = 2 ^ i := Nat.one_shiftLeft i
            rw [this, Nat.testBit_two_pow]
          rw [h1, h2, hm j hj1, lst_set (by rw [hsz]; exact hri.1)]
          congr 1
          by_cases e : i = j
          · subst e; simp
          · have : ¬ j = i := fun x => e x.symm
            simp [e, this]
        have hall' : ∀ j, j < m → lst (listed.setIfInBounds i true) j = true := fun j hj => by
          rw [lst_set (by rw [hsz]; exact hri.1), hall j hj]; rfl
        -- the machine's step
        have hstep : ∃ ι1 w1, Steps P (mach X b ι s.T ds pan (.inRegion ops (i :: order) :: k) w) (mach X b ι1 T' ds pan (.inRegion ops order :: k) w1) ∧
            Rep D ι1 σ' w1 ∧ Ext ι { n := s.n, l := s.l, M := M } w ι1 σ' w1 ∧ IdsF ι1 (· < σ'.n) X T' ds pan := by
          cases hw : wantedA ops o s.T with
          | true =>
            have h1 := stepE_one (D := D) (call := call) (round := round) (isRound := isRound) (ds := ds) (pan := pan) hw hst
            have hwc : Region.wanted o (yielded ops (concL ι s.T).toArray) = true := by rw [wanted_conc]; exact hw
            obtain ⟨ι1, σ1, w1, h2, R1, E1⟩ := runOne_ok F HC HR hk hround R ho hwc (rest := order) (k := k) (by rw [evT_eq R]) (fun x _ => evalO_ids R R.glob_lt I.T x) I.ds I.pan I.fit h1
            generalize hre : OpEnd.go T' ds pan σ' = re at h2
            cases h2 with
            | go steps hv hds hpan hfit =>
              cases hre
              rw [putV_agree E1 I.T] at steps
              exact ⟨ι1, w1, steps, R1, E1, ⟨hfit, put_ids (idsL_mono E1.k _ I.T) hv _, hds, hpan⟩⟩
            | panic => cases hre
          | false =>
            unfold stepE at hst
            rw [hw] at hst
            simp only [Bool.false_eq_true, if_false, Except.ok.injEq, Prod.mk.injEq] at hst
            obtain ⟨rfl, rfl⟩ := hst
            refine ⟨ι, w, ?_, R, Ext.refl _ _ _, ⟨I.fit, put_ids I.T (ids_undef _ _) _, I.ds, I.pan⟩⟩
            have h2 := step_unwanted (P := P) (b := b) (T := (concL ι s.T).toArray) (ds := ds.map (concDef ι)) (k := k) (cs := X.cs ι pan) (w := w) (ops := ops) (i := i) (rest := order) (o := o)
              (by rw [ho]; simp only [Option.map_some, Option.getD_some]; rw [wanted_conc]; exact hw) ho
            have h3 : putV (concL ι s.T).toArray o.dst undef = (concL ι (put s.T o.dst .undef)).toArray := by
              rw [← putV_conc, conc_undef]
            rw [h3] at h2
            exact .one h2
        obtain ⟨ι1, w1, hs1, R1, E1, I1⟩ := hstep
        have R1' : Rep D ι1 { n := σ'.n, l := σ'.l, M := M } w1 := ⟨R1.len, R1.glob, R1.gloc, R1.obj, R1.sep, R.mem⟩
        have E1' : Ext ι { n := s.n, l := s.l, M := M } w ι1 { n := σ'.n, l := σ'.l, M := M } w1 := ⟨E1.os, E1.tape, E1.output, E1.size, E1.n, E1.agree, E1.frame, E1.own⟩
        obtain ⟨ι2, w2, hs2, R2, E2, I2⟩ := ih fr' se h order _ hlin' (by simpa using hsz) hall' _ hmem hm' R1' I1
        exact ⟨ι2, w2, Steps.trans hs1 hs2, R2, E1'.trans E2, I2⟩
    · cases h

end
end Go.Dt
namespace Go.Dt

theorem beqO_ok' {a b : AO} (h : beqO a b = true) : a = b := by
  cases a <;> cases b <;> simp only [beqO, Bool.and_eq_true, beq_iff_eq, Bool.false_eq_true] at h
  · obtain ⟨⟨⟨h1, h2⟩, h3⟩, h4⟩ := h
    rw [beqL_ok _ _ h4, h1, h2, h3]
  · rfl
theorem beqH_ok' : ∀ {a b : List AO}, beqH a b = true → a = b
  | [], [], _ => rfl
  | [], _ :: _, h => by simp [beqH] at h
  | _ :: _, [], h => by simp [beqH] at h
  | x :: xs, y :: ys, h => by
    simp only [beqH, Bool.and_eq_true] at h
    rw [beqO_ok' h.1, beqH_ok' h.2]

theorem mem_drop_range (n m i : Nat) : i ∈ (List.range n).drop m ↔ m ≤ i ∧ i < n := by
  rw [List.mem_iff_getElem?]
  constructor
  · rintro ⟨j, hj⟩
    rw [List.getElem?_drop] at hj
    obtain ⟨h1, h2⟩ := List.getElem?_eq_some_iff.1 hj
    simp at h1 h2
    omega
  · rintro ⟨h1, h2⟩
    refine ⟨i - m, ?_⟩
    rw [List.getElem?_drop]
    have : m + (i - m) = i := by omega
    rw [this, List.getElem?_range h2]

section
variable {D : Tab} {P : Program}

inductive CodeEnd (P : Program) (X : Ctx) (b : Frame) (k : List Item) (m : Machine) : OpEnd → (Nat → Loc) → St → World → Prop
  | go {ι' : Nat → Loc} {σ' : St} {w' : World} {T : List AV} {ds : List ADef} {pan : Pan}
      (steps : Steps P m (mach X b ι' T ds pan k w')) (ids : IdsF ι' (· < σ'.n) X T ds pan) :
      CodeEnd P X b k m (.go T ds pan σ') ι' σ' w'
  | panic {ι' : Nat → Loc} {σ' : St} {w' : World} {T : List AV} {ds : List ADef} {pan : Pan} {v : AV} (todo : List Item)
      (steps : Steps P m (machP X b ι' T ds pan todo v w')) (ids : IdsF ι' (· < σ'.n) X T ds pan) (hv : Dt.ids ι' (· < σ'.n) v) :
      CodeEnd P X b k m (.panic v T ds pan σ') ι' σ' w'

theorem step_on_region {b : Frame} {M : Array Value} {ds : List Deferred} {id : Nat} {ops : Array Oper} {k : List Item} {cs : List Frame} {w : World} :
    step P (lone (on b M ds (.code (.region id ops false) :: k)) cs w) = .next (lone (on b M ds (.inRegion ops (List.range ops.size) :: k)) cs w) :=
  step_lone_go (by simp [stepG, stepG.exec, on])

theorem step_on_draw {b : Frame} {M : Array Value} {ds : List Deferred} {id : Nat} {ops : Array Oper} {k : List Item} {cs : List Frame} {w : World} :
    step P (lone (on b M ds (.code (.region id ops true) :: k)) cs w) =
      .next (lone (on b M ds (.inRegion ops (Region.schedule (P.follows .mixedOrders) ops (w.tape w.drawn (.order b.fn id))) :: k)) cs { w with drawn := w.drawn + 1 }) :=
  step_lone_go (by simp [stepG, stepG.exec, on, choose, Sem.run, Question.forced, Question.cut])

theorem step_on_end {b : Frame} {M : Array Value} {ds : List Deferred} {ops : Array Oper} {k : List Item} {cs : List Frame} {w : World} :
    step P (lone (on b M ds (.inRegion ops [] :: k)) cs w) = .next (lone (on b M ds k) cs w) :=
  step_lone_go (by simp [stepG, stepG.exec, on])

theorem region_ok (F : Fits D P) {call : CallT} {round : RoundT} (HC : CallOK D P call) (HR : RoundOK D P round) {isRound : Bool} {X : Ctx} {b : Frame} (hk : b.kind = X.kind)
    (hround : b.roundOf = none ↔ isRound = false) {ι : Nat → Loc} {σ : St} {w : World} {T : List AV} {ds : List ADef} {pan : Pan} {r : OpEnd} {id : Nat} {ops : Array Oper} {draw : Bool} {k : List Item}
    (R : Rep D ι σ w) (I : IdsF ι (· < σ.n) X T ds pan) (h : runRegion D call round isRound ops draw T ds pan σ = .ok r) :
    ∃ ι' σ' w', CodeEnd P X b k (mach X b ι T ds pan (.code (.region id ops draw) :: k) w) r ι' σ' w' ∧ Rep D ι' σ' w' ∧ Ext ι σ w ι' σ' w' := by
  unfold runRegion at h
  cases draw with
  | false =>
    simp only [Bool.false_eq_true, if_false] at h
    have hr : List.range ops.size = List.range' 0 ops.toList.length := by rw [List.range_eq_range']; simp
    obtain ⟨ι', σ', w', h1, R', E'⟩ := runSeq_ok F HC HR hk hround (k := k) ops.toList 0 rfl R I h
    refine ⟨ι', σ', w', ?_, R', E'⟩
    have h0 : Steps P (mach X b ι T ds pan (.code (.region id ops false) :: k) w) (mach X b ι T ds pan (.inRegion ops (List.range' 0 ops.toList.length) :: k) w) := by
      rw [← hr]; exact .one step_on_region
    cases h1 with
    | go s i => exact .go (Steps.trans (Steps.trans h0 s) (.one step_on_end)) i
    | panic t s i hv => exact .panic t (Steps.trans h0 s) i hv
  | true =>
    simp only [if_true] at h
    split at h
    · rename_i hok
      simp only [bind_ok] at h
      obtain ⟨r0, hdraw, h⟩ := h
      obtain ⟨Te, dsE, panE, σE, al, rfl, htr⟩ := runDraw_tr _ hdraw
      simp only [drawOk, Bool.and_eq_true] at hok
      obtain ⟨⟨⟨hble, hah⟩, hchk⟩, hcov⟩ := hok
      have hm := marks_before ops
      have hms : D.cut ops ≤ ops.size := Nat.le_of_ble_eq_true hble
      have hw : ({ w with drawn := w.drawn + 1 } : World) = w.drew := rfl
      let V : Env := { D, P, call, round, isRound, X, b, ops, m := D.cut ops, as := ((planM ops (D.cut ops)).filter (·.act)).map (·.i), Te, dsE, panE, σE, ι0 := ι, σ0 := σ, w0 := w }
      have K : V.OK := ⟨F, HC, HR, hk, hround, hm⟩
      have hahead : ∀ i j, i < V.m → V.m ≤ j → j < V.ops.size → isBefore (befA V.ops) i j = true := fun i j hi hj hjs => by
        simp only [aheadOk, idxs, List.all_eq_true, List.mem_range, Bool.or_eq_true] at hah
        rcases hah i hi j hjs with h1 | h1
        · rw [blt_dec] at h1
          have h2 : j < V.m := of_decide_eq_true h1
          omega
        · exact h1
      have hlin : Lin ops (Array.replicate ops.size false) (Region.schedule (P.follows .mixedOrders) ops (w.tape w.drawn (.order b.fn id))) := by
        simp only [Region.schedule, F.mixed, Bool.true_or, if_true, Region.linearise]
        refine go_lin _ _ _ (by simp) ?_
        exact Nat.le_trans (List.countP_le_length) (by simp)
      have hun : ∀ i, lst (Array.replicate ops.size false) i = false := fun i => by
        unfold lst
        simp only [Array.getD_eq_getD_getElem?, Array.getElem?_replicate]
        split <;> rfl
      have I0 : DInv V (Array.replicate ops.size false) (planM ops (D.cut ops)) [] σ [] T ds pan σ al ι w.drew (concL ι T).toArray :=
        { tr := htr, chk := hchk, acts := by simp [V], sz := by simp [V], cl := fun i j _ hl => (by rw [hun] at hl; cases hl), seenL := by simp,
          cov := fun i hi => by
            right
            simp only [List.all_eq_true, List.mem_range, List.any_eq_true, beq_iff_eq] at hcov
            exact hcov i hi,
          un := fun _ _ _ => hun _, rep := R.drew, ext := Ext.drew _ _ _, msz := (by have := htr.T_eq.1; simp [V, this]),
          val := fun t v hv hno => by
            have hwr : writes ops (planM ops (D.cut ops)) t = false := by
              simp only [writes, List.any_eq_false]
              intro it hit
              simpa using hno it hit (hun _)
            have hTt : T[t]? = some v := (htr.T_eq.2 t hwr).trans hv
            refine ⟨by simp [hTt], ids_sub (fun b hb => .inl hb) (idsL_get I.T hTt)⟩,
          pend := fun _ _ hl => (by rw [hun] at hl; cases hl), sep := fun _ _ _ _ hl => (by rw [hun] at hl; cases hl),
          fit := I.fit, ds := I.ds, pan := I.pan }
      obtain ⟨o2, l2, ι', w', hs, hlin2, hsz2, hall2, hun2, R', E', I'⟩ := draw_main K hms hahead k _ _ hlin (fun i _ => hun i) I0
      have hs0 := Steps.trans (.one (step_on_draw (P := P) (b := b) (M := (concL ι T).toArray) (ds := ds.map (concDef ι)) (id := id) (ops := ops) (k := k) (cs := X.cs ι pan) (w := w))) hs
      by_cases hone : ops.size = D.cut ops + 1
      · simp only [hone, if_true] at h
        split at h
        · rename_i hcan
          have hmsk : Msk (D.cut ops) l2 0 := fun i hi => by rw [hun2 i hi]; simp
          have hmlt : D.cut ops < ops.size := by omega
          unfold canE at hcan
          have hb0 : bitOf 0 (D.cut ops) = false := by rw [bitOf_eq]; simp
          rw [hb0] at hcan
          simp only [cond_false] at hcan
          split at hcan
          · rename_i o ho
            have hready : D.cut ops ∈ Region.ready .any ops l2 := by
              refine mem_ready.2 ⟨?_, o, ho, fun e he hbi => readyE_eq hall2 hmsk _ hcan e (by simpa using he) hbi⟩
              have hli := hun2 (D.cut ops) (Nat.le_refl _)
              have hlt : D.cut ops < l2.size := by rw [hsz2]; exact hmlt
              unfold lst at hli
              simp [hlt] at hli ⊢
              exact hli
            have ho2 : o2 = [D.cut ops] := by
              cases o2 with
              | nil => rw [hlin2] at hready; simp at hready
              | cons i o3 =>
                obtain ⟨hr, hlin3⟩ := hlin2
                have hri := ready_lst hr hsz2
                have hi : i = D.cut ops := by
                  rcases Nat.lt_or_ge i (D.cut ops) with h1 | h1
                  · rw [hall2 i h1] at hri; simp at hri
                  · have h2 : i < ops.size := hri.1
                    omega
                subst hi
                cases o3 with
                | nil => rfl
                | cons j o3 =>
                  exfalso
                  have hrj := ready_lst hlin3.1 (by simpa using hsz2)
                  rw [lst_set (by rw [hsz2]; exact hmlt)] at hrj
                  obtain ⟨hj1, hj2⟩ := hrj
                  rcases Nat.lt_or_ge j (D.cut ops) with h1 | h1
                  · rw [hall2 j h1] at hj2; simp at hj2
                  · have h2 : j < ops.size := hj1
                    have : j = D.cut ops := by omega
                    subst this; simp at hj2
            subst ho2
            have hlen : (ops.toList.drop (D.cut ops)).length = 1 := by simp; omega
            obtain ⟨ι2, σ2, w2, hreg, R2, E2⟩ := runSeq_ok F HC HR hk hround (k := k) (ops.toList.drop (D.cut ops)) (D.cut ops) rfl R' I' h
            rw [hlen] at hreg
            refine ⟨ι2, σ2, w2, ?_, R2, E'.trans E2⟩
            cases hreg with
            | go s i => exact .go (Steps.trans (Steps.trans hs0 s) (.one step_on_end)) i
            | panic t s i hv => exact .panic t (Steps.trans hs0 s) i hv
          · cases hcan
        · cases h
      simp only [hone, if_false] at h
      simp only [bind_ok, pure_ok] at h
      obtain ⟨⟨T2, σ2⟩, hrest, rfl⟩ := h
      unfold runRest at hrest
      split at hrest
      · rename_i hle
        simp only [Except.ok.injEq, Prod.mk.injEq] at hrest
        obtain ⟨rfl, rfl⟩ := hrest
        have ho2 : o2 = [] := by
          cases o2 with
          | nil => rfl
          | cons i o2 =>
            have hri := ready_lst hlin2.1 hsz2
            have h1 : i < V.m := Nat.lt_of_lt_of_le hri.1 hle
            rw [hall2 i h1] at hri
            simp at hri
        subst ho2
        exact ⟨ι', σE, w', .go (Steps.trans hs0 (.one step_on_end)) I', R', E'⟩
      · split at hrest
        · rename_i se hse
          simp only [Except.ok.injEq, Prod.mk.injEq] at hrest
          obtain ⟨rfl, rfl⟩ := hrest
          have hmsk : Msk (D.cut ops) l2 0 := fun i hi => by rw [hun2 i hi]; simp
          obtain ⟨ι2, w2, hs2, R2, E2, I2⟩ := enum_ok F HC HR beqL_ok (fun a b h => beqH_ok' h) hk hround (k := k) (ds := dsE) (pan := panE) (is := tailIx ops (D.cut ops))
            (fun i => by
              simp only [tailIx, mem_drop_range]) _ _ _ hse o2 l2 hlin2 hsz2 hall2 { mask := 0, T := Te, n := σE.n, l := σE.l } (by simp) hmsk (ι := ι') (w := w') R' I'
          exact ⟨ι2, _, w2, .go (Steps.trans hs0 (Steps.trans hs2 (.one step_on_end))) I2, R2, E'.trans E2⟩
        · cases hrest
    · simp at h

end
end Go.Dt
namespace Go.Dt

theorem nodup_ok : ∀ {l : List Nat}, nodup l = true → l.Nodup
  | [], _ => List.nodup_nil
  | x :: l, h => by
    simp only [nodup, Bool.and_eq_true, Bool.not_eq_true', List.contains_eq_mem, decide_eq_false_iff_not] at h
    exact List.nodup_cons.2 ⟨h.1, nodup_ok h.2⟩

theorem getO_gone {σ : St} {b : Nat} (h : σ.getO b ≠ .gone) : b < σ.n := by
  unfold St.getO at h
  split at h
  · assumption
  · exact (h rfl).elim

theorem refsL_ne {src : St} {f : AV → List Nat} (hf : ∀ v s, s ∈ f v → src.getO s ≠ .gone) : ∀ l s, s ∈ refsL f l → src.getO s ≠ .gone
  | [], s, h => by simp [refsL] at h
  | x :: l, s, h => by
    simp only [refsL, List.mem_append] at h
    rcases h with h | h
    · exact hf _ _ h
    · exact refsL_ne hf l s h

theorem refs_ne (src : St) : ∀ n v s, s ∈ refsA src n v → src.getO s ≠ .gone := by
  intro n
  induction n with
  | zero => intro v s h; simp [refsA] at h
  | succ n ih =>
    intro v s h
    cases v with
    | slice b o len cap sz =>
      simp only [refsA] at h
      split at h
      · rename_i cs e ow sz' hb
        rcases List.mem_cons.1 h with h1 | h1
        · subst h1; rw [hb]; simp
        · exact refsL_ne ih _ _ h1
      · simp at h
    | iface t v => simp only [refsA] at h; exact ih _ _ h
    | agg l => simp only [refsA] at h; exact refsL_ne ih _ _ h
    | tuple l => simp only [refsA] at h; exact refsL_ne ih _ _ h
    | _ => simp [refsA] at h

section
variable {D : Tab} {ι ι' : Nat → Loc} {σ : St} {w : World}

/-- an object that lies in memory already is taken into the heap -/
theorem Rep.adopt' (R : Rep D ι σ w) {o : AO} {L : Loc} (ho : ORep (upd ι σ.n L) (· < σ.n + 1) o L w)
    (hs : ∀ b, b < σ.n → σ.getO b ≠ .gone → ((σ.getO b).isMut = true ∨ o.isMut = true) → (ι b).block ≠ L.block) :
    Rep D (upd ι σ.n L) (σ.push o) w where
  len := by simp [St.push, R.len]
  glob := Nat.le_succ_of_le R.glob
  gloc := fun g hg => by rw [upd_old (by have := R.glob; omega)]; exact R.gloc g hg
  obj := fun b hb => by
    simp only [St.push] at hb
    by_cases he : b = σ.n
    · subst he; rw [getO_push_new, upd_new]; exact ho
    · have hb1 : b < σ.n := by omega
      rw [getO_push_old hb1, upd_old he]
      exact (R.obj b hb1).mono kpush
  sep := fun b b' hb hb' hne hm hg => by
    simp only [St.push] at hb hb'
    by_cases he : b = σ.n
    · subst he
      have hb1 : b' < σ.n := by omega
      rw [getO_push_old hb1] at hg
      rw [getO_push_new] at hm
      rw [upd_new, upd_old (by omega)]
      exact (hs b' hb1 hg (.inr hm)).symm
    · have hb1 : b < σ.n := by omega
      rw [getO_push_old hb1] at hm
      rw [upd_old he]
      by_cases he' : b' = σ.n
      · subst he'; rw [upd_new]; exact hs b hb1 (AO.isMut_ne hm) (.inl hm)
      · have hb2 : b' < σ.n := by omega
        rw [getO_push_old hb2] at hg
        rw [upd_old he']
        exact R.sep b b' hb1 hb2 hne hm hg
  mem := R.mem
end

/-- may the blocks be taken into the heap? -/
def Room (own : Bool) (ι : Nat → Loc) (dst : St) (ιs : Nat → Loc) (refs : List Nat) : Prop :=
  match own with
  | true => ∀ s, s ∈ refs → ∀ b, b < dst.n → dst.getO b ≠ .gone → (ι b).block ≠ (ιs s).block
  | false => ∀ b, b < dst.n → (dst.getO b).isMut = false

structure Copied (D : Tab) (own : Bool) (ιs : Nat → Loc) (src : St) (w : World) (refs : List Nat) (ι : Nat → Loc) (dst : St) (ι' : Nat → Loc) (dst' : St) : Prop where
  rep : Rep D ι' dst' w
  n : dst.n ≤ dst'.n
  agree : ∀ b, b < dst.n → ι' b = ι b
  old : ∀ b, b < dst.n → dst'.getO b = dst.getO b
  M : dst'.M = dst.M
  new : ∀ b, dst.n ≤ b → b < dst'.n → (dst'.getO b).isMut = own ∧ ∃ s, s ∈ refs ∧ (ι' b).block = (ιs s).block
  own : own = true → ∀ s, s ∈ refs → (src.getO s).isMut = true

theorem Copied.k {D : Tab} {own : Bool} {ιs ι ι' : Nat → Loc} {src dst dst' : St} {w : World} {refs : List Nat} (h : Copied D own ιs src w refs ι dst ι' dst') :
    ∀ b, b < dst.n → b < dst'.n ∧ ι' b = ι b := fun b hb => ⟨Nat.lt_of_lt_of_le hb h.n, h.agree b hb⟩

theorem takeN_ok' {cs l : List AV} {o n : Nat} (h : takeN cs o n = .ok l) : l = (cs.drop o).take n ∧ o + n ≤ cs.length ∨ (l = (cs.drop o).take n ∧ n = 0) := by
  unfold takeN at h
  split at h
  · rename_i hl
    simp at h
    subst h
    simp only [List.length_take, List.length_drop] at hl
    by_cases h0 : n = 0
    · exact .inr ⟨rfl, h0⟩
    · exact .inl ⟨rfl, by omega⟩
  · simp at h

/-- what a copy of a value gives -/
def CopyOK (D : Tab) (own : Bool) (ιs : Nat → Loc) (src : St) (w : World) (f : AV → St → R (AV × St)) (rf : AV → List Nat) : Prop :=
  ∀ v dst v' dst', f v dst = .ok (v', dst') → ∀ ι, Rep D ι dst w → ids ιs (· < src.n) v → (own = true → (rf v).Nodup) → Room own ι dst ιs (rf v) →
    ∃ ι', Copied D own ιs src w (rf v) ι dst ι' dst' ∧ conc ι' v' = conc ιs v ∧ ids ι' (· < dst'.n) v'

theorem Copied.refl {D : Tab} {own : Bool} {ιs ι : Nat → Loc} {src dst : St} {w : World} (R : Rep D ι dst w) : Copied D own ιs src w [] ι dst ι dst :=
  ⟨R, Nat.le_refl _, fun _ _ => rfl, fun _ _ => rfl, rfl, fun b h1 h2 => by omega, by simp⟩

theorem copyL_ok {D : Tab} {own : Bool} {ιs : Nat → Loc} {src : St} {w : World} (Rs : Rep D ιs src w) {f : AV → St → R (AV × St)} {rf : AV → List Nat} (hne : ∀ v s, s ∈ rf v → src.getO s ≠ .gone)
    (hf : CopyOK D own ιs src w f rf) : ∀ l dst l' dst', copyL f l dst = .ok (l', dst') → ∀ ι, Rep D ι dst w → idsL ιs (· < src.n) l → (own = true → (refsL rf l).Nodup) → Room own ι dst ιs (refsL rf l) →
      ∃ ι', Copied D own ιs src w (refsL rf l) ι dst ι' dst' ∧ concL ι' l' = concL ιs l ∧ idsL ι' (· < dst'.n) l' := by
  intro l
  induction l with
  | nil =>
    intro dst l' dst' h ι R hid hnd hroom
    simp [copyL] at h
    obtain ⟨rfl, rfl⟩ := h
    exact ⟨ι, Copied.refl R, rfl, trivial⟩
  | cons x l ihl =>
    intro dst l' dst' h ι R hid hnd hroom
    simp only [copyL, bind_ok, pure_ok, Prod.mk.injEq] at h
    obtain ⟨⟨x1, dst1⟩, h1, ⟨l1, dst2⟩, h2, rfl, rfl⟩ := h
    simp only [refsL] at hnd hroom ⊢
    have hroomx : Room own ι dst ιs (rf x) := by
      cases own with
      | false => exact hroom
      | true => exact fun s hs => hroom s (List.mem_append_left _ hs)
    obtain ⟨ι1, hc1, hx1, hx2⟩ := hf _ _ _ _ h1 ι R hid.1 (fun e => (List.nodup_append.1 (hnd e)).1) hroomx
    have hrooml : Room own ι1 dst1 ιs (refsL rf l) := by
      cases own with
      | false =>
        intro b hb
        by_cases hb1 : b < dst.n
        · rw [hc1.old b hb1]; exact hroom b hb1
        · exact (hc1.new b (Nat.le_of_not_lt hb1) hb).1
      | true =>
        intro s hs b hb hg
        by_cases hb1 : b < dst.n
        · rw [hc1.agree b hb1]
          rw [hc1.old b hb1] at hg
          exact hroom s (List.mem_append_right _ hs) b hb1 hg
        · obtain ⟨_, s', hs', he⟩ := hc1.new b (Nat.le_of_not_lt hb1) hb
          rw [he]
          have hm := hc1.own rfl s' hs'
          have hne' : s' ≠ s := (List.nodup_append.1 (hnd rfl)).2.2 s' hs' s hs
          have hsg := refsL_ne hne l s hs
          exact Rs.sep s' s (getO_gone (AO.isMut_ne hm)) (getO_gone hsg) hne' hm hsg
    obtain ⟨ι2, hc2, hl1, hl2⟩ := ihl _ _ _ h2 ι1 hc1.rep hid.2 (fun e => (List.nodup_append.1 (hnd e)).2.1) hrooml
    refine ⟨ι2, ⟨hc2.rep, Nat.le_trans hc1.n hc2.n, fun b hb => ?_, fun b hb => ?_, hc2.M.trans hc1.M, fun b hb1 hb2 => ?_, fun e s hs => ?_⟩, ?_, ?_⟩
    · rw [hc2.agree b (Nat.lt_of_lt_of_le hb hc1.n)]; exact hc1.agree b hb
    · rw [hc2.old b (Nat.lt_of_lt_of_le hb hc1.n)]; exact hc1.old b hb
    · by_cases hb3 : b < dst1.n
      · obtain ⟨h3, s, h4, h5⟩ := hc1.new b hb1 hb3
        rw [hc2.old b hb3, hc2.agree b hb3]
        exact ⟨h3, s, List.mem_append_left _ h4, h5⟩
      · obtain ⟨h3, s, h4, h5⟩ := hc2.new b (Nat.le_of_not_lt hb3) hb2
        exact ⟨h3, s, List.mem_append_right _ h4, h5⟩
    · rcases List.mem_append.1 hs with h3 | h3
      · exact hc1.own e s h3
      · exact hc2.own e s h3
    · simp only [concL, hl1]
      rw [← hx1, conc_agree hc2.agree x1 hx2]
    · exact ⟨ids_mono hc2.k x1 hx2, hl2⟩

theorem copy_ok {D : Tab} (own : Bool) {ιs : Nat → Loc} {src : St} {w : World} (Rs : Rep D ιs src w) : ∀ n, CopyOK D own ιs src w (copyA own src n) (refsA src n) := by
  intro n
  induction n with
  | zero => intro v dst v' dst' h; simp [copyA] at h
  | succ n ih =>
    intro v dst v' dst' h ι R hid hnd hroom
    have refl : ∀ {ι : Nat → Loc} {dst : St}, Rep D ι dst w → Copied D own ιs src w [] ι dst ι dst := fun R => Copied.refl R
    have ihL := copyL_ok Rs (refs_ne src n) ih
    cases v with
    | base v =>
      simp [copyA] at h
      obtain ⟨rfl, rfl⟩ := h
      exact ⟨ι, refl R, by simp [conc], trivial⟩
    | iface t v =>
      simp only [copyA, bind_ok, pure_ok, Prod.mk.injEq] at h
      obtain ⟨⟨v1, dst1⟩, h, rfl, rfl⟩ := h
      obtain ⟨ι', hc, h1, h2⟩ := ih _ _ _ _ h ι R hid (by simpa [refsA] using hnd) (by simpa [refsA] using hroom)
      exact ⟨ι', by simpa [refsA] using hc, by simp [conc, h1], by simpa [ids] using h2⟩
    | agg l =>
      simp only [copyA, bind_ok, pure_ok, Prod.mk.injEq] at h
      obtain ⟨⟨v1, dst1⟩, h, rfl, rfl⟩ := h
      obtain ⟨ι', hc, h1, h2⟩ := ihL _ _ _ _ h ι R hid (by simpa [refsA] using hnd) (by simpa [refsA] using hroom)
      exact ⟨ι', by simpa [refsA] using hc, by simp [conc, h1], by simpa [ids] using h2⟩
    | tuple l =>
      simp only [copyA, bind_ok, pure_ok, Prod.mk.injEq] at h
      obtain ⟨⟨v1, dst1⟩, h, rfl, rfl⟩ := h
      obtain ⟨ι', hc, h1, h2⟩ := ihL _ _ _ _ h ι R hid (by simpa [refsA] using hnd) (by simpa [refsA] using hroom)
      exact ⟨ι', by simpa [refsA] using hc, by simp [conc, h1], by simpa [ids] using h2⟩
    | func f a c =>
      cases f with
      | func g =>
        cases a with
        | nil =>
          cases c with
          | nil =>
            simp [copyA] at h
            obtain ⟨rfl, rfl⟩ := h
            exact ⟨ι, by simpa [refsA] using refl R, by simp [conc, concL], by simp [ids, idsL]⟩
          | cons => simp [copyA] at h
        | cons => simp [copyA] at h
      | _ => simp [copyA] at h
    | slice b o len cap sz =>
      simp only [copyA] at h
      split at h
      · rename_i cs elem ow sz' hb
        split at h
        · rename_i hchk
          simp only [bind_ok, pure_ok, Prod.mk.injEq] at h
          obtain ⟨l, htk, ⟨l', dst1⟩, hcp, rfl, rfl⟩ := h
          have hbn : b < src.n := getO_gone (by rw [hb]; simp)
          have hO := Rs.obj b hbn
          rw [hb] at hO
          obtain ⟨hcs, hsz, arr, fz, hheap, hcell, hown⟩ := hO
          have hl : l = (cs.drop o).take (len * sz) := by
            rcases takeN_ok' htk with h1 | h1
            · exact h1.1
            · exact h1.1
          have hrefs : refsA src (n + 1) (.slice b o len cap sz) = b :: refsL (refsA src n) l := by
            simp only [refsA, hb, hl]
          rw [hrefs] at hnd hroom
          simp only [Bool.and_eq_true, Bool.or_eq_true, Bool.not_eq_true'] at hchk
          have hidl : idsL ιs (· < src.n) l := by rw [hl]; exact idsL_take (idsL_drop hcs _) _
          have hroom1 : Room own ι dst ιs (refsL (refsA src n) l) := by
            cases own with
            | false => exact hroom
            | true => exact fun s hs => hroom s (List.mem_cons_of_mem _ hs)
          obtain ⟨ι1, hc, hconc, hids⟩ := ihL _ _ _ _ hcp ι R hidl (fun e => (List.nodup_cons.1 (hnd e)).2) hroom1
          -- the new block
          have key : ∃ cz, conc ιs (.slice b o len cap sz) = .slice (some ((ιs b).at o)) len cz ∧ 0 < sz ∧ len ≤ cz ∧ (own = true → (ιs b).shift + o + cz * sz ≤ arr.size) := by
            cases cap with
            | none =>
              obtain ⟨_, h1, h2, h3⟩ := hid
              refine ⟨(ιs b).capz - o / (ιs b).sz, by simp only [conc], h2, by rw [h1]; omega, fun e => ?_⟩
              have hmod : o % sz = 0 := by
                have := hchk.2
                rw [e] at this
                simpa [capChk] using this
              have how : ow = true := by
                rcases hchk.1 with h4 | h4
                · rw [e] at h4; cases h4
                · exact h4.1
              have hsz2 : sz' = sz := by omega
              obtain ⟨_, h5, _⟩ := hown how
              rw [h1]
              have h6 : o = sz * (o / sz) := by
                have := Nat.div_add_mod o sz
                omega
              have h7 : o / sz ≤ (ιs b).capz := by omega
              have h8 : ((ιs b).capz - o / sz) * sz + o = (ιs b).capz * sz := by
                conv => lhs; rhs; rw [h6]
                rw [Nat.sub_mul, Nat.mul_comm sz]
                have : o / sz * sz ≤ (ιs b).capz * sz := Nat.mul_le_mul_right _ h7
                omega
              rw [hsz2] at h5
              omega
            | some c =>
              have h4 := hchk.2
              simp only [capChk, Bool.and_eq_true, Bool.or_eq_true, Bool.not_eq_true', Nat.blt_eq, Nat.ble_eq] at h4
              refine ⟨c, by simp only [conc], h4.1.1, h4.1.2, fun e => ?_⟩
              have h5 : o + c * sz ≤ cs.length := by
                rcases h4.2 with h6 | h6
                · rw [e] at h6; cases h6
                · exact h6.1
              by_cases h0 : cs.length = 0
              · have how : ow = true := by
                  rcases hchk.1 with h4 | h4
                  · rw [e] at h4; cases h4
                  · exact h4.1
                have := (hown how).2.1
                have h7 : o = 0 ∧ c * sz = 0 := by omega
                rw [h7.1, h7.2]
                have : (ιs b).shift ≤ arr.size := by
                  have : (ιs b).shift + (ιs b).capz * sz' ≤ arr.size := this
                  omega
                omega
              · have h7 : (cs.length - 1) < cs.length := by omega
                have h8 := hcell (cs.length - 1) _ (List.getElem?_eq_getElem h7)
                have h9 := (Array.getElem?_eq_some_iff.1 h8).1
                omega
          obtain ⟨cz, hcz, hsz0, hlen, hfit⟩ := key
          have hll : l.length = len * sz := by
            unfold takeN at htk
            split at htk
            · rename_i h1
              simp at htk
              rw [← htk]; exact h1
            · simp at htk
          have hl'len : l'.length = l.length := by
            have := congrArg List.length hconc
            simpa using this
          refine ⟨upd ι1 dst1.n ⟨(ιs b).block, (ιs b).shift + o, cz, sz⟩, ?_, ?_, ?_⟩
          · have hrep : Rep D (upd ι1 dst1.n ⟨(ιs b).block, (ιs b).shift + o, cz, sz⟩) (dst1.push (.cells l' elem own sz)) w := by
              refine hc.rep.adopt' ⟨idsL_mono kpush _ hids, rfl, arr, fz, hheap, fun i v hv => ?_, fun e => ?_⟩ fun b' hb' hg hm => ?_
              · have hilt := (List.getElem?_eq_some_iff.1 hv).1
                have hvid := idsL_get hids hv
                rw [conc_agree (A := (· < dst1.n)) (fun x hx => upd_old (Nat.ne_of_lt hx)) v hvid]
                have h1 : (concL ιs l)[i]? = some (conc ι1 v) := by rw [← hconc, concL_getElem?, hv]; rfl
                rw [concL_getElem?, hl, List.getElem?_take, if_pos (by omega), List.getElem?_drop] at h1
                cases hx : cs[o + i]? with
                | none => rw [hx] at h1; cases h1
                | some x =>
                  rw [hx] at h1
                  simp only [Option.map_some, Option.some.injEq] at h1
                  have := hcell _ _ hx
                  show arr[(ιs b).shift + o + i]? = _
                  rw [← h1, ← this]
                  congr 1
                  omega
              · subst e
                have how : ow = true := by
                  rcases hchk.1 with h4 | h4
                  · cases h4
                  · exact h4.1
                have hmod0 : o % sz = 0 := by
                  have h4 := hchk.2
                  cases cap with
                  | none => simpa [capChk] using h4
                  | some c =>
                    simp only [capChk, Bool.and_eq_true, Bool.or_eq_true, Bool.not_eq_true'] at h4
                    rcases h4.2 with h6 | h6
                    · cases h6
                    · exact Nat.eq_of_beq_eq_true h6.2
                have hsz2 : sz' = sz := by
                  rcases hchk.1 with h4 | h4
                  · cases h4
                  · simpa using h4.2
                refine ⟨(hown how).1, hfit rfl, ?_⟩
                have hd := (hown how).2.2
                rw [hsz2] at hd
                exact Nat.dvd_add hd (Nat.dvd_of_mod_eq_zero hmod0)
              · cases own with
                | false =>
                  rcases hm with hm | hm
                  · exfalso
                    by_cases hb1 : b' < dst.n
                    · rw [hc.old b' hb1, hroom b' hb1] at hm; cases hm
                    · rw [(hc.new b' (by omega) hb').1] at hm; cases hm
                  · simp [AO.isMut] at hm
                | true =>
                  by_cases hb1 : b' < dst.n
                  · rw [hc.agree b' hb1]
                    rw [hc.old b' hb1] at hg
                    exact hroom b (by simp) b' hb1 hg
                  · obtain ⟨_, s, hs, hs'⟩ := hc.new b' (by omega) hb'
                    rw [hs']
                    have hne : s ≠ b := by
                      rintro rfl
                      exact (List.nodup_cons.1 (hnd rfl)).1 hs
                    have hsm := hc.own rfl s hs
                    exact Rs.sep s b (getO_gone (AO.isMut_ne hsm)) hbn hne hsm (by rw [hb]; simp)
            refine ⟨hrep, Nat.le_succ_of_le hc.n, fun x hx => ?_, fun x hx => ?_, hc.M, fun x hx1 hx2 => ?_, fun e s hs => ?_⟩
            · have := hc.n
              rw [upd_old (by omega)]; exact hc.agree x hx
            · rw [getO_push_old (Nat.lt_of_lt_of_le hx hc.n)]; exact hc.old x hx
            · simp only [St.push] at hx2
              rw [hrefs]
              by_cases he : x = dst1.n
              · subst he
                rw [getO_push_new, upd_new]
                exact ⟨rfl, b, by simp, rfl⟩
              · have hx3 : x < dst1.n := by omega
                rw [getO_push_old hx3, upd_old he]
                obtain ⟨h1, s, h2, h3⟩ := hc.new x hx1 hx3
                exact ⟨h1, s, List.mem_cons_of_mem _ h2, h3⟩
            · rw [hrefs] at hs
              rcases List.mem_cons.1 hs with h1 | h1
              · subst h1
                rw [hb]
                rcases hchk.1 with h4 | h4
                · rw [e] at h4; cases h4
                · exact h4.1
              · exact hc.own e s h1
          · rw [hcz]
            simp only [conc, upd_new, Loc.at, Nat.add_zero, Nat.zero_div, Nat.sub_zero]
          · refine ⟨Nat.lt_succ_self _, by rw [upd_new], hsz0, ?_⟩
            rw [upd_new]
            simpa using hlen
        · simp at h
      · simp at h
    | _ => simp [copyA] at h

end Go.Dt
