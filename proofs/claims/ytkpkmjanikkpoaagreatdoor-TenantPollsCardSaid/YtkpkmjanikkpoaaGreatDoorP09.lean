/-
  Frames of the deterministic reading are sound, continued. No statement of this seat stands here.
-/
import Derived.Test.YtkpkmjanikkpoaaGreatDoorP08
import Derived.Test.YtkpkmjanikkpoaaGreatDoorP06
namespace Go.Dt

section
variable {D : Tab} {P : Program}

theorem replUndef_conc (ι : Nat → Loc) : ∀ n, concL ι (replUndef n) = List.replicate n undef
  | 0 => rfl
  | n + 1 => by simp [replUndef, concL, replUndef_conc ι n, List.replicate_succ]
theorem replUndef_ids (ι : Nat → Loc) (A : Nat → Prop) : ∀ n, idsL ι A (replUndef n)
  | 0 => trivial
  | n + 1 => ⟨ids_undef _ _, replUndef_ids ι A n⟩

theorem enter_ok (F : Fits D P) {f : FuncId} {args : List AV} {fr : AFr} (h : enterFr D f args = .ok fr) (ι : Nat → Loc) (A : Nat → Prop) (hargs : idsL ι A args) (kind : CallKind) :
    fr.fn = f ∧ fr.round = none ∧ fr.defers = [] ∧ idsL ι A fr.T ∧ (∃ fn, P.funcs[f]? = some fn) ∧
      Frame.enter P f (concL ι args).toArray kind = on (Frame.enter P f (concL ι args).toArray kind) (concL ι fr.T).toArray [] (fr.todo.map cItem) := by
  unfold enterFr at h
  split at h
  · rename_i fn hfn
    split at h
    · rename_i c hc
      simp at h
      subst h
      have hf := F.func _ _ hfn
      refine ⟨rfl, rfl, rfl, idsL_append.2 ⟨hargs, replUndef_ids _ _ _⟩, ⟨fn, hf⟩, ?_⟩
      simp only [Frame.enter, on, hf, Option.map_some, Option.getD_some, Option.bind_some, hc, List.map_cons, List.map_nil, cItem, concL_append, replUndef_conc]
      simp
    · simp at h
  · simp at h

theorem modeOf_pan (ι : Nat → Loc) (mode : Option AV) : panMode ι (mode.map fun v => (v, false)) = modeOf ι mode := by
  cases mode <;> rfl

theorem modeOf_agree {ι ι' : Nat → Loc} {A : Nat → Prop} (h : ∀ b, A b → ι' b = ι b) {mode : Option AV} (hm : ∀ v, mode = some v → ids ι A v) : modeOf ι' mode = modeOf ι mode := by
  cases mode with
  | none => rfl
  | some v => simp [modeOf, conc_agree h v (hm v rfl)]

theorem modeOf_ne (ι : Nat → Loc) (mode : Option AV) : modeOf ι mode ≠ .run := by cases mode <;> simp [modeOf]

theorem finish_ok (Ft : Fits D P) {F : Fns} (HF : FnsOK D P F) : FinOK D P (finishF D F) := by
  intro f T ds mode pan σ e pan' σ' h X b ι w todo hk hfn hrd hhas Rp I hmode
  unfold finishF at h
  split at h
  · -- no deferred calls
    split at h
    · simp only [bind_ok, pure_ok, Prod.mk.injEq] at h
      obtain ⟨v, hv, rfl, rfl, rfl⟩ := h
      obtain ⟨fn, hf, hres, hid⟩ := results_ok Ft Rp I.T hv
      refine ⟨ι, w, Rp, Ext.refl _ _ _, hid, I.pan, I.fit, ?_⟩
      unfold Gone
      simp only [hrd]
      refine ⟨_, Steps.refl _ _, rfl, rfl, rfl, fn, by rw [hfn]; exact hf, rfl, hres⟩
    · rename_i v
      simp at h
      obtain ⟨rfl, rfl, rfl⟩ := h
      obtain ⟨fn, hf⟩ := hhas
      refine ⟨ι, w, Rp, Ext.refl _ _ _, hmode v rfl, I.pan, I.fit, ?_⟩
      unfold Gone
      simp only [hrd]
      exact ⟨_, Steps.refl _ _, rfl, rfl, rfl, fn, hf, rfl⟩
  · -- the calls that rounds have deferred
    rename_i r ds
    simp only [bind_ok] at h
    obtain ⟨o, ho, h⟩ := h
    obtain ⟨hr, heq⟩ := get_ok ho
    split at h
    · rename_i calls
      have hrep := Rp.obj r hr
      rw [heq] at hrep
      obtain ⟨hs, hheap, hcalls⟩ := hrep
      have hlt : (ι r).block < w.heap.size := (Array.getElem?_eq_some_iff.1 hheap).1
      have hon := only_setIf w (ι r).block (.deferred none)
      have hset := Rp.set (o := .deferred none) hr (by rw [heq]; rfl) hon.size hon.other hon.os ⟨hs, heap_setIf w _ _ hlt, by simp⟩
      have htake : (Instr.takeDeferred (ι r).block).run P w = .ok (calls.map (concDef ι)) { w with heap := w.heap.setIfInBounds (ι r).block (.deferred none) } := by
        have h1 := run_getObj P w (ι r).block _ hheap (by simp)
        have h2 := run_setObj P w (ι r).block _ (.deferred none) hheap (by simp)
        simp only [Instr.takeDeferred, Sem.run_bind, h1, Result.andThen_ok, Option.map_some, h2, Sem.run_pure]
      have hst := step_collect (P := P) (b := b) (T := (concL ι T).toArray) (ds := ds.map (concDef ι)) (cs := X.cs ι pan) (args := #[]) (todo := todo) (modeOf_ne ι mode) htake
      refine Out.of_steps (.one hst) hset.2 ?_
      have := HF.finish _ _ _ _ _ _ _ _ _ h X b ι _ todo hk hfn hrd hhas hset.1
        ⟨I.fit, I.T, fun d hd => (List.mem_append.1 hd).elim (fun h1 => hcalls calls rfl d h1) (fun h1 => I.ds d (List.mem_cons_of_mem _ h1)), I.pan⟩ hmode
      simpa using this
    · simp at h
  · -- a deferred call
    rename_i g cap args ds
    simp only [bind_ok] at h
    obtain ⟨nx, hnx, h⟩ := h
    have hd := I.ds (.fn g cap args) (by simp)
    obtain ⟨f', as, rfl, hids, hinv⟩ := invokeT_ok Ft (ι := ι) (A := (· < σ.n)) w hnx hd.1 hd.2
    simp only [bind_ok] at h
    obtain ⟨fr, hfr, ⟨e1, p1, σ1⟩, hrun, h⟩ := h
    obtain ⟨h1, h2, h3, h4, h5, h6⟩ := enter_ok Ft hfr ι (· < σ.n) hids .deferred
    have I0 : idsDs ι (· < σ.n) ds := fun d hd => I.ds d (List.mem_cons_of_mem _ hd)
    let cfr : Frame := unwinding b (concL ι T).toArray (ds.map (concDef ι)) todo (modeOf ι mode)
    let X' : Ctx := .dfr cfr (X.cs ι pan)
    have hcs : X'.cs ι (mode.map fun v => (v, false)) = cfr :: X.cs ι pan := by
      simp only [X', Ctx.cs, modeOf_pan]
      rfl
    have hst := step_deferred (P := P) (b := b) (T := (concL ι T).toArray) (ds := ds.map (concDef ι)) (cs := X.cs ι pan) (todo := todo) (modeOf_ne ι mode) hinv
    have hO := HF.run _ _ _ _ _ _ hrun X' (Frame.enter P f' (concL ι as).toArray .deferred) ι w
      ⟨rfl, h1.symm, by rw [h2]; rfl, by rw [h2]; simp, h5⟩ Rp
      ⟨trivial, h4, by rw [h3]; intro d hd; simp at hd, by
        cases mode with
        | none => trivial
        | some v => exact hmode v rfl⟩
    obtain ⟨ι1, w1, R1, E1, hen, hp1, hfit1, hG⟩ := hO
    clear hfit1
    unfold Gone at hG
    have hr0 : (Frame.enter P f' (concL ι as).toArray .deferred).roundOf = none := rfl
    simp only [hr0] at hG
    obtain ⟨fr', hs', hfn', hdef', hkind', fn', hfn'', hend⟩ := hG
    have hmach : mach X' (Frame.enter P f' (concL ι as).toArray .deferred) ι fr.T fr.defers (mode.map fun v => (v, false)) (fr.todo.map cItem) w =
        lone (Frame.enter P f' (concL ι as).toArray .deferred) (cfr :: X.cs ι pan) w := by
      unfold mach
      rw [hcs, h3, List.map_nil, ← h6]
    rw [hmach] at hs'
    have hst2 : Steps P (lone (unwinding b (concL ι T).toArray (List.map (concDef ι) (.fn g cap args :: ds)) todo (modeOf ι mode)) (X.cs ι pan) w) (lone fr' (X'.cs ι1 p1) w1) :=
      Steps.trans (.one hst) hs'
    have hcs1 : X'.cs ι1 p1 = { cfr with mode := panMode ι1 p1 } :: X.cs ι pan := rfl
    rw [hcs1] at hst2
    have hTc : concL ι1 T = concL ι T := concL_agree E1.agree T I.T
    have hdc : ds.map (concDef ι1) = ds.map (concDef ι) := concDs_agree E1.agree I0
    have hpc : X.cs ι1 pan = X.cs ι pan := X.agree E1.agree I.pan
    have hfn1 : P.funcs[fr'.fn]? = some fn' := by rw [hfn']; exact hfn''
    -- what the frame goes on with
    have go : ∀ mode', (∀ v, mode' = some v → ids ι1 (· < σ1.n) v) → F.finish f T ds mode' pan σ1 = .ok (e, pan', σ') →
        Steps P (lone fr' ({ cfr with mode := panMode ι1 p1 } :: X.cs ι pan) w1) (lone { cfr with mode := modeOf ι1 mode' } (X.cs ι pan) w1) →
        Out D P X b ι σ w e pan' σ' (lone (unwinding b (concL ι T).toArray (List.map (concDef ι) (.fn g cap args :: ds)) todo (modeOf ι mode)) (X.cs ι pan) w) := by
      intro mode' hm' hfin hst3
      refine Out.of_steps (Steps.trans hst2 hst3) E1 ?_
      have := HF.finish _ _ _ _ _ _ _ _ _ hfin X b ι1 w1 todo hk hfn hrd hhas R1 ⟨I.fit, idsL_mono E1.k T I.T, idsDs_mono E1.k I0, idsPan_mono E1.k pan I.pan⟩ hm'
      rw [hTc, hdc, hpc] at this
      exact this
    cases e1 with
    | ret v =>
      simp only at h hend
      have hback := step_back (P := P) (c := { cfr with mode := panMode ι1 p1 }) (cs := X.cs ι pan) hend.1 hdef' hkind' hfn1 hend.2
      split at h
      · rename_i v'
        exact go (some v') (by intro x hx; cases hx; exact hp1) h (.one hback)
      · rename_i hne
        refine go none (by simp) h (.one ?_)
        rw [hback]
        cases p1 with
        | none => rfl
        | some p =>
          obtain ⟨v', r'⟩ := p
          cases r' with
          | false => exact (hne v' rfl).elim
          | true => rfl
    | panic v =>
      simp only at h hend
      split at h
      · refine go (some v) (by intro x hx; cases hx; exact hen) h (.one ?_)
        have := step_raise (P := P) (c := { cfr with mode := panMode ι1 none }) (cs := X.cs ι pan) hend hdef' hfn1 (w := w1)
        rw [this]
        rfl
      · simp at h

end
end Go.Dt
namespace Go.Dt

section
variable {D : Tab} {P : Program}

/-- a call from a waiting frame -/
theorem goF_ok (Ft : Fits D P) {F : Fns} (HF : FnsOK D P F) {X : Ctx} {b : Frame} {fr : AFr} {k : List AItem} {ds : List ADef} {f : Operand} {params : Array Tmp} {assign body : Code}
    {ι ι1 : Nat → Loc} {σ σ1 σ2 σ' : St} {w w1 : World} {pan pan' : Pan} {e0 e : AEnd} {l : Nat} {nx : ANext} {mark : List Deferred}
    (B : Base P X b fr ι σ) (I : IdsF ι (· < σ.n) X fr.T fr.defers pan) (R1 : Rep D ι1 σ1 w1) (E1 : Ext ι σ w ι1 σ1 w1) (hl : l < σ1.n)
    (hds : idsDs ι1 (· < σ1.n) ds) (hmark : mark ++ fr.defers.map (concDef ι) = ds.map (concDef ι1))
    (henter : (Instr.enterLoop b.fn (concL ι fr.T).toArray params assign body b.roundOf).run P w = .ok ((ι1 l).block, mark) w1)
    (hnx : callV D (evalO D fr.T f) [.yield l] = .ok nx) (hgo : goF F nx σ1 = .ok (e0, σ2))
    (hend : F.endLoop { fr with todo := k, defers := ds } l e0 pan σ2 = .ok (e, pan', σ')) :
    Out D P X b ι σ w e pan' σ' (mach X b ι fr.T fr.defers pan (.code (.rangeFunc f params assign body) :: k.map cItem) w) := by
  have hTc : concL ι1 fr.T = concL ι fr.T := concL_agree E1.agree fr.T I.T
  have hT1 : idsL ι1 (· < σ1.n) fr.T := idsL_mono E1.k fr.T I.T
  obtain ⟨hid, hcm, hkind⟩ := callV_ok Ft (ι := ι1) (A := (· < σ1.n)) (_type := 0) w1 hnx (evalO_ids R1 R1.glob_lt hT1 f) ⟨hl, trivial⟩
  have hargs : (concL ι1 [AV.yield l]).toArray = #[.func (.yield (ι1 l).block) #[] #[]] := by simp [concL, conc]
  have hev : evT (concL ι fr.T).toArray f = conc ι1 (evalO D fr.T f) := by rw [← hTc]; exact evalO_conc R1 fr.T f
  rw [hargs, ← hev] at hcm
  -- behind the call
  have fin : ∀ ι2 w2, Rep D ι2 σ2 w2 → Ext ι1 σ1 w1 ι2 σ2 w2 → idsEnd ι2 (· < σ2.n) e0 →
      Steps P (mach X b ι fr.T fr.defers pan (.code (.rangeFunc f params assign body) :: k.map cItem) w)
        (lone (after (on b (concL ι fr.T).toArray (ds.map (concDef ι1)) (.inRangeFunc (ι1 l).block :: k.map cItem)) (concEnd ι2 e0)) (X.cs ι pan) w2) →
      Out D P X b ι σ w e pan' σ' (mach X b ι fr.T fr.defers pan (.code (.rangeFunc f params assign body) :: k.map cItem) w) := by
    intro ι2 w2 R2 E2 he hst
    have E := E1.trans E2
    refine Out.of_steps hst E ?_
    have := HF.endLoop _ _ _ _ _ _ _ _ hend X b ι2 w2 (B.ext E rfl rfl) R2 ⟨I.fit, idsL_mono E2.k fr.T hT1, idsDs_mono E2.k hds, idsPan_mono E.k pan I.pan⟩ (Nat.lt_of_lt_of_le hl E2.n) he
    rw [E2.agree l hl, X.agree E.agree I.pan] at this
    simp only at this
    rw [concL_agree E.agree fr.T I.T, concDs_agree E2.agree hds] at this
    exact this
  rcases hkind with ⟨g, as, rfl⟩ | ⟨l', as, rfl⟩
  · obtain ⟨x, hx, hrun⟩ := hcm
    simp only [concNext, Option.some.injEq] at hx
    subst hx
    have hs1 := step_range_func (P := P) (b := b) (T := (concL ι fr.T).toArray) (ds := fr.defers.map (concDef ι)) (k := k.map cItem) (cs := X.cs ι pan) henter hrun
    simp only [goF] at hgo
    obtain ⟨en, w2, ⟨ι2, rfl, R2, E2, he⟩, hs⟩ := call_steps (HF.call _ _ _ _ _ hgo ι1 w1 R1 hid) (fun w' ⟨ι', h', _⟩ => concEnd_ne ι' e0 h'.symm)
      (on b (concL ι fr.T).toArray (mark ++ fr.defers.map (concDef ι)) (.inRangeFunc (ι1 l).block :: k.map cItem)) (X.cs ι pan)
    refine fin ι2 w2 R2 E2 he ?_
    rw [← hmark]
    exact Steps.trans (.one hs1) hs
  · obtain ⟨hrun, _⟩ := hcm
    simp only [goF] at hgo
    obtain ⟨fn, tmps, as', bd, hy, hsteps⟩ := HF.round _ _ _ _ _ hgo ι1 w1 R1 hid.2 hid.1
    obtain ⟨ι2, w2, hs, R2, E2, he⟩ := hsteps (on b (concL ι fr.T).toArray (mark ++ fr.defers.map (concDef ι)) (.inRangeFunc (ι1 l).block :: k.map cItem)) (X.cs ι pan)
    have hs1 := step_range_round (P := P) (b := b) (T := (concL ι fr.T).toArray) (ds := fr.defers.map (concDef ι)) (k := k.map cItem) (cs := X.cs ι pan) henter (hrun.trans hy)
    refine fin ι2 w2 R2 E2 he ?_
    rw [← hmark]
    exact Steps.trans (.one hs1) hs

theorem run_ok (Ft : Fits D P) {F : Fns} (HF : FnsOK D P F) : RunOK D P (runF D F) := by
  intro fr pan σ e pan' σ' h X b ι w B Rp I
  obtain ⟨fid, T, todo, ds, rd⟩ := fr
  -- a step that changes the code alone
  have go : ∀ todo', F.run { fn := fid, T, todo := todo', defers := ds, round := rd } pan σ = .ok (e, pan', σ') →
      step P (mach X b ι T ds pan (todo.map cItem) w) = .next (mach X b ι T ds pan (todo'.map cItem) w) →
      Out D P X b ι σ w e pan' σ' (mach X b ι T ds pan (todo.map cItem) w) := fun todo' h' hs =>
    Out.of_steps (.one hs) (Ext.refl _ _ _) (HF.run _ _ _ _ _ _ h' X b ι w (B.ext (Ext.refl ι σ w) rfl rfl) Rp I)
  -- the frame returns
  have leave : ∀ jump, (jump = none ∨ jump = some .ret) → rd = none → leaveF F { fn := fid, T, todo, defers := ds, round := rd } jump pan σ = .ok (e, pan', σ') →
      (∀ hb : b.roundOf = none, step P (mach X b ι T ds pan (todo.map cItem) w) = .next (lone (unwinding b (concL ι T).toArray (ds.map (concDef ι)) (todo.map cItem) .returning) (X.cs ι pan) w)) →
      Out D P X b ι σ w e pan' σ' (mach X b ι T ds pan (todo.map cItem) w) := by
    intro jump hj hr h' hs
    have hb : b.roundOf = none := by rw [B.round, hr]; rfl
    have h2 : F.finish fid T ds none pan σ = .ok (e, pan', σ') := by
      rcases hj with rfl | rfl <;> simpa [leaveF, hr] using h'
    refine Out.of_steps (.one (hs hb)) (Ext.refl _ _ _) ?_
    exact HF.finish _ _ _ _ _ _ _ _ _ h2 X b ι w (todo.map cItem) B.kind B.fn hb B.has Rp I (by simp)
  have knorm : ∀ l, rd = some l → b.kind = .normal := fun l hl => by
    obtain ⟨cs, hX⟩ := (B.rnd l hl).2
    rw [B.kind, hX]; rfl
  have hbr : ∀ l, rd = some l → b.roundOf = some (ι l).block := fun l hl => by rw [B.round, hl]; rfl
  cases todo with
  | nil =>
    simp only [runF] at h
    cases rd with
    | none => exact leave none (.inl rfl) rfl h fun hb => step_on_nil hb
    | some l =>
      exact leave_round rfl B Rp I h fun c cs v w' hc hv => by
        unfold mach; rw [hc]; exact .one (step_round_nil (hbr l rfl) (knorm l rfl) hv)
  | cons it k =>
    cases it with
    | inBlock id => simp only [runF] at h; exact go _ h step_on_inBlock
    | inScope c => simp only [runF] at h; exact go _ h step_on_inScope
    | inLoop c => simp only [runF] at h; exact go _ h step_on_inLoop
    | beginRound =>
      simp only [runF] at h
      cases rd with
      | none => simp at h
      | some l =>
        simp only [bind_ok] at h
        obtain ⟨r, hr, h⟩ := h
        split at h
        · rename_i hs
          obtain ⟨w1, h1, h2, h3⟩ := run_beginRound (P := P) Rp hr hs
          refine Out.of_steps (.one (step_begin (hbr l rfl) h1)) h3 ?_
          exact HF.run _ _ _ _ _ _ h X b ι w1 (B.ext h3 rfl rfl) h2 I
        · simp at h
    | code c =>
      cases c with
      | ret =>
        simp only [runF] at h
        cases rd with
        | none => exact leave (some .ret) (.inr rfl) rfl h fun hb => step_on_ret hb
        | some l =>
          exact leave_round rfl B Rp I h fun c cs v w' hc hv => by
            unfold mach; rw [hc]; exact .one (step_round_ret (hbr l rfl) (knorm l rfl) hv)
      | skip => simp only [runF] at h; exact go _ h step_on_skip
      | label l => simp only [runF] at h; exact go _ h step_on_label
      | seq x y => simp only [runF] at h; exact go _ h step_on_seq
      | block id x => simp only [runF] at h; exact go _ h step_on_block
      | loop x => simp only [runF] at h; exact go _ h step_on_loop
      | scope x => simp only [runF] at h; exact go _ h step_on_scope
      | refuse s => simp [runF] at h
      | cond c x y =>
        simp only [runF, bind_ok] at h
        obtain ⟨t, ht, h⟩ := h
        refine go _ h (step_on_cond ?_)
        rw [evalO_conc Rp T c]
        have : evalO D T c = .base (.bool t) := by
          unfold asB at ht
          split at ht
          · rename_i b' hb'; simp at ht; rw [hb', ht]
          · simp at ht
        rw [this, conc]
      | exit id =>
        simp only [runF] at h
        split at h
        · rename_i k' hk'
          exact go _ h (step_on_exit (by rw [exitTo_c, hk']; rfl))
        · rename_i hk'
          cases rd with
          | none => simp [leaveF] at h
          | some l =>
            exact leave_round rfl B Rp I h fun c cs v w' hc hv => by
              unfold mach; rw [hc]; exact .one (step_round_exit (hbr l rfl) (knorm l rfl) (by rw [exitTo_c, hk']; rfl) hv)
      | goto id =>
        simp only [runF] at h
        split at h
        · rename_i k' hk'
          exact go _ h (step_on_goto (by rw [gotoIn_c, hk']; rfl))
        · rename_i hk'
          cases rd with
          | none => simp [leaveF] at h
          | some l =>
            exact leave_round rfl B Rp I h fun c cs v w' hc hv => by
              unfold mach; rw [hc]; exact .one (step_round_goto (hbr l rfl) (knorm l rfl) (by rw [gotoIn_c, hk']; rfl) hv)
      | region id ops draw =>
        simp only [runF, bind_ok] at h
        obtain ⟨r, hr, h⟩ := h
        have hround : b.roundOf = none ↔ rd.isSome = false := by
          rw [B.round]; cases rd <;> simp
        obtain ⟨ι1, σ1, w1, hc, R1, E1⟩ := region_ok Ft HF.call HF.round B.kind hround (id := id) (k := k.map cItem) Rp I hr
        cases hc with
        | go steps ids =>
          simp only at h
          refine Out.of_steps steps E1 ?_
          exact HF.run _ _ _ _ _ _ h X b ι1 w1 (B.ext E1 rfl rfl) R1 ids
        | @panic _ _ _ T1 ds1 pan1 v1 todo' steps ids hv =>
          simp only at h
          refine Out.of_steps steps E1 ?_
          exact panic_ok HF (fr := { fn := fid, T := T1, todo := .code (.region id ops draw) :: k, defers := ds1, round := rd }) (B.ext E1 rfl rfl) R1 ids hv h
      | rangeFunc f params assign body =>
        simp only [runF] at h
        cases rd with
        | some l0 =>
          simp only [bind_ok] at h
          obtain ⟨r0, hr0, nx, hnx, ⟨e0, σ2⟩, hgo, h⟩ := h
          obtain ⟨hh, hs0, hi0, hd0⟩ := loop_heap Rp hr0
          let lp : ALoop := { state := .ready, pending := none, fn := fid, T, params := params.toList, assign, body, defers := r0.defers }
          obtain ⟨ι1, w1, h1, h2, h3, h4⟩ := push_obj (P := P) Rp (o := .loop lp) (ob := .loop (concLoop ι lp))
            (by
              have hag : ∀ b, b < σ.n → upd ι σ.n ⟨w.heap.size, 0, 0, 0⟩ b = ι b := fun b hb => upd_old (Nat.ne_of_lt hb)
              refine ⟨rfl, ?_, idsL_mono kpush _ I.T, Nat.lt_succ_of_lt hd0⟩
              rw [heap_alloc_new]
              simp only [concLoop, lp]
              rw [concL_agree hag T I.T, hag _ hd0])
          refine goF_ok Ft HF (k := k) (ds := ds) (l := σ.n) (mark := []) B I h2 h3 (Nat.lt_succ_self _) (idsDs_mono h3.k I.ds) (by rw [concDs_agree h3.agree I.ds]; rfl) ?_ hnx hgo h
          rw [hbr l0 rfl]
          simp only [Instr.enterLoop, Sem.run_bind, run_instrGet Rp hr0, Result.andThen_ok, Sem.run_pure]
          have : concLoop ι lp = { state := .ready, pending := none, fn := b.fn, tmps := (concL ι T).toArray, params, assign, body, defers := (concLoop ι r0).defers } := by
            simp [concLoop, lp, B.fn]
          rw [← this, h1, h4]
          rfl
        | none =>
          simp only [bind_ok] at h
          obtain ⟨nx, hnx, ⟨e0, σ2⟩, hgo, h⟩ := h
          obtain ⟨ι0, w0, g1, g2, g3, g4⟩ := push_obj (P := P) Rp (o := .deferred (some [])) (ob := .deferred (some []))
            (by refine ⟨rfl, ?_, by simp⟩; rw [heap_alloc_new]; rfl)
          let lp : ALoop := { state := .ready, pending := none, fn := fid, T, params := params.toList, assign, body, defers := σ.n }
          have hT0 : idsL ι0 (· < (σ.push (.deferred (some []))).n) T := idsL_mono g3.k T I.T
          obtain ⟨ι1, w1, h1, h2, h3, h4⟩ := push_obj (P := P) g2 (o := .loop lp) (ob := .loop (concLoop ι0 lp))
            (by
              have hag : ∀ b, b < (σ.push (.deferred (some []))).n → upd ι0 (σ.push (.deferred (some []))).n ⟨w0.heap.size, 0, 0, 0⟩ b = ι0 b := fun b hb => upd_old (Nat.ne_of_lt hb)
              have hdn : lp.defers < (σ.push (.deferred (some []))).n := Nat.lt_succ_self _
              refine ⟨rfl, ?_, idsL_mono kpush _ hT0, Nat.lt_succ_of_lt hdn⟩
              rw [heap_alloc_new]
              simp only [concLoop, lp]
              rw [concL_agree hag T hT0, hag _ hdn])
          have E := g3.trans h3
          have hd1 : idsDef ι1 (· < ((σ.push (.deferred (some []))).push (.loop lp)).n) (.collected σ.n) := by
            show σ.n < σ.n + 1 + 1
            omega
          have hι1 : (ι1 σ.n).block = w.heap.size := by
            rw [h3.agree σ.n (Nat.lt_succ_self _), g4]
          refine goF_ok Ft HF (k := k) (ds := .collected σ.n :: ds) (l := σ.n + 1) (mark := [{ target := .collected w.heap.size, args := #[] }]) B I h2 E
            (by show σ.n + 1 < σ.n + 1 + 1; omega) (by
              intro d hd
              rcases List.mem_cons.1 hd with rfl | hd
              · exact hd1
              · exact idsDef_mono E.k d (I.ds d hd)) (by
              rw [List.map_cons, concDs_agree E.agree I.ds]
              simp [concDef, hι1]) ?_ hnx hgo h
          have hb : b.roundOf = none := by rw [B.round]; rfl
          rw [hb]
          simp only [Instr.enterLoop, Sem.run_bind, g1, Result.andThen_ok, Sem.run_pure]
          have : concLoop ι0 lp = { state := .ready, pending := none, fn := b.fn, tmps := (concL ι T).toArray, params, assign, body, defers := w.heap.size } := by
            have hb' : b.fn = fid := B.fn
            simp [concLoop, lp, hb', g4, concL_agree g3.agree T I.T]
          rw [← this, h1]
          have h4' : (ι1 (σ.n + 1)).block = w0.heap.size := by
            have : ι1 (σ.push (.deferred (some []))).n = ⟨w0.heap.size, 0, 0, 0⟩ := h4
            exact congrArg Loc.block this
          rw [h4']
          rfl

end
end Go.Dt
namespace Go.Dt

/-- memory that was there is left alone -/
structure Fresh (w w' : World) : Prop where
  os : w'.os = w.os
  tape : w'.tape = w.tape
  output : w'.output = w.output
  size : w.heap.size ≤ w'.heap.size
  old : ∀ r, r < w.heap.size → w'.heap[r]? = w.heap[r]?

def Tab.bare (D : Tab) : Tab := { D with memo := fun _ => True }

structure MemoOK (D : Tab) (P : Program) (m : Memo) : Prop where
  nd : nodup (refsA (bareSt .e m.res) copyFuel m.val) = true
  call : ∀ ι w, Rep D.bare ι (bareSt .e m.heap) w → idsL ι (· < m.heap.length) m.args → (∀ b, b < m.heap.length → ((bareSt .e m.heap).getO b).isMut = false) →
    Calls P m.f (concL ι m.args).toArray w fun en w' => ∃ ιY, en = .returned (conc ιY m.val) ∧ Rep D.bare ιY (bareSt .e m.res) w' ∧ ids ιY (· < m.res.length) m.val ∧ Fresh w w' ∧
      ∀ b, b < m.res.length → (bareSt .e m.res).getO b ≠ .gone → w.heap.size ≤ (ιY b).block

section
variable {D : Tab} {P : Program}

theorem Rep.bare {ι : Nat → Loc} {σ : St} {w : World} (R : Rep D ι σ w) : Rep D.bare ι σ w :=
  ⟨R.len, R.glob, R.gloc, R.obj, R.sep, fun _ _ => trivial⟩

theorem getO_M (σ : St) (M : MTree) (b : Nat) : ({ σ with M := M } : St).getO b = σ.getO b := rfl

/-- the same memory with other memos -/
theorem Rep.reM {ι : Nat → Loc} {σ : St} {w : World} (R : Rep D.bare ι σ w) (M : MTree) (hM : ∀ m, M.mem m → D.memo m) : Rep D ι { σ with M := M } w :=
  ⟨R.len, R.glob, R.gloc, R.obj, R.sep, hM⟩

theorem Rep.toBare {ι : Nat → Loc} {σ : St} {w : World} (R : Rep D ι σ w) : Rep D.bare ι (bareSt .e σ.l) w := by
  have : bareSt .e σ.l = { σ with M := .e } := by simp [bareSt, R.len]
  rw [this]
  exact ⟨R.len, R.glob, R.gloc, R.obj, R.sep, fun _ _ => trivial⟩

theorem bareSt_eq {ι : Nat → Loc} {σ : St} {w : World} (R : Rep D ι σ w) : bareSt .e σ.l = { σ with M := .e } := by simp [bareSt, R.len]

theorem replGone_length : ∀ n, (replGone n).length = n
  | 0 => rfl
  | n + 1 => by simp [replGone, replGone_length n]
theorem replGone_get : ∀ (n i : Nat) (o : AO), (replGone n)[i]? = some o → o = AO.gone
  | 0, i, o, h => by simp [replGone] at h
  | n + 1, 0, o, h => by simpa [replGone] using h.symm
  | n + 1, i + 1, o, h => replGone_get n i o (by simpa [replGone] using h)
theorem fresh_gone (D : Tab) (M : MTree) (b : Nat) : (freshSt D M).getO b = .gone := by
  unfold St.getO
  split
  · simp only [freshSt]
    cases h : (replGone D.nglob)[D.nglob - 1 - b]? with
    | none => rfl
    | some o => simp [replGone_get _ _ _ h]
  · rfl

theorem fresh_rep {ι : Nat → Loc} {σ : St} {w : World} (R : Rep D ι σ w) {M : MTree} (hM : ∀ m, M.mem m → D.memo m) : Rep D ι (freshSt D M) w where
  len := by simp [freshSt, replGone_length]
  glob := Nat.le_refl _
  gloc := R.gloc
  obj := fun b _ => by rw [fresh_gone]; trivial
  sep := fun b b' _ _ _ hm => by rw [fresh_gone] at hm; simp [AO.isMut] at hm
  mem := hM

theorem beqH_ok {a b : List AO} (h : beqH a b = true) : a = b := beqH_ok' h
theorem findMemo_ok {f : FuncId} {args : List AV} {hp : List AO} : ∀ {M : List Memo} {m : Memo}, findMemo f args hp M = some m → m ∈ M ∧ m.f = f ∧ m.args = args ∧ m.heap = hp
  | [], m, h => by simp [findMemo] at h
  | m0 :: M, m, h => by
    unfold findMemo at h
    split at h
    · rename_i hc
      simp at h
      subst h
      simp only [Bool.and_eq_true, beq_iff_eq] at hc
      exact ⟨by simp, hc.1.1, beqL_ok _ _ hc.1.2, beqH_ok hc.2⟩
    · obtain ⟨h1, h2⟩ := findMemo_ok h
      exact ⟨List.mem_cons_of_mem _ h1, h2⟩

/-- old memory goes on to be what it was -/
theorem Rep.fresh {ι : Nat → Loc} {σ : St} {w w' : World} (R : Rep D ι σ w) (h : Fresh w w') : Rep D ι σ w' :=
  ⟨R.len, R.glob, R.gloc, fun b hb => by
    by_cases hg : σ.getO b = .gone
    · rw [hg]; trivial
    · exact (R.obj b hb).congr (h.old _ ((R.obj b hb).lt hg)), R.sep, R.mem⟩

theorem Ext.fresh {ι ι' : Nat → Loc} {σ σ' : St} {w w' : World} (E : Ext ι σ w ι' σ' w') (h : ∀ b, b < σ.n → (σ.getO b).isMut = false) : Fresh w w' :=
  ⟨E.os, E.tape, E.output, E.size, fun r hr => E.frame r hr fun b hb hm => by rw [h b hb] at hm; cases hm⟩

/-- a result is taken into the caller's heap -/
theorem memoF_ok {m : Memo} {σ σ0 σ' : St} {ι ιY : Nat → Loc} {w w' : World} {e : AEnd} (h : memoF m σ0 = .ok (e, σ')) (h0 : σ0.n = σ.n ∧ σ0.l = σ.l) (hM : ∀ m, σ0.M.mem m → D.memo m) (R : Rep D ι σ w)
    (nd : nodup (refsA (bareSt .e m.res) copyFuel m.val) = true) (RY : Rep D.bare ιY (bareSt .e m.res) w') (hid : ids ιY (· < m.res.length) m.val) (hf : Fresh w w')
    (hnew : ∀ b, b < m.res.length → (bareSt .e m.res).getO b ≠ .gone → w.heap.size ≤ (ιY b).block) :
    ∃ ι', concEnd ι' e = .returned (conc ιY m.val) ∧ Rep D ι' σ' w' ∧ Ext ι σ w ι' σ' w' ∧ idsEnd ι' (· < σ'.n) e := by
  simp only [memoF, bind_ok, pure_ok, Prod.mk.injEq] at h
  obtain ⟨⟨v, σ1⟩, hc, rfl, rfl⟩ := h
  have hgo : ∀ b, σ0.getO b = σ.getO b := fun b => by simp [St.getO, h0.1, h0.2]
  have R0 : Rep D ι σ0 w' := by
    have R1 := R.fresh hf
    exact ⟨by rw [h0.1, h0.2]; exact R1.len, by rw [h0.1]; exact R1.glob, R1.gloc, fun b hb => by rw [hgo, h0.1]; exact R1.obj b (by rw [← h0.1]; exact hb),
      fun b b' hb hb' => by rw [hgo, hgo]; exact R1.sep b b' (by rw [← h0.1]; exact hb) (by rw [← h0.1]; exact hb'), hM⟩
  have RY' : Rep D ιY (bareSt .e m.res) w' := by
    have := RY.reM (D := D) .e (fun _ h => h.elim)
    exact this
  obtain ⟨ι', hcp, hconc, hids⟩ := copy_ok true RY' copyFuel _ _ _ _ hc ι R0 hid (fun _ => nodup_ok nd) (fun s hs b hb hg => by
    rw [hgo] at hg
    have h1 : (ι b).block < w.heap.size := (R.obj b (by rw [← h0.1]; exact hb)).lt hg
    have hne := refs_ne (bareSt .e m.res) copyFuel _ s hs
    have h2 := hnew s (getO_gone hne) hne
    omega)
  refine ⟨ι', by simp [concEnd, hconc], hcp.rep, ⟨hf.os, hf.tape, hf.output, hf.size, by rw [← h0.1]; exact hcp.n, fun b hb => hcp.agree b (by rw [h0.1]; exact hb), fun r hr _ => hf.old r hr, fun b hb hg => ?_⟩, hids⟩
  by_cases hb0 : b < σ0.n
  · right
    rw [hcp.old b hb0, hgo] at hg
    refine ⟨b, by rw [← h0.1]; exact hb0, hg, ?_, by rw [hcp.agree b hb0]⟩
    rw [hcp.old b hb0, hgo]
    exact id
  · left
    obtain ⟨_, s, hs, he⟩ := hcp.new b (by omega) hb
    have hne := refs_ne (bareSt .e m.res) copyFuel _ s hs
    rw [he]
    exact hnew s (getO_gone hne) hne

/-- what one run of a pure function says of all its runs -/
theorem pureF_ok (Ft : Fits D P) {F : Fns} (HF : FnsOK D P F) {f : FuncId} {args : List AV} {σX : St} {m : Memo} {M : MTree} (h : pureF D F f args σX = .ok (m, M))
    (hM : ∀ m, σX.M.mem m → D.memo m) (hlen : σX.l.length = σX.n) :
    m.f = f ∧ m.args = args ∧ m.heap = σX.l ∧ MemoOK D P m ∧
      (∀ ι w, Rep D ι σX w → idsL ι (· < σX.n) args → ∀ m, M.mem m → D.memo m) := by
  simp only [pureF, bind_ok] at h
  obtain ⟨fr, hfr, ⟨e, p2, σ2⟩, hrun, h⟩ := h
  cases e with
  | panic v => simp at h
  | ret v =>
    simp only at h
    split at h
    · rename_i hnd2
      simp only [bind_ok] at h
      obtain ⟨⟨y, σY⟩, hcp, h⟩ := h
      split at h
      · rename_i hndY
        simp at h
        obtain ⟨rfl, rfl⟩ := h
        -- one run
        have one : ∀ (cs : List Frame) (ι : Nat → Loc) (w : World), Rep D ι σX w → idsL ι (· < σX.n) args → Out D P (.norm cs) (Frame.enter P f (concL ι args).toArray .normal) ι σX w (.ret v) p2 σ2
            (lone (Frame.enter P f (concL ι args).toArray .normal) cs w) := by
          intro cs ι w RX hargs
          obtain ⟨h1, h2, h3, h4, h5, h6⟩ := enter_ok Ft hfr ι (· < σX.n) hargs .normal
          have hO := HF.run _ _ _ _ _ _ hrun (.norm cs) (Frame.enter P f (concL ι args).toArray .normal) ι w
            ⟨rfl, h1.symm, by rw [h2]; rfl, by rw [h2]; simp, h5⟩ RX ⟨rfl, h4, by rw [h3]; intro d hd; simp at hd, trivial⟩
          have hm : mach (.norm cs) (Frame.enter P f (concL ι args).toArray .normal) ι fr.T fr.defers none (fr.todo.map cItem) w = lone (Frame.enter P f (concL ι args).toArray .normal) cs w := by
            unfold mach
            rw [h3, List.map_nil, ← h6]
            rfl
          rw [hm] at hO
          exact hO
        refine ⟨rfl, rfl, rfl, ⟨hndY, fun ι w Rb hargs hmut cs => ?_⟩, fun ι w RX hargs m' hm' => ?_⟩
        · have hst : ({ bareSt .e σX.l with M := σX.M } : St) = σX := by
            cases σX with
            | mk n l M => simp only [bareSt] at hlen ⊢; simp_all
          have RX : Rep D ι σX w := by
            have := Rb.reM (D := D) σX.M hM
            rwa [hst] at this
          have hmut' : ∀ b, b < σX.n → (σX.getO b).isMut = false := fun b hb => by
            have h1 : σX.getO b = (bareSt .e σX.l).getO b := by simp [St.getO, bareSt, hlen]
            rw [h1]
            exact hmut b (by show b < σX.l.length; omega)
          obtain ⟨ι2, w2, R2, E2, hen, _, _, hG⟩ := one cs ι w RX (by simpa [hlen] using hargs)
          unfold Gone at hG
          have hr0 : (Frame.enter P f (concL ι args).toArray .normal).roundOf = none := rfl
          simp only [hr0] at hG
          obtain ⟨fr', hs', hfn', hdef', hkind', fn', hfn'', hmode, hres⟩ := hG
          have hfresh := E2.fresh hmut'
          obtain ⟨ιY, hc, hconc, hids⟩ := copy_ok true R2 copyFuel _ _ _ _ hcp ι2 (fresh_rep R2 (M := .e) (fun _ h => h.elim)) hen (fun _ => nodup_ok hnd2) (fun s _ b hb hg => by rw [fresh_gone] at hg; exact (hg rfl).elim)
          have hlY := hc.rep.len
          refine ⟨.returned (conc ι2 v), w2, fr', ⟨ιY, by rw [hconc], hc.rep.toBare, by simpa [hlY] using hids, hfresh, fun b hb hg => ?_⟩, hs', hfn', hmode, hdef', hkind', fn', by rw [hfn']; exact hfn'', hres⟩
          have hg' : σY.getO b ≠ .gone := by
            rw [bareSt_eq hc.rep] at hg
            exact hg
          have hbn : b < σY.n := getO_gone hg'
          have hbf : ¬ b < (freshSt D .e).n := fun hlt => by
            rw [hc.old b hlt, fresh_gone] at hg'
            exact hg' rfl
          obtain ⟨_, s, hs, he⟩ := hc.new b (Nat.le_of_not_lt hbf) hbn
          have hsm := hc.own rfl s hs
          rw [he]
          rcases E2.own s (getO_gone (AO.isMut_ne hsm)) (AO.isMut_ne hsm) with h1 | ⟨b0, hb0, _, h3, _⟩
          · exact h1
          · have := hmut' b0 hb0
            rw [h3 hsm] at this
            cases this
        · obtain ⟨ι2, w2, R2, _⟩ := one [] ι w RX hargs
          exact R2.mem m' hm'
      · simp at h
    · simp at h

theorem call_ok (Ft : Fits D P) (HM : ∀ m, D.memo m ↔ MemoOK D P m) {F : Fns} (HF : FnsOK D P F) : CallOK D P (callF D F) := by
  intro f args σ e σ' h ι w R hargs
  unfold callF at h
  split at h
  · -- pure
    simp only [bind_ok] at h
    obtain ⟨⟨args', σX⟩, hcp, h⟩ := h
    obtain ⟨ιX, hcX, hconcX, hidsX⟩ := copyL_ok R (refs_ne σ copyFuel) (copy_ok false R copyFuel) _ _ _ _ hcp ι (fresh_rep R R.mem) hargs (by simp) (fun b hb => by rw [fresh_gone]; rfl)
    have hmX : ∀ b, b < σX.n → (σX.getO b).isMut = false := fun b hb => by
      by_cases hb0 : b < (freshSt D σ.M).n
      · rw [hcX.old b hb0, fresh_gone]; rfl
      · exact (hcX.new b (Nat.le_of_not_lt hb0) hb).1
    have hMX : ∀ m, σX.M.mem m → D.memo m := hcX.rep.mem
    have hlX := hcX.rep.len
    -- the memo's call
    have key : ∀ (m : Memo) (σ0 : St), MemoOK D P m → m.f = f → m.args = args' → m.heap = σX.l → memoF m σ0 = .ok (e, σ') → σ0.n = σ.n ∧ σ0.l = σ.l → (∀ m, σ0.M.mem m → D.memo m) →
        Calls P f (concL ι args).toArray w fun en w' => ∃ ι', en = concEnd ι' e ∧ Rep D ι' σ' w' ∧ Ext ι σ w ι' σ' w' ∧ idsEnd ι' (· < σ'.n) e := by
      intro m σ0 hm hf ha hh hmf h0 hM0 cs
      have hb : bareSt .e m.heap = { σX with M := .e } := by rw [hh]; exact bareSt_eq hcX.rep
      have hcall := hm.call ιX w (by rw [hh]; exact hcX.rep.toBare) (by rw [ha, hh, hlX]; exact hidsX) (fun b hb' => by rw [hb]; exact hmX b (by rw [hh, hlX] at hb'; exact hb'))
      rw [hf, ha, hconcX] at hcall
      obtain ⟨en, w', fr, ⟨ιY, rfl, RY, hidY, hfr, hnew⟩, hc1, hc2, hc3⟩ := hcall cs
      obtain ⟨ι', h1, h2, h3, h4⟩ := memoF_ok hmf h0 hM0 R hm.nd RY hidY hfr hnew
      exact ⟨_, w', fr, ⟨ι', h1.symm, h2, h3, h4⟩, hc1, hc2, hc3⟩
    split at h
    · rename_i m hm
      obtain ⟨h1, h2, h3, h4⟩ := findMemo_ok hm
      exact key m σ ((HM m).1 (hMX m (MTree.mem_get _ _ h1))) h2 h3 h4 h ⟨rfl, rfl⟩ R.mem
    · simp only [bind_ok] at h
      obtain ⟨⟨m, M⟩, hp, h⟩ := h
      obtain ⟨h1, h2, h3, h4, h5⟩ := pureF_ok Ft HF hp hMX hlX
      refine key m _ h4 h1 h2 h3 h ⟨rfl, rfl⟩ fun m' hm' => ?_
      rcases MTree.mem_add _ _ hm' with rfl | hm'
      · exact (HM _).2 h4
      · exact h5 ιX w hcX.rep hidsX m' hm'
  · -- plain
    simp only [plainF, bind_ok, pure_ok, Prod.mk.injEq] at h
    obtain ⟨fr, hfr, ⟨e1, p2, σ2⟩, hrun, rfl, rfl⟩ := h
    intro cs
    obtain ⟨h1, h2, h3, h4, h5, h6⟩ := enter_ok Ft hfr ι (· < σ.n) hargs .normal
    have hO := HF.run _ _ _ _ _ _ hrun (.norm cs) (Frame.enter P f (concL ι args).toArray .normal) ι w
      ⟨rfl, h1.symm, by rw [h2]; rfl, by rw [h2]; simp, h5⟩ R ⟨rfl, h4, by rw [h3]; intro d hd; simp at hd, trivial⟩
    have hm : mach (.norm cs) (Frame.enter P f (concL ι args).toArray .normal) ι fr.T fr.defers none (fr.todo.map cItem) w = lone (Frame.enter P f (concL ι args).toArray .normal) cs w := by
      unfold mach
      rw [h3, List.map_nil, ← h6]
      rfl
    rw [hm] at hO
    obtain ⟨ι2, w2, R2, E2, hen, _, _, hG⟩ := hO
    unfold Gone at hG
    have hr0 : (Frame.enter P f (concL ι args).toArray .normal).roundOf = none := rfl
    simp only [hr0] at hG
    obtain ⟨fr', hs', hfn', hdef', hkind', fn', hfn'', hend⟩ := hG
    cases e1 with
    | ret v => exact ⟨_, w2, fr', ⟨ι2, rfl, R2, E2, hen⟩, hs', hfn', hend.1, hdef', hkind', fn', by rw [hfn']; exact hfn'', hend.2⟩
    | panic v => exact ⟨_, w2, fr', ⟨ι2, rfl, R2, E2, hen⟩, hs', hfn', hend, hdef', fn', by rw [hfn']; exact hfn''⟩

theorem setParams_conc (ι : Nat → Loc) : ∀ (l : List (Tmp × AV)) (T : List AV), (concL ι (setParams l T)) = (l.foldl (fun (t : List Value) (p : Tmp × AV) => t.set p.1 (conc ι p.2)) (concL ι T))
  | [], T => rfl
  | (t, a) :: l, T => by
    simp only [setParams, List.foldl_cons]
    rw [setParams_conc ι l]
    congr 1
    simp [concL_eq, List.map_set]
theorem setParams_ids {ι : Nat → Loc} {A : Nat → Prop} : ∀ (l : List (Tmp × AV)) (T : List AV), (∀ p, p ∈ l → ids ι A p.2) → idsL ι A T → idsL ι A (setParams l T)
  | [], T, _, h => h
  | (t, a) :: l, T, hl, h => setParams_ids l _ (fun p hp => hl p (List.mem_cons_of_mem _ hp)) (idsL_set h (hl (t, a) (by simp)) t)

theorem foldl_tmps (l : List (Tmp × Value)) : ∀ (A : Array Value), (l.foldl (fun (tmps : Array Value) (p : Tmp × Value) => tmps.setIfInBounds p.1 p.2) A).toList = l.foldl (fun (t : List Value) (p : Tmp × Value) => t.set p.1 p.2) A.toList := by
  induction l with
  | nil => intro A; rfl
  | cons p l ih =>
    intro A
    simp only [List.foldl_cons]
    rw [ih]
    simp

theorem round_ok (Ft : Fits D P) {F : Fns} (HF : FnsOK D P F) : RoundOK D P (roundF D F) := by
  intro l args σ e σ' h ι w R hargs hl
  simp only [roundF, bind_ok] at h
  obtain ⟨r, hr, h⟩ := h
  obtain ⟨hh, hs0, hi0, hd0⟩ := loop_heap R hr
  split at h
  · simp at h
  · rename_i fn0 hfn0
    split at h
    · rename_i hlen
      simp only [bind_ok, pure_ok, Prod.mk.injEq] at h
      obtain ⟨⟨e1, p2, σ2⟩, hrun, rfl, rfl⟩ := h
      have hT : idsL ι (· < σ.n) (setParams (r.params.zip args) r.T) := setParams_ids _ _ (fun p hp => idsL_iff.1 hargs _ (List.of_mem_zip hp).2) hi0
      have htm : (((concLoop ι r).params.zip (concL ι args).toArray).foldl (fun tmps (t, a) => tmps.setIfInBounds t a) (concLoop ι r).tmps) = (concL ι (setParams (r.params.zip args) r.T)).toArray := by
        apply Array.ext'
        rw [← Array.foldl_toList]
        have h1 : ((concLoop ι r).params.zip (concL ι args).toArray).toList = (r.params.zip args).map fun p => (p.1, conc ι p.2) := by
          simp [concLoop, concL_eq, List.zip_map_right]
        rw [h1]
        have h2 := foldl_tmps ((r.params.zip args).map fun p => (p.1, conc ι p.2)) (concLoop ι r).tmps
        have h3 : (concLoop ι r).tmps.toList = concL ι r.T := rfl
        rw [h3] at h2
        refine Eq.trans ?_ (h2.trans ?_)
        · rfl
        · rw [setParams_conc, List.foldl_map]
      refine ⟨r.fn, (concL ι (setParams (r.params.zip args) r.T)).toArray, r.assign, r.body, ?_, fun c cs => ?_⟩
      · simp only [Instr.yield, Sem.run_bind, run_instrGet R hr, Result.andThen_ok]
        have : ¬ ((concL ι args).toArray.size ≠ (concLoop ι r).params.size) := by simp [concLoop, hlen]
        rw [if_neg this]
        simp only [Sem.run_pure, htm]
        rfl
      · have hO := HF.run _ _ _ _ _ _ hrun (.norm (c :: cs)) (Frame.round (ι l).block r.fn (concL ι (setParams (r.params.zip args) r.T)).toArray r.assign r.body .normal) ι w
          ⟨rfl, rfl, rfl, fun l' hl' => by cases hl'; exact ⟨hl, _, rfl⟩, ⟨fn0, Ft.func _ _ hfn0⟩⟩ R ⟨rfl, hT, (by intro d hd; simp at hd), trivial⟩
        obtain ⟨ι2, w2, R2, E2, hen, _, _, hG⟩ := hO
        unfold Gone at hG
        have hr0 : (Frame.round (ι l).block r.fn (concL ι (setParams (r.params.zip args) r.T)).toArray r.assign r.body .normal).roundOf = some (ι l).block := rfl
        simp only [hr0] at hG
        exact ⟨ι2, w2, hG c cs rfl, R2, E2, hen⟩
    · simp at h

theorem noFns_ok : FnsOK D P noFns where
  run := fun _ _ _ _ _ _ h => by simp [noFns] at h
  finish := fun _ _ _ _ _ _ _ _ _ h => by simp [noFns] at h
  endLoop := fun _ _ _ _ _ _ _ _ h => by simp [noFns] at h
  call := fun _ _ _ _ _ h => by simp [noFns] at h
  round := fun _ _ _ _ _ h => by simp [noFns] at h

theorem nextFns_ok (Ft : Fits D P) (HM : ∀ m, D.memo m ↔ MemoOK D P m) {F : Fns} (HF : FnsOK D P F) : FnsOK D P (nextFns D F) where
  run := run_ok Ft HF
  finish := finish_ok Ft HF
  endLoop := endLoop_ok HF
  call := call_ok Ft HM HF
  round := round_ok Ft HF

theorem fns_ok (Ft : Fits D P) (HM : ∀ m, D.memo m ↔ MemoOK D P m) : ∀ n, FnsOK D P (fns D n)
  | 0 => noFns_ok
  | n + 1 => nextFns_ok Ft HM (fns_ok Ft HM n)

end
end Go.Dt
namespace Go.Dt

def Le {α : Type} (x y : R α) : Prop := ∀ a, x = .ok a → y = .ok a

theorem Le.refl {α : Type} (x : R α) : Le x x := fun _ h => h
theorem Le.of_eq {α : Type} {x y : R α} (h : x = y) : Le x y := h ▸ Le.refl x
theorem Le.error {α : Type} {e : String} {y : R α} : Le (.error e : R α) y := fun _ h => by cases h
theorem Le.trans {α : Type} {x y z : R α} (h : Le x y) (k : Le y z) : Le x z := fun a ha => k a (h a ha)
theorem Le.bind {α β : Type} {x y : R α} {f g : α → R β} (h : Le x y) (k : ∀ a, x = .ok a → Le (f a) (g a)) :
    Le (match x with | .ok a => f a | .error e => .error e) (y >>= g) := by
  cases x with
  | error e => exact Le.error
  | ok a =>
    have := h a rfl
    rw [this]
    exact k a rfl

theorem Le.step {α β : Type} {x y : R α} {F : R β} {g : α → R β} (h : Le x y) (he : ∀ e, x = .error e → ∃ e', F = .error e') (ho : ∀ a, x = .ok a → Le F (g a)) : Le F (y >>= g) := by
  cases hx : x with
  | error e =>
    obtain ⟨e', hF⟩ := he e hx
    rw [hF]; exact Le.error
  | ok a =>
    have hy := h a hx
    rw [hy]
    exact ho a hx

/- trees -/
theorem beq_eq (a b : Nat) : Nat.beq a b = decide (a = b) := by
  by_cases h : a = b
  · subst h; simp
  · have : Nat.beq a b = false := by
      cases hb : Nat.beq a b with
      | false => rfl
      | true => exact (h (Nat.eq_of_beq_eq_true hb)).elim
    simp [h, this]
theorem blt_eq (a b : Nat) : Nat.blt a b = decide (a < b) := by
  by_cases h : a < b
  · simp [h, Nat.blt, Nat.ble_eq_true_of_le h]
  · have : Nat.blt a b = false := by
      cases hb : Nat.blt a b with
      | false => rfl
      | true => exact (h (by simpa [Nat.blt_eq] using hb)).elim
    simp [h, this]
theorem ble_eq' (a b : Nat) : Nat.ble a b = decide (a ≤ b) := by
  by_cases h : a ≤ b
  · simp [h, Nat.ble_eq_true_of_le h]
  · have : Nat.ble a b = false := by
      cases hb : Nat.ble a b with
      | false => rfl
      | true => exact (h (Nat.le_of_ble_eq_true hb)).elim
    simp [h, this]

theorem sel_upd (i j : Nat) (hi : i < 8) (hj : j < 8) (g : RT → RT) (t : RT) : (sel i).run ((updN j).run g t) = if i = j then g ((sel j).run t) else (sel i).run t := by
  have h1 : i = 0 ∨ i = 1 ∨ i = 2 ∨ i = 3 ∨ i = 4 ∨ i = 5 ∨ i = 6 ∨ i = 7 := by omega
  have h2 : j = 0 ∨ j = 1 ∨ j = 2 ∨ j = 3 ∨ j = 4 ∨ j = 5 ∨ j = 6 ∨ j = 7 := by omega
  rcases h1 with rfl | rfl | rfl | rfl | rfl | rfl | rfl | rfl <;> rcases h2 with rfl | rfl | rfl | rfl | rfl | rfl | rfl | rfl <;> cases t <;> rfl

theorem gc_succ (d k : Nat) (t : RT) : (gc (d + 1) k).run t = (gc d (k / 8)).run ((sel (k % 8)).run t) := rfl
theorem sc_succ (d k : Nat) (v : AV) (t : RT) : (sc (d + 1) k).run v t = (updN (k % 8)).run (fun t => (sc d (k / 8)).run v t) t := rfl

theorem gc_sc : ∀ (d k j : Nat) (v : AV) (t : RT), k < 8 ^ d → j < 8 ^ d → (gc d j).run ((sc d k).run v t) = if j = k then v else (gc d j).run t := by
  intro d
  induction d with
  | zero =>
    intro k j v t hk hj
    have : j = k := by simp at hk hj; omega
    simp only [this, if_true]
    rfl
  | succ d ih =>
    intro k j v t hk hj
    rw [gc_succ, gc_succ, sc_succ, sel_upd _ _ (Nat.mod_lt _ (by omega)) (Nat.mod_lt _ (by omega))]
    have hk' : k / 8 < 8 ^ d := by rw [Nat.pow_succ] at hk; omega
    have hj' : j / 8 < 8 ^ d := by rw [Nat.pow_succ] at hj; omega
    by_cases h : j % 8 = k % 8
    · rw [if_pos h, ih _ _ _ _ hk' hj', h]
      by_cases h2 : j / 8 = k / 8
      · have : j = k := by omega
        simp [this]
      · have : j ≠ k := fun e => h2 (by rw [e])
        simp [h2, this]
    · rw [if_neg h]
      have : j ≠ k := fun e => h (by rw [e])
      simp [this]

theorem gc_e : ∀ (d k : Nat), (gc d k).run .e = .undef := by
  intro d
  induction d with
  | zero => intro k; rfl
  | succ d ih =>
    intro k
    rw [gc_succ]
    have : ∀ i, (sel i).run .e = .e := by
      intro i
      unfold sel
      cases Nat.beq i 0 <;> cases Nat.beq i 1 <;> cases Nat.beq i 2 <;> cases Nat.beq i 3 <;> cases Nat.beq i 4 <;> cases Nat.beq i 5 <;> cases Nat.beq i 6 <;> rfl
    rw [this]
    exact ih _

theorem depF_ok : ∀ (f d m : Nat), m ≤ f + 1 → d ≤ depF f d m ∧ m ≤ 8 ^ (depF f d m - d) := by
  intro f
  induction f with
  | zero => intro d m h; simp [depF]; omega
  | succ f ih =>
    intro d m h
    unfold depF
    rw [ble_eq']
    by_cases hm : m ≤ 1
    · simp only [hm, decide_true, cond_true]
      refine ⟨Nat.le_refl _, ?_⟩
      simp; omega
    · simp only [hm, decide_false, cond_false]
      have hm' : (Nat.add m 7).div 8 = (m + 7) / 8 := rfl
      rw [hm']
      obtain ⟨h1, h2⟩ := ih (d + 1) ((m + 7) / 8) (by omega)
      refine ⟨Nat.le_trans (Nat.le_succ d) h1, ?_⟩
      have h3 : depF f (d + 1) ((m + 7) / 8) - d = (depF f (d + 1) ((m + 7) / 8) - (d + 1)) + 1 := by omega
      show m ≤ 8 ^ (depF f (d + 1) ((m + 7) / 8) - d)
      rw [h3, Nat.pow_succ]
      omega

theorem dep_ok (n : Nat) : n ≤ 8 ^ dep n := by
  have := (depF_ok n 0 n (Nat.le_succ n)).2
  simpa [dep] using this

/-- the tree holds the list -/
structure TR (n : Nat) (T : RT) (L : List AV) : Prop where
  len : L.length = n
  get : ∀ k, k < n → (gc (dep n) k).run T = L.getD k .undef

theorem TR.getC {n : Nat} {T : RT} {L : List AV} (h : TR n T L) (k : Nat) : (getC n k).run T = L.getD k .undef := by
  unfold Dt.getC
  rw [blt_eq]
  by_cases hk : k < n
  · simp only [hk, decide_true, cond_true]; exact h.get k hk
  · simp only [hk, decide_false, cond_false]
    rw [List.getD_eq_getElem?_getD, List.getElem?_eq_none (by rw [h.len]; omega)]
    rfl

theorem TR.set {n : Nat} {T : RT} {L : List AV} (h : TR n T L) (k : Nat) (v : AV) : TR n ((setT n k).run v T) (L.set k v) := by
  unfold setT
  rw [blt_eq]
  by_cases hk : k < n
  · simp only [hk, decide_true, cond_true]
    refine ⟨by rw [List.length_set]; exact h.len, fun j hj => ?_⟩
    rw [gc_sc _ _ _ _ _ (Nat.lt_of_lt_of_le hk (dep_ok n)) (Nat.lt_of_lt_of_le hj (dep_ok n)), List.getD_eq_getElem?_getD, List.getElem?_set]
    by_cases e : j = k
    · subst e; simp [h.len, hk]
    · have e' : ¬ k = j := fun x => e x.symm
      simp only [e, e', if_false]
      rw [h.get j hj, List.getD_eq_getElem?_getD]
  · simp only [hk, decide_false, cond_false]
    rw [List.set_eq_of_length_le (by rw [h.len]; omega)]
    exact h

theorem TR.put {n : Nat} {T : RT} {L : List AV} (h : TR n T L) (d : Option Tmp) (v : AV) : TR n ((putC n d).run v T) (put L d v) := by
  cases d with
  | none => exact h
  | some d => exact h.set d v

theorem TR.ev {D : Tab} {n : Nat} {T : RT} {L : List AV} (h : TR n T L) (x : Operand) : (opd D n x).run T = evalO D L x := by
  cases x with
  | tmp t => exact h.getC t
  | const v => rfl
  | global g =>
    simp only [opd, evalO, blt_eq]
    by_cases hg : g < D.nglob <;> simp [hg]
  | func f => rfl

theorem TR.opds {D : Tab} {n : Nat} {T : RT} {L : List AV} (h : TR n T L) : (fun x => (opd D n x).run T) = evalO D L := funext fun x => h.ev x

/- integers -/
theorem same_eq (a b : IntKind) : IntKind.same a b = decide (a = b) := by
  cases a <;> cases b <;> rfl

theorem bif_self {α : Type} {c : Bool} {a b : α} (h : c = true → a = b) : (bif c then a else b) = b := by
  cases c with
  | false => rfl
  | true => exact h rfl

theorem wrap_i64 (m : Nat) (h : m < 9223372036854775808) : IntKind.i64.wrap (.ofNat m) = .ofNat m := by
  simp only [IntKind.wrap, IntKind.signed, IntKind.bits]
  simp
  omega
theorem wrap_u64 (m : Nat) (h : m < 18446744073709551616) : IntKind.u64.wrap (.ofNat m) = .ofNat m := by
  simp only [IntKind.wrap, IntKind.signed, IntKind.bits]
  simp
  omega
theorem wrap_u8 (m : Nat) (h : m < 256) : IntKind.u8.wrap (.ofNat m) = .ofNat m := by
  simp only [IntKind.wrap, IntKind.signed, IntKind.bits]
  simp
  omega
theorem wrap_i32 (m : Nat) (h : m < 2147483648) : IntKind.i32.wrap (.ofNat m) = .ofNat m := by
  simp only [IntKind.wrap, IntKind.signed, IntKind.bits]
  simp
  omega
theorem wrap_neg64 (m : Nat) (h : m < 9223372036854775808) : IntKind.i64.wrap (.negSucc m) = .negSucc m := by
  simp only [IntKind.wrap, IntKind.signed, IntKind.bits]
  simp
  omega

theorem blt_lt {a b : Nat} (h : Nat.blt a b = true) : a < b := by rw [blt_eq] at h; exact of_decide_eq_true h

theorem wrapS_eq (k : IntKind) (n : Int) : wrapS k n = k.wrap n := by
  cases n with
  | ofNat m =>
    cases k with
    | i64 => exact bif_self fun h => (wrap_i64 m (blt_lt h)).symm
    | u64 => exact bif_self fun h => (wrap_u64 m (blt_lt h)).symm
    | u8 => exact bif_self fun h => (wrap_u8 m (blt_lt h)).symm
    | i32 => exact bif_self fun h => (wrap_i32 m (blt_lt h)).symm
    | _ => rfl
  | negSucc m =>
    cases k with
    | i64 => exact bif_self fun h => (wrap_neg64 m (blt_lt h)).symm
    | _ => rfl

theorem ltI_eq (a b : Int) : ltI a b = decide (a < b) := by
  cases a <;> cases b <;> simp only [ltI, blt_eq] <;> simp <;> omega
theorem eqI_eq (a b : Int) : eqI a b = (a == b) := by
  have h : (a == b) = decide (a = b) := by by_cases e : a = b <;> simp [e]
  rw [h]
  cases a with
  | ofNat m =>
    cases b with
    | ofNat n => simp only [eqI, beq_eq]; congr 1; simp; omega
    | negSucc n => simp [eqI]
  | negSucc m =>
    cases b with
    | ofNat n => simp [eqI]
    | negSucc n => simp only [eqI, beq_eq]; congr 1; simp; omega

end Go.Dt
namespace Go.Dt

theorem nthL_eq : ∀ (l : List AV) (i : Nat), nthL l i = match l[i]? with | some v => .ok v | none => .error "load"
  | [], i => rfl
  | v :: l, 0 => rfl
  | v :: l, i + 1 => by
    have : nthL (v :: l) (i + 1) = nthL l i := rfl
    rw [this, nthL_eq l i]
    simp
theorem nthO_eq : ∀ (l : List AO) (i : Nat), nthO l i = (l[i]?).getD .gone
  | [], i => rfl
  | v :: l, 0 => rfl
  | v :: l, i + 1 => by
    have : nthO (v :: l) (i + 1) = nthO l i := rfl
    rw [this, nthO_eq l i]
    simp
theorem setO_eq : ∀ (l : List AO) (i : Nat) (o : AO), setO l i o = l.set i o
  | [], i, o => rfl
  | v :: l, 0, o => rfl
  | v :: l, i + 1, o => by
    have : setO (v :: l) (i + 1) o = v :: setO l i o := rfl
    rw [this, setO_eq l i]
    rfl
theorem lenL_eq : ∀ l : List AV, lenL l = l.length
  | [] => rfl
  | v :: l => by
    have : lenL (v :: l) = (lenL l).succ := rfl
    rw [this, lenL_eq l]
    rfl

theorem dropS_eq : ∀ (l : List AV) (o : Nat), dropS l o = l.drop o
  | [], o => by simp [dropS]
  | v :: l, 0 => rfl
  | v :: l, o + 1 => by
    have : dropS (v :: l) (o + 1) = dropS l o := rfl
    rw [this, dropS_eq l o]
    rfl
theorem grabS_eq : ∀ (l : List AV) (k : Nat), grabS l k = if k ≤ l.length then .ok (l.take k) else .error "takeN"
  | [], 0 => rfl
  | [], k + 1 => rfl
  | v :: l, 0 => rfl
  | v :: l, k + 1 => by
    have : grabS (v :: l) (k + 1) = match grabS l k with | .ok l => .ok (v :: l) | .error e => .error e := rfl
    rw [this, grabS_eq l k]
    by_cases h : k ≤ l.length <;> simp [h]
theorem grabAll_eq (l : List AV) (k : Nat) : grabAll l k = if k ≤ l.length then .ok (l.take k) else .error "takeN" := by
  unfold grabAll
  rw [beq_eq, lenL_eq, grabS_eq]
  by_cases h : l.length = k
  · subst h; simp
  · simp [h]
theorem takeS_eq (cs : List AV) (o k : Nat) : takeS cs o k = takeN cs o k := by
  unfold takeS takeN
  have hl : ((cs.drop o).take k).length = k ↔ k ≤ (cs.drop o).length := by rw [List.length_take]; omega
  rw [beq_eq, grabAll_eq, grabAll_eq, dropS_eq]
  by_cases ho : o = 0
  · subst ho
    simp only [List.drop_zero] at hl ⊢
    simp only [decide_true, cond_true, hl]
  · simp only [ho, decide_false, cond_false, hl]

theorem nth_getO {n b : Nat} {l : List AO} {M : MTree} (h : b < n) : nthO l (Nat.sub (Nat.sub n 1) b) = (⟨n, l, M⟩ : St).getO b := by
  rw [nthO_eq]
  unfold St.getO
  simp only [h, if_true]
  rfl

section
variable {D : Tab}

theorem intC_ok {op : BinOp} {g : IntKind → Int → Int → AV} (h : intC op = some g) (k : IntKind) (a b : Int) : intOp op k k a b = .ok (g k a b) := by
  cases op <;> simp [intC] at h <;> subst h <;> simp [intOp, wrapS_eq, ltI_eq, eqI_eq, intV, boolV]
  all_goals first | rfl | (by_cases e : a ≤ b <;> simp [e] <;> omega) | (by_cases e : b ≤ a <;> simp [e] <;> omega) | (by_cases e : a = b <;> simp [e])

theorem binC_le (op : BinOp) (t : Nat) (c : Bool) (x y : AV) : Le ((binC D op t c).run x y) (binOp D op t x y c) := by
  unfold binC
  split
  · rename_i g hg
    simp only
    split
    · split
      · split
        · split
          · rename_i k a _ _ k' b
            rw [same_eq]
            by_cases hk : k = k'
            · subst hk
              simp only [decide_true, cond_true]
              refine Le.of_eq ?_
              simp only [binOp]
              exact (intC_ok hg k a b).symm
            · simp only [hk, decide_false, cond_false]
              exact Le.error
          · exact Le.refl _
        · exact Le.refl _
      · exact Le.refl _
    · exact Le.refl _
  · exact Le.refl _

theorem unC_le (op : UnOp) (x : AV) : Le ((unC op).run x) (unOp op x) := by
  unfold unC
  split
  · simp only
    split
    · split
      · exact Le.refl _
      · exact Le.refl _
    · exact Le.refl _
  · exact Le.refl _

theorem fieldAddrC_le (t f : Nat) (x : AV) : Le ((fieldAddrC D t f).run x) (fieldAddr D t x f) := by
  unfold fieldAddrC
  split
  · rename_i fd hfd
    split
    · rename_i s hs
      rw [beq_eq]
      by_cases h0 : s = 0
      · simp only [h0, decide_true, cond_true]; exact Le.refl _
      · simp only [h0, decide_false, cond_false]
        split
        · refine Le.of_eq ?_
          simp [fieldAddr, hfd, hs, h0, bind, Except.bind, pure, Except.pure]
        · exact Le.error
    · exact Le.refl _
  · exact Le.refl _

theorem indexAddrC_le (t : Nat) (x ix : AV) : Le ((indexAddrC D t).run x ix) (indexAddr D t x ix) := by
  unfold indexAddrC
  split
  · rename_i d hd
    split
    · rename_i len elem
      split
      · rename_i s hs
        simp only
        split
        · split
          · split
            · split
              · rename_i b o _ _ k _ i
                rw [blt_eq]
                by_cases hi : i < len
                · simp only [hi, decide_true, cond_true]
                  refine Le.of_eq ?_
                  simp [indexAddr, asI, hd, hs, bind, Except.bind, pure, Except.pure, hi]
                · simp only [hi, decide_false, cond_false]; exact Le.error
              · exact Le.error
            · exact Le.refl _
          · exact Le.refl _
        · exact Le.refl _
      · exact Le.refl _
    · rename_i elem
      split
      · rename_i s hs
        simp only
        split
        · split
          · split
            · split
              · rename_i b o len cap sz _ _ k _ i
                rw [blt_eq]
                by_cases hi : i < len
                · simp only [hi, decide_true, cond_true]
                  refine Le.of_eq ?_
                  simp [indexAddr, asI, hd, hs, bind, Except.bind, pure, Except.pure, hi]
                · simp only [hi, decide_false, cond_false]; exact Le.error
              · exact Le.error
            · exact Le.refl _
          · exact Le.refl _
        · exact Le.refl _
      · exact Le.refl _
    · exact Le.refl _
  · exact Le.refl _

theorem loadC_le (t : Nat) (σ : St) (a : AV) : Le ((loadC D t).run σ a) (loadV D σ t a) := by
  unfold loadC
  split
  · rename_i d hd
    cases hagg : isAggD d with
    | true =>
      simp only [cond_true]
      split
      · rename_i k hk
        simp only
        split
        · rename_i b o
          obtain ⟨n, l, M⟩ := σ
          simp only
          rw [blt_eq]
          by_cases hb : b < n
          · simp only [hb, decide_true, cond_true]
            rw [nth_getO (M := M) hb]
            split
            · rename_i cs e ow sz hob
              have h1 : cellsOf ⟨n, l, M⟩ b = .ok cs := by simp [cellsOf, hb, hob]
              refine Le.of_eq ?_
              rw [takeS_eq]
              simp only [loadV, h1, hd, bind, Except.bind, hagg, if_true, hk]
              cases takeN cs o k <;> rfl
            · exact Le.error
          · simp only [hb, decide_false, cond_false]; exact Le.error
        · exact Le.error
      · exact Le.refl _
    | false =>
      simp only [cond_false]
      split
      · rename_i b o
        obtain ⟨n, l, M⟩ := σ
        simp only
        rw [blt_eq]
        by_cases hb : b < n
        · simp only [hb, decide_true, cond_true]
          rw [nth_getO (M := M) hb]
          split
          · rename_i cs e ow sz hob
            refine Le.of_eq ?_
            have h1 : cellsOf ⟨n, l, M⟩ b = .ok cs := by simp [cellsOf, hb, hob]
            simp only [loadV, h1, hd, bind, Except.bind, hagg, Bool.false_eq_true, if_false]
            rw [nthL_eq]
            rfl
          · exact Le.error
        · simp only [hb, decide_false, cond_false]; exact Le.error
      · exact Le.error
  · exact Le.refl _

theorem pureC_le {n : Nat} {T : RT} {L : List AV} (h : TR n T L) (op : Op) : Le ((pureC D n op).run T) (pureOp D (evalO D L) op) := by
  unfold pureC
  split
  · simp only [pureOp, h.ev]; exact Le.refl _
  · simp only [pureOp, h.ev]; exact Le.refl _
  · simp only [pureOp, h.ev]
    split
    · rename_i v hv
      split
      · rename_i t
        refine Le.of_eq ?_
        rw [hv]
        cases t <;> rfl
      · exact Le.error
    · exact Le.error
  · simp only [pureOp, h.ev]; exact binC_le _ _ _ _ _
  · simp only [pureOp, h.ev]; exact unC_le _ _
  · simp only [pureOp, h.ev]; exact fieldAddrC_le _ _ _
  · simp only [pureOp, h.ev]; exact indexAddrC_le _ _ _
  · simp only [pureOp, h.ev]
    split
    · rename_i vs hvs
      refine Le.of_eq ?_
      rw [hvs]
      rfl
    · exact Le.error
  · simp only [h.opds]; exact Le.refl _

theorem readC_le {n : Nat} {T : RT} {L : List AV} (h : TR n T L) (σ : St) (op : Op) : Le ((readC D n op).run σ T) (readOp D σ (evalO D L) op) := by
  unfold readC
  split
  · simp only [readOp, h.ev]; exact loadC_le _ _ _
  · simp only [h.opds]; exact Le.refl _

theorem setC_eq : ∀ (l : List AV) (i : Nat) (x : AV), setC l i x = if i < l.length then some (l.set i x) else none
  | [], i, x => rfl
  | v :: l, 0, x => rfl
  | v :: l, i + 1, x => by
    have : setC (v :: l) (i + 1) x = match setC l i x with | some l' => some (v :: l') | none => none := rfl
    rw [this, setC_eq l i x]
    by_cases hi : i < l.length <;> simp [hi]

theorem splice_one : ∀ (l : List AV) (i : Nat) (x : AV), i < l.length → splice l i [x] = l.set i x
  | [], i, x, h => by simp at h
  | v :: l, 0, x, _ => by simp [splice, overwrite]
  | v :: l, i + 1, x, h => by
    simp only [splice, List.set_cons_succ]
    rw [splice_one l i x (by simpa using h)]

theorem cells_one {x : AV} (h : x.oneCell = true) : x.cells = [x] := by
  cases x with
  | base v => cases v <;> simp_all [AV.oneCell, AV.cells]
  | _ => simp_all [AV.oneCell, AV.cells]

theorem storeC_le (t : Nat) (σ : St) (a x : AV) : Le ((storeC D t).run σ a x) (storeV D σ t a x) := by
  unfold storeC
  split
  · rename_i m hm
    rw [beq_eq]
    by_cases h1 : m = 1
    · simp only [h1, decide_true, cond_true]
      cases hx : x.oneCell with
      | false => simp only [cond_false]; exact Le.refl _
      | true =>
        simp only [cond_true]
        split
        · rename_i b o
          obtain ⟨n, l, M⟩ := σ
          simp only
          rw [blt_eq]
          by_cases hb : b < n
          · simp only [hb, decide_true, cond_true]
            rw [nth_getO (M := M) hb]
            split
            · rename_i cs e ow sz hob
              cases ow with
              | false => simp only [cond_false]; exact Le.error
              | true =>
                simp only [cond_true]
                rw [setC_eq]
                by_cases ho : o < cs.length
                · simp only [ho, if_true]
                  refine Le.of_eq ?_
                  have hle : o + 1 ≤ cs.length := ho
                  simp [storeV, hm, h1, cells_one hx, storeCells, hb, hob, hx, bind, Except.bind, splice_one _ _ _ ho, hle, setO_eq, St.set]
                · simp only [ho, if_false]; exact Le.error
            · exact Le.error
          · simp only [hb, decide_false, cond_false]; exact Le.error
        · exact Le.error
    · simp only [h1, decide_false, cond_false]; exact Le.refl _
  · exact Le.refl _

theorem argsC_eq {n : Nat} {T : RT} {L : List AV} (h : TR n T L) : ∀ l : List Operand, argsC D n l T = l.map (evalO D L)
  | [] => rfl
  | x :: l => by
    have : argsC D n (x :: l) T = (opd D n x).run T :: argsC D n l T := rfl
    rw [this, h.ev, argsC_eq h l]
    rfl

theorem enters_ext {f : FuncId} (h : enters D f = true) : D.ext f = none := by
  unfold enters at h
  split at h
  · cases h
  · assumption
theorem enters_ok {f : FuncId} (h : enters D f = true) (args : List AV) : callFn D f args = .ok (.enter f args) := by
  unfold enters at h
  split at h
  · cases h
  split at h
  · rename_i nx hnx
    unfold callFn at hnx ⊢
    split at hnx
    · split at hnx
      · simp at hnx
      · rename_i fn _ hn
        split at hnx
        · rename_i hb
          rw [if_neg hn, if_pos hb]
        · simp at hnx
    · simp at hnx
  · simp at h

theorem callC_le {n : Nat} {T : RT} {L : List AV} (h : TR n T L) (σ : St) (c : Call) : Le ((callC D n c).run σ T) (actOp D σ (evalO D L) (.call c)) := by
  unfold callC
  split
  · rename_i f hf
    split
    · rename_i g
      cases he : enters D g with
      | false => simp only [cond_false, h.opds]; exact Le.refl _
      | true =>
        simp only [cond_true]
        refine Le.of_eq ?_
        obtain ⟨callee, args, tys⟩ := c
        simp only at hf
        subst hf
        simp only [actOp, evalO, extOf, enters_ext he, callV, invokeT, List.append_nil, List.nil_append]
        rw [enters_ok he, argsC_eq h]
        rfl
    · simp only [h.opds]; exact Le.refl _
  · simp only [h.opds]; exact Le.refl _

theorem actC_le {n : Nat} {T : RT} {L : List AV} (h : TR n T L) (σ : St) (op : Op) : Le ((actC D n op).run σ T) (actOp D σ (evalO D L) op) := by
  unfold actC
  split
  · rename_i t a x
    simp only [actOp, h.ev]
    refine Le.step (storeC_le t σ (evalO D L a) (evalO D L x)) (fun e he => ⟨e, by rw [he]⟩) fun a ha => ?_
    rw [ha]
    exact Le.refl _
  · exact callC_le h σ _
  · simp only [h.opds]; exact Le.refl _

end
end Go.Dt
