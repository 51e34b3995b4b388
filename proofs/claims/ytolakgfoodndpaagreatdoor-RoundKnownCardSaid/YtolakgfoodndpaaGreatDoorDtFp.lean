/-
  Frames of the deterministic reading are sound, continued. No statement of this seat stands here.
-/
import Derived.Test.YtolakgfoodndpaaGreatDoorDtFo
namespace Go.Dt

section
variable {D : Tab} {P : Program}

theorem replUndef_conc (ι : Nat → Loc) : ∀ n, concL ι (replUndef n) = List.replicate n undef
  | 0 => rfl
  | n + 1 => by simp [replUndef, concL, replUndef_conc ι n, List.replicate_succ]
theorem replUndef_ids (ι : Nat → Loc) (A : Nat → Prop) : ∀ n, idsL ι A (replUndef n)
  | 0 => trivial
  | n + 1 => ⟨ids_undef _ _, replUndef_ids ι A n⟩

theorem enter_ok (F : Fits D P) {f : FuncId} {args : List AV} {fr : AFr} (h : enterFr D f args = .ok fr) (ι : Nat → Loc) (A : Nat → Prop) (hargs : idsL ι A args) (kind : CallKind) :
    fr.fn = f ∧ fr.round = none ∧ fr.defers = [] ∧ idsL ι A fr.T ∧ (∃ fn, P.funcs[f]? = some fn) ∧
      Frame.enter P f (concL ι args).toArray kind = on (Frame.enter P f (concL ι args).toArray kind) (concL ι fr.T).toArray [] (fr.todo.map cItem) := by
  unfold enterFr at h
  split at h
  · rename_i fn hfn
    split at h
    · rename_i c hc
      simp at h
      subst h
      have hf := F.func _ _ hfn
      refine ⟨rfl, rfl, rfl, idsL_append.2 ⟨hargs, replUndef_ids _ _ _⟩, ⟨fn, hf⟩, ?_⟩
      simp only [Frame.enter, on, hf, Option.map_some, Option.getD_some, Option.bind_some, hc, List.map_cons, List.map_nil, cItem, concL_append, replUndef_conc]
      simp
    · simp at h
  · simp at h

theorem modeOf_pan (ι : Nat → Loc) (mode : Option AV) : panMode ι (mode.map fun v => (v, false)) = modeOf ι mode := by
  cases mode <;> rfl

theorem modeOf_agree {ι ι' : Nat → Loc} {A : Nat → Prop} (h : ∀ b, A b → ι' b = ι b) {mode : Option AV} (hm : ∀ v, mode = some v → ids ι A v) : modeOf ι' mode = modeOf ι mode := by
  cases mode with
  | none => rfl
  | some v => simp [modeOf, conc_agree h v (hm v rfl)]

theorem modeOf_ne (ι : Nat → Loc) (mode : Option AV) : modeOf ι mode ≠ .run := by cases mode <;> simp [modeOf]

theorem finish_ok (Ft : Fits D P) {F : Fns} (HF : FnsOK D P F) : FinOK D P (finishF D F) := by
  intro f T ds mode pan σ e pan' σ' h X b ι w todo hk hfn hrd hhas Rp I hmode
  unfold finishF at h
  split at h
  · -- no deferred calls
    split at h
    · simp only [bind_ok, pure_ok, Prod.mk.injEq] at h
      obtain ⟨v, hv, rfl, rfl, rfl⟩ := h
      obtain ⟨fn, hf, hres, hid⟩ := results_ok Ft Rp I.T hv
      refine ⟨ι, w, Rp, Ext.refl _ _ _, hid, I.pan, I.fit, ?_⟩
      unfold Gone
      simp only [hrd]
      refine ⟨_, Steps.refl _ _, rfl, rfl, rfl, fn, by rw [hfn]; exact hf, rfl, hres⟩
    · rename_i v
      simp at h
      obtain ⟨rfl, rfl, rfl⟩ := h
      obtain ⟨fn, hf⟩ := hhas
      refine ⟨ι, w, Rp, Ext.refl _ _ _, hmode v rfl, I.pan, I.fit, ?_⟩
      unfold Gone
      simp only [hrd]
      exact ⟨_, Steps.refl _ _, rfl, rfl, rfl, fn, hf, rfl⟩
  · -- the calls that rounds have deferred
    rename_i r ds
    simp only [bind_ok] at h
    obtain ⟨o, ho, h⟩ := h
    obtain ⟨hr, heq⟩ := get_ok ho
    split at h
    · rename_i calls
      have hrep := Rp.obj r hr
      rw [heq] at hrep
      obtain ⟨hs, hheap, hcalls⟩ := hrep
      have hlt : (ι r).block < w.heap.size := (Array.getElem?_eq_some_iff.1 hheap).1
      have hon := only_setIf w (ι r).block (.deferred none)
      have hset := Rp.set (o := .deferred none) hr (by rw [heq]; rfl) hon.size hon.other hon.os ⟨hs, heap_setIf w _ _ hlt, by simp⟩
      have htake : (Instr.takeDeferred (ι r).block).run P w = .ok (calls.map (concDef ι)) { w with heap := w.heap.setIfInBounds (ι r).block (.deferred none) } := by
        have h1 := run_getObj P w (ι r).block _ hheap (by simp)
        have h2 := run_setObj P w (ι r).block _ (.deferred none) hheap (by simp)
        simp only [Instr.takeDeferred, Sem.run_bind, h1, Result.andThen_ok, Option.map_some, h2, Sem.run_pure]
      have hst := step_collect (P := P) (b := b) (T := (concL ι T).toArray) (ds := ds.map (concDef ι)) (cs := X.cs ι pan) (args := #[]) (todo := todo) (modeOf_ne ι mode) htake
      refine Out.of_steps (.one hst) hset.2 ?_
      have := HF.finish _ _ _ _ _ _ _ _ _ h X b ι _ todo hk hfn hrd hhas hset.1
        ⟨I.fit, I.T, fun d hd => (List.mem_append.1 hd).elim (fun h1 => hcalls calls rfl d h1) (fun h1 => I.ds d (List.mem_cons_of_mem _ h1)), I.pan⟩ hmode
      simpa using this
    · simp at h
  · -- a deferred call
    rename_i g cap args ds
    simp only [bind_ok] at h
    obtain ⟨nx, hnx, h⟩ := h
    have hd := I.ds (.fn g cap args) (by simp)
    obtain ⟨f', as, rfl, hids, hinv⟩ := invokeT_ok Ft (ι := ι) (A := (· < σ.n)) w hnx hd.1 hd.2
    simp only [bind_ok] at h
    obtain ⟨fr, hfr, ⟨e1, p1, σ1⟩, hrun, h⟩ := h
    obtain ⟨h1, h2, h3, h4, h5, h6⟩ := enter_ok Ft hfr ι (· < σ.n) hids .deferred
    have I0 : idsDs ι (· < σ.n) ds := fun d hd => I.ds d (List.mem_cons_of_mem _ hd)
    let cfr : Frame := unwinding b (concL ι T).toArray (ds.map (concDef ι)) todo (modeOf ι mode)
    let X' : Ctx := .dfr cfr (X.cs ι pan)
    have hcs : X'.cs ι (mode.map fun v => (v, false)) = cfr :: X.cs ι pan := by
      simp only [X', Ctx.cs, modeOf_pan]
      rfl
    have hst := step_deferred (P := P) (b := b) (T := (concL ι T).toArray) (ds := ds.map (concDef ι)) (cs := X.cs ι pan) (todo := todo) (modeOf_ne ι mode) hinv
    have hO := HF.run _ _ _ _ _ _ hrun X' (Frame.enter P f' (concL ι as).toArray .deferred) ι w
      ⟨rfl, h1.symm, by rw [h2]; rfl, by rw [h2]; simp, h5⟩ Rp
      ⟨trivial, h4, by rw [h3]; intro d hd; simp at hd, by
        cases mode with
        | none => trivial
        | some v => exact hmode v rfl⟩
    obtain ⟨ι1, w1, R1, E1, hen, hp1, hfit1, hG⟩ := hO
    clear hfit1
    unfold Gone at hG
    have hr0 : (Frame.enter P f' (concL ι as).toArray .deferred).roundOf = none := rfl
    simp only [hr0] at hG
    obtain ⟨fr', hs', hfn', hdef', hkind', fn', hfn'', hend⟩ := hG
    have hmach : mach X' (Frame.enter P f' (concL ι as).toArray .deferred) ι fr.T fr.defers (mode.map fun v => (v, false)) (fr.todo.map cItem) w =
        lone (Frame.enter P f' (concL ι as).toArray .deferred) (cfr :: X.cs ι pan) w := by
      unfold mach
      rw [hcs, h3, List.map_nil, ← h6]
    rw [hmach] at hs'
    have hst2 : Steps P (lone (unwinding b (concL ι T).toArray (List.map (concDef ι) (.fn g cap args :: ds)) todo (modeOf ι mode)) (X.cs ι pan) w) (lone fr' (X'.cs ι1 p1) w1) :=
      Steps.trans (.one hst) hs'
    have hcs1 : X'.cs ι1 p1 = { cfr with mode := panMode ι1 p1 } :: X.cs ι pan := rfl
    rw [hcs1] at hst2
    have hTc : concL ι1 T = concL ι T := concL_agree E1.agree T I.T
    have hdc : ds.map (concDef ι1) = ds.map (concDef ι) := concDs_agree E1.agree I0
    have hpc : X.cs ι1 pan = X.cs ι pan := X.agree E1.agree I.pan
    have hfn1 : P.funcs[fr'.fn]? = some fn' := by rw [hfn']; exact hfn''
    -- what the frame goes on with
    have go : ∀ mode', (∀ v, mode' = some v → ids ι1 (· < σ1.n) v) → F.finish f T ds mode' pan σ1 = .ok (e, pan', σ') →
        Steps P (lone fr' ({ cfr with mode := panMode ι1 p1 } :: X.cs ι pan) w1) (lone { cfr with mode := modeOf ι1 mode' } (X.cs ι pan) w1) →
        Out D P X b ι σ w e pan' σ' (lone (unwinding b (concL ι T).toArray (List.map (concDef ι) (.fn g cap args :: ds)) todo (modeOf ι mode)) (X.cs ι pan) w) := by
      intro mode' hm' hfin hst3
      refine Out.of_steps (Steps.trans hst2 hst3) E1 ?_
      have := HF.finish _ _ _ _ _ _ _ _ _ hfin X b ι1 w1 todo hk hfn hrd hhas R1 ⟨I.fit, idsL_mono E1.k T I.T, idsDs_mono E1.k I0, idsPan_mono E1.k pan I.pan⟩ hm'
      rw [hTc, hdc, hpc] at this
      exact this
    cases e1 with
    | ret v =>
      simp only at h hend
      have hback := step_back (P := P) (c := { cfr with mode := panMode ι1 p1 }) (cs := X.cs ι pan) hend.1 hdef' hkind' hfn1 hend.2
      split at h
      · rename_i v'
        exact go (some v') (by intro x hx; cases hx; exact hp1) h (.one hback)
      · rename_i hne
        refine go none (by simp) h (.one ?_)
        rw [hback]
        cases p1 with
        | none => rfl
        | some p =>
          obtain ⟨v', r'⟩ := p
          cases r' with
          | false => exact (hne v' rfl).elim
          | true => rfl
    | panic v =>
      simp only at h hend
      split at h
      · refine go (some v) (by intro x hx; cases hx; exact hen) h (.one ?_)
        have := step_raise (P := P) (c := { cfr with mode := panMode ι1 none }) (cs := X.cs ι pan) hend hdef' hfn1 (w := w1)
        rw [this]
        rfl
      · simp at h

end
end Go.Dt
