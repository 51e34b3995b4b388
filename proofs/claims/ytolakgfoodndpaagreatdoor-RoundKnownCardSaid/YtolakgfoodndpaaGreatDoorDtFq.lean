/-
  Frames of the deterministic reading are sound: one frame. No statement of this seat stands here.
-/
import Derived.Test.YtolakgfoodndpaaGreatDoorDtFp
namespace Go.Dt

section
variable {D : Tab} {P : Program}

/-- a call from a waiting frame -/
theorem goF_ok (Ft : Fits D P) {F : Fns} (HF : FnsOK D P F) {X : Ctx} {b : Frame} {fr : AFr} {k : List AItem} {ds : List ADef} {f : Operand} {params : Array Tmp} {assign body : Code}
    {ι ι1 : Nat → Loc} {σ σ1 σ2 σ' : St} {w w1 : World} {pan pan' : Pan} {e0 e : AEnd} {l : Nat} {nx : ANext} {mark : List Deferred}
    (B : Base P X b fr ι σ) (I : IdsF ι (· < σ.n) X fr.T fr.defers pan) (R1 : Rep D ι1 σ1 w1) (E1 : Ext ι σ w ι1 σ1 w1) (hl : l < σ1.n)
    (hds : idsDs ι1 (· < σ1.n) ds) (hmark : mark ++ fr.defers.map (concDef ι) = ds.map (concDef ι1))
    (henter : (Instr.enterLoop b.fn (concL ι fr.T).toArray params assign body b.roundOf).run P w = .ok ((ι1 l).block, mark) w1)
    (hnx : callV D (evalO D fr.T f) [.yield l] = .ok nx) (hgo : goF F nx σ1 = .ok (e0, σ2))
    (hend : F.endLoop { fr with todo := k, defers := ds } l e0 pan σ2 = .ok (e, pan', σ')) :
    Out D P X b ι σ w e pan' σ' (mach X b ι fr.T fr.defers pan (.code (.rangeFunc f params assign body) :: k.map cItem) w) := by
  have hTc : concL ι1 fr.T = concL ι fr.T := concL_agree E1.agree fr.T I.T
  have hT1 : idsL ι1 (· < σ1.n) fr.T := idsL_mono E1.k fr.T I.T
  obtain ⟨hid, hcm, hkind⟩ := callV_ok Ft (ι := ι1) (A := (· < σ1.n)) (type := 0) w1 hnx (evalO_ids R1 R1.glob_lt hT1 f) ⟨hl, trivial⟩
  have hargs : (concL ι1 [AV.yield l]).toArray = #[.func (.yield (ι1 l).block) #[] #[]] := by simp [concL, conc]
  have hev : evT (concL ι fr.T).toArray f = conc ι1 (evalO D fr.T f) := by rw [← hTc]; exact evalO_conc R1 fr.T f
  rw [hargs, ← hev] at hcm
  -- behind the call
  have fin : ∀ ι2 w2, Rep D ι2 σ2 w2 → Ext ι1 σ1 w1 ι2 σ2 w2 → idsEnd ι2 (· < σ2.n) e0 →
      Steps P (mach X b ι fr.T fr.defers pan (.code (.rangeFunc f params assign body) :: k.map cItem) w)
        (lone (after (on b (concL ι fr.T).toArray (ds.map (concDef ι1)) (.inRangeFunc (ι1 l).block :: k.map cItem)) (concEnd ι2 e0)) (X.cs ι pan) w2) →
      Out D P X b ι σ w e pan' σ' (mach X b ι fr.T fr.defers pan (.code (.rangeFunc f params assign body) :: k.map cItem) w) := by
    intro ι2 w2 R2 E2 he hst
    have E := E1.trans E2
    refine Out.of_steps hst E ?_
    have := HF.endLoop _ _ _ _ _ _ _ _ hend X b ι2 w2 (B.ext E rfl rfl) R2 ⟨I.fit, idsL_mono E2.k fr.T hT1, idsDs_mono E2.k hds, idsPan_mono E.k pan I.pan⟩ (Nat.lt_of_lt_of_le hl E2.n) he
    rw [E2.agree l hl, X.agree E.agree I.pan] at this
    simp only at this
    rw [concL_agree E.agree fr.T I.T, concDs_agree E2.agree hds] at this
    exact this
  rcases hkind with ⟨g, as, rfl⟩ | ⟨l', as, rfl⟩
  · obtain ⟨x, hx, hrun⟩ := hcm
    simp only [concNext, Option.some.injEq] at hx
    subst hx
    have hs1 := step_range_func (P := P) (b := b) (T := (concL ι fr.T).toArray) (ds := fr.defers.map (concDef ι)) (k := k.map cItem) (cs := X.cs ι pan) henter hrun
    simp only [goF] at hgo
    obtain ⟨en, w2, ⟨ι2, rfl, R2, E2, he⟩, hs⟩ := call_steps (HF.call _ _ _ _ _ hgo ι1 w1 R1 hid) (fun w' ⟨ι', h', _⟩ => concEnd_ne ι' e0 h'.symm)
      (on b (concL ι fr.T).toArray (mark ++ fr.defers.map (concDef ι)) (.inRangeFunc (ι1 l).block :: k.map cItem)) (X.cs ι pan)
    refine fin ι2 w2 R2 E2 he ?_
    rw [← hmark]
    exact Steps.trans (.one hs1) hs
  · obtain ⟨hrun, _⟩ := hcm
    simp only [goF] at hgo
    obtain ⟨fn, tmps, as', bd, hy, hsteps⟩ := HF.round _ _ _ _ _ hgo ι1 w1 R1 hid.2 hid.1
    obtain ⟨ι2, w2, hs, R2, E2, he⟩ := hsteps (on b (concL ι fr.T).toArray (mark ++ fr.defers.map (concDef ι)) (.inRangeFunc (ι1 l).block :: k.map cItem)) (X.cs ι pan)
    have hs1 := step_range_round (P := P) (b := b) (T := (concL ι fr.T).toArray) (ds := fr.defers.map (concDef ι)) (k := k.map cItem) (cs := X.cs ι pan) henter (hrun.trans hy)
    refine fin ι2 w2 R2 E2 he ?_
    rw [← hmark]
    exact Steps.trans (.one hs1) hs

theorem run_ok (Ft : Fits D P) {F : Fns} (HF : FnsOK D P F) : RunOK D P (runF D F) := by
  intro fr pan σ e pan' σ' h X b ι w B Rp I
  obtain ⟨fid, T, todo, ds, rd⟩ := fr
  -- a step that changes the code alone
  have go : ∀ todo', F.run { fn := fid, T, todo := todo', defers := ds, round := rd } pan σ = .ok (e, pan', σ') →
      step P (mach X b ι T ds pan (todo.map cItem) w) = .next (mach X b ι T ds pan (todo'.map cItem) w) →
      Out D P X b ι σ w e pan' σ' (mach X b ι T ds pan (todo.map cItem) w) := fun todo' h' hs =>
    Out.of_steps (.one hs) (Ext.refl _ _ _) (HF.run _ _ _ _ _ _ h' X b ι w (B.ext (Ext.refl ι σ w) rfl rfl) Rp I)
  -- the frame returns
  have leave : ∀ jump, (jump = none ∨ jump = some .ret) → rd = none → leaveF F { fn := fid, T, todo, defers := ds, round := rd } jump pan σ = .ok (e, pan', σ') →
      (∀ hb : b.roundOf = none, step P (mach X b ι T ds pan (todo.map cItem) w) = .next (lone (unwinding b (concL ι T).toArray (ds.map (concDef ι)) (todo.map cItem) .returning) (X.cs ι pan) w)) →
      Out D P X b ι σ w e pan' σ' (mach X b ι T ds pan (todo.map cItem) w) := by
    intro jump hj hr h' hs
    have hb : b.roundOf = none := by rw [B.round, hr]; rfl
    have h2 : F.finish fid T ds none pan σ = .ok (e, pan', σ') := by
      rcases hj with rfl | rfl <;> simpa [leaveF, hr] using h'
    refine Out.of_steps (.one (hs hb)) (Ext.refl _ _ _) ?_
    exact HF.finish _ _ _ _ _ _ _ _ _ h2 X b ι w (todo.map cItem) B.kind B.fn hb B.has Rp I (by simp)
  have knorm : ∀ l, rd = some l → b.kind = .normal := fun l hl => by
    obtain ⟨cs, hX⟩ := (B.rnd l hl).2
    rw [B.kind, hX]; rfl
  have hbr : ∀ l, rd = some l → b.roundOf = some (ι l).block := fun l hl => by rw [B.round, hl]; rfl
  cases todo with
  | nil =>
    simp only [runF] at h
    cases rd with
    | none => exact leave none (.inl rfl) rfl h fun hb => step_on_nil hb
    | some l =>
      exact leave_round rfl B Rp I h fun c cs v w' hc hv => by
        unfold mach; rw [hc]; exact .one (step_round_nil (hbr l rfl) (knorm l rfl) hv)
  | cons it k =>
    cases it with
    | inBlock id => simp only [runF] at h; exact go _ h step_on_inBlock
    | inScope c => simp only [runF] at h; exact go _ h step_on_inScope
    | inLoop c => simp only [runF] at h; exact go _ h step_on_inLoop
    | beginRound =>
      simp only [runF] at h
      cases rd with
      | none => simp at h
      | some l =>
        simp only [bind_ok] at h
        obtain ⟨r, hr, h⟩ := h
        split at h
        · rename_i hs
          obtain ⟨w1, h1, h2, h3⟩ := run_beginRound (P := P) Rp hr hs
          refine Out.of_steps (.one (step_begin (hbr l rfl) h1)) h3 ?_
          exact HF.run _ _ _ _ _ _ h X b ι w1 (B.ext h3 rfl rfl) h2 I
        · simp at h
    | code c =>
      cases c with
      | ret =>
        simp only [runF] at h
        cases rd with
        | none => exact leave (some .ret) (.inr rfl) rfl h fun hb => step_on_ret hb
        | some l =>
          exact leave_round rfl B Rp I h fun c cs v w' hc hv => by
            unfold mach; rw [hc]; exact .one (step_round_ret (hbr l rfl) (knorm l rfl) hv)
      | skip => simp only [runF] at h; exact go _ h step_on_skip
      | label l => simp only [runF] at h; exact go _ h step_on_label
      | seq x y => simp only [runF] at h; exact go _ h step_on_seq
      | block id x => simp only [runF] at h; exact go _ h step_on_block
      | loop x => simp only [runF] at h; exact go _ h step_on_loop
      | scope x => simp only [runF] at h; exact go _ h step_on_scope
      | refuse s => simp [runF] at h
      | cond c x y =>
        simp only [runF, bind_ok] at h
        obtain ⟨t, ht, h⟩ := h
        refine go _ h (step_on_cond ?_)
        rw [evalO_conc Rp T c]
        have : evalO D T c = .base (.bool t) := by
          unfold asB at ht
          split at ht
          · rename_i b' hb'; simp at ht; rw [hb', ht]
          · simp at ht
        rw [this, conc]
      | exit id =>
        simp only [runF] at h
        split at h
        · rename_i k' hk'
          exact go _ h (step_on_exit (by rw [exitTo_c, hk']; rfl))
        · rename_i hk'
          cases rd with
          | none => simp [leaveF] at h
          | some l =>
            exact leave_round rfl B Rp I h fun c cs v w' hc hv => by
              unfold mach; rw [hc]; exact .one (step_round_exit (hbr l rfl) (knorm l rfl) (by rw [exitTo_c, hk']; rfl) hv)
      | goto id =>
        simp only [runF] at h
        split at h
        · rename_i k' hk'
          exact go _ h (step_on_goto (by rw [gotoIn_c, hk']; rfl))
        · rename_i hk'
          cases rd with
          | none => simp [leaveF] at h
          | some l =>
            exact leave_round rfl B Rp I h fun c cs v w' hc hv => by
              unfold mach; rw [hc]; exact .one (step_round_goto (hbr l rfl) (knorm l rfl) (by rw [gotoIn_c, hk']; rfl) hv)
      | region id ops draw =>
        simp only [runF, bind_ok] at h
        obtain ⟨r, hr, h⟩ := h
        have hround : b.roundOf = none ↔ rd.isSome = false := by
          rw [B.round]; cases rd <;> simp
        obtain ⟨ι1, σ1, w1, hc, R1, E1⟩ := region_ok Ft HF.call HF.round B.kind hround (id := id) (k := k.map cItem) Rp I hr
        cases hc with
        | go steps ids =>
          simp only at h
          refine Out.of_steps steps E1 ?_
          exact HF.run _ _ _ _ _ _ h X b ι1 w1 (B.ext E1 rfl rfl) R1 ids
        | @panic _ _ _ T1 ds1 pan1 v1 todo' steps ids hv =>
          simp only at h
          refine Out.of_steps steps E1 ?_
          exact panic_ok HF (fr := { fn := fid, T := T1, todo := .code (.region id ops draw) :: k, defers := ds1, round := rd }) (B.ext E1 rfl rfl) R1 ids hv h
      | rangeFunc f params assign body =>
        simp only [runF] at h
        cases rd with
        | some l0 =>
          simp only [bind_ok] at h
          obtain ⟨r0, hr0, nx, hnx, ⟨e0, σ2⟩, hgo, h⟩ := h
          obtain ⟨hh, hs0, hi0, hd0⟩ := loop_heap Rp hr0
          let lp : ALoop := { state := .ready, pending := none, fn := fid, T, params := params.toList, assign, body, defers := r0.defers }
          obtain ⟨ι1, w1, h1, h2, h3, h4⟩ := push_obj (P := P) Rp (o := .loop lp) (ob := .loop (concLoop ι lp))
            (by
              have hag : ∀ b, b < σ.n → upd ι σ.n ⟨w.heap.size, 0, 0, 0⟩ b = ι b := fun b hb => upd_old (Nat.ne_of_lt hb)
              refine ⟨rfl, ?_, idsL_mono kpush _ I.T, Nat.lt_succ_of_lt hd0⟩
              rw [heap_alloc_new]
              simp only [concLoop, lp]
              rw [concL_agree hag T I.T, hag _ hd0])
          refine goF_ok Ft HF (k := k) (ds := ds) (l := σ.n) (mark := []) B I h2 h3 (Nat.lt_succ_self _) (idsDs_mono h3.k I.ds) (by rw [concDs_agree h3.agree I.ds]; rfl) ?_ hnx hgo h
          rw [hbr l0 rfl]
          simp only [Instr.enterLoop, Sem.run_bind, run_instrGet Rp hr0, Result.andThen_ok, Sem.run_pure]
          have : concLoop ι lp = { state := .ready, pending := none, fn := b.fn, tmps := (concL ι T).toArray, params, assign, body, defers := (concLoop ι r0).defers } := by
            simp [concLoop, lp, B.fn]
          rw [← this, h1, h4]
          rfl
        | none =>
          simp only [bind_ok] at h
          obtain ⟨nx, hnx, ⟨e0, σ2⟩, hgo, h⟩ := h
          obtain ⟨ι0, w0, g1, g2, g3, g4⟩ := push_obj (P := P) Rp (o := .deferred (some [])) (ob := .deferred (some []))
            (by refine ⟨rfl, ?_, by simp⟩; rw [heap_alloc_new]; rfl)
          let lp : ALoop := { state := .ready, pending := none, fn := fid, T, params := params.toList, assign, body, defers := σ.n }
          have hT0 : idsL ι0 (· < (σ.push (.deferred (some []))).n) T := idsL_mono g3.k T I.T
          obtain ⟨ι1, w1, h1, h2, h3, h4⟩ := push_obj (P := P) g2 (o := .loop lp) (ob := .loop (concLoop ι0 lp))
            (by
              have hag : ∀ b, b < (σ.push (.deferred (some []))).n → upd ι0 (σ.push (.deferred (some []))).n ⟨w0.heap.size, 0, 0, 0⟩ b = ι0 b := fun b hb => upd_old (Nat.ne_of_lt hb)
              have hdn : lp.defers < (σ.push (.deferred (some []))).n := Nat.lt_succ_self _
              refine ⟨rfl, ?_, idsL_mono kpush _ hT0, Nat.lt_succ_of_lt hdn⟩
              rw [heap_alloc_new]
              simp only [concLoop, lp]
              rw [concL_agree hag T hT0, hag _ hdn])
          have E := g3.trans h3
          have hd1 : idsDef ι1 (· < ((σ.push (.deferred (some []))).push (.loop lp)).n) (.collected σ.n) := by
            show σ.n < σ.n + 1 + 1
            omega
          have hι1 : (ι1 σ.n).block = w.heap.size := by
            rw [h3.agree σ.n (Nat.lt_succ_self _), g4]
          refine goF_ok Ft HF (k := k) (ds := .collected σ.n :: ds) (l := σ.n + 1) (mark := [{ target := .collected w.heap.size, args := #[] }]) B I h2 E
            (by show σ.n + 1 < σ.n + 1 + 1; omega) (by
              intro d hd
              rcases List.mem_cons.1 hd with rfl | hd
              · exact hd1
              · exact idsDef_mono E.k d (I.ds d hd)) (by
              rw [List.map_cons, concDs_agree E.agree I.ds]
              simp [concDef, hι1]) ?_ hnx hgo h
          have hb : b.roundOf = none := by rw [B.round]; rfl
          rw [hb]
          simp only [Instr.enterLoop, Sem.run_bind, g1, Result.andThen_ok, Sem.run_pure]
          have : concLoop ι0 lp = { state := .ready, pending := none, fn := b.fn, tmps := (concL ι T).toArray, params, assign, body, defers := w.heap.size } := by
            have hb' : b.fn = fid := B.fn
            simp [concLoop, lp, hb', g4, concL_agree g3.agree T I.T]
          rw [← this, h1]
          have h4' : (ι1 (σ.n + 1)).block = w0.heap.size := by
            have : ι1 (σ.push (.deferred (some []))).n = ⟨w0.heap.size, 0, 0, 0⟩ := h4
            exact congrArg Loc.block this
          rw [h4']
          rfl

end
end Go.Dt
