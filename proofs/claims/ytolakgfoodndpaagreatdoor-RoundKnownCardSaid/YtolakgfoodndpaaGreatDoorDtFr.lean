/-
  Calls of the deterministic reading are sound. No statement of this seat stands here.
-/
import Derived.Test.YtolakgfoodndpaaGreatDoorDtFq
namespace Go.Dt

/-- memory that was there is left alone -/
structure Fresh (w w' : World) : Prop where
  os : w'.os = w.os
  tape : w'.tape = w.tape
  output : w'.output = w.output
  size : w.heap.size ≤ w'.heap.size
  old : ∀ r, r < w.heap.size → w'.heap[r]? = w.heap[r]?

def Tab.bare (D : Tab) : Tab := { D with memo := fun _ => True }

structure MemoOK (D : Tab) (P : Program) (m : Memo) : Prop where
  nd : nodup (refsA (bareSt .e m.res) copyFuel m.val) = true
  call : ∀ ι w, Rep D.bare ι (bareSt .e m.heap) w → idsL ι (· < m.heap.length) m.args → (∀ b, b < m.heap.length → ((bareSt .e m.heap).getO b).isMut = false) →
    Calls P m.f (concL ι m.args).toArray w fun en w' => ∃ ιY, en = .returned (conc ιY m.val) ∧ Rep D.bare ιY (bareSt .e m.res) w' ∧ ids ιY (· < m.res.length) m.val ∧ Fresh w w' ∧
      ∀ b, b < m.res.length → (bareSt .e m.res).getO b ≠ .gone → w.heap.size ≤ (ιY b).block

section
variable {D : Tab} {P : Program}

theorem Rep.bare {ι : Nat → Loc} {σ : St} {w : World} (R : Rep D ι σ w) : Rep D.bare ι σ w :=
  ⟨R.len, R.glob, R.gloc, R.obj, R.sep, fun _ _ => trivial⟩

theorem getO_M (σ : St) (M : MTree) (b : Nat) : ({ σ with M := M } : St).getO b = σ.getO b := rfl

/-- the same memory with other memos -/
theorem Rep.reM {ι : Nat → Loc} {σ : St} {w : World} (R : Rep D.bare ι σ w) (M : MTree) (hM : ∀ m, M.mem m → D.memo m) : Rep D ι { σ with M := M } w :=
  ⟨R.len, R.glob, R.gloc, R.obj, R.sep, hM⟩

theorem Rep.toBare {ι : Nat → Loc} {σ : St} {w : World} (R : Rep D ι σ w) : Rep D.bare ι (bareSt .e σ.l) w := by
  have : bareSt .e σ.l = { σ with M := .e } := by simp [bareSt, R.len]
  rw [this]
  exact ⟨R.len, R.glob, R.gloc, R.obj, R.sep, fun _ _ => trivial⟩

theorem bareSt_eq {ι : Nat → Loc} {σ : St} {w : World} (R : Rep D ι σ w) : bareSt .e σ.l = { σ with M := .e } := by simp [bareSt, R.len]

theorem replGone_length : ∀ n, (replGone n).length = n
  | 0 => rfl
  | n + 1 => by simp [replGone, replGone_length n]
theorem replGone_get : ∀ (n i : Nat) (o : AO), (replGone n)[i]? = some o → o = AO.gone
  | 0, i, o, h => by simp [replGone] at h
  | n + 1, 0, o, h => by simpa [replGone] using h.symm
  | n + 1, i + 1, o, h => replGone_get n i o (by simpa [replGone] using h)
theorem fresh_gone (D : Tab) (M : MTree) (b : Nat) : (freshSt D M).getO b = .gone := by
  unfold St.getO
  split
  · simp only [freshSt]
    cases h : (replGone D.nglob)[D.nglob - 1 - b]? with
    | none => rfl
    | some o => simp [replGone_get _ _ _ h]
  · rfl

theorem fresh_rep {ι : Nat → Loc} {σ : St} {w : World} (R : Rep D ι σ w) {M : MTree} (hM : ∀ m, M.mem m → D.memo m) : Rep D ι (freshSt D M) w where
  len := by simp [freshSt, replGone_length]
  glob := Nat.le_refl _
  gloc := R.gloc
  obj := fun b _ => by rw [fresh_gone]; trivial
  sep := fun b b' _ _ _ hm => by rw [fresh_gone] at hm; simp [AO.isMut] at hm
  mem := hM

theorem beqH_ok {a b : List AO} (h : beqH a b = true) : a = b := beqH_ok' h
theorem findMemo_ok {f : FuncId} {args : List AV} {hp : List AO} : ∀ {M : List Memo} {m : Memo}, findMemo f args hp M = some m → m ∈ M ∧ m.f = f ∧ m.args = args ∧ m.heap = hp
  | [], m, h => by simp [findMemo] at h
  | m0 :: M, m, h => by
    unfold findMemo at h
    split at h
    · rename_i hc
      simp at h
      subst h
      simp only [Bool.and_eq_true, beq_iff_eq] at hc
      exact ⟨by simp, hc.1.1, beqL_ok _ _ hc.1.2, beqH_ok hc.2⟩
    · obtain ⟨h1, h2⟩ := findMemo_ok h
      exact ⟨List.mem_cons_of_mem _ h1, h2⟩

/-- old memory goes on to be what it was -/
theorem Rep.fresh {ι : Nat → Loc} {σ : St} {w w' : World} (R : Rep D ι σ w) (h : Fresh w w') : Rep D ι σ w' :=
  ⟨R.len, R.glob, R.gloc, fun b hb => by
    by_cases hg : σ.getO b = .gone
    · rw [hg]; trivial
    · exact (R.obj b hb).congr (h.old _ ((R.obj b hb).lt hg)), R.sep, R.mem⟩

theorem Ext.fresh {ι ι' : Nat → Loc} {σ σ' : St} {w w' : World} (E : Ext ι σ w ι' σ' w') (h : ∀ b, b < σ.n → (σ.getO b).isMut = false) : Fresh w w' :=
  ⟨E.os, E.tape, E.output, E.size, fun r hr => E.frame r hr fun b hb hm => by rw [h b hb] at hm; cases hm⟩

/-- a result is taken into the caller's heap -/
theorem memoF_ok {m : Memo} {σ σ0 σ' : St} {ι ιY : Nat → Loc} {w w' : World} {e : AEnd} (h : memoF m σ0 = .ok (e, σ')) (h0 : σ0.n = σ.n ∧ σ0.l = σ.l) (hM : ∀ m, σ0.M.mem m → D.memo m) (R : Rep D ι σ w)
    (nd : nodup (refsA (bareSt .e m.res) copyFuel m.val) = true) (RY : Rep D.bare ιY (bareSt .e m.res) w') (hid : ids ιY (· < m.res.length) m.val) (hf : Fresh w w')
    (hnew : ∀ b, b < m.res.length → (bareSt .e m.res).getO b ≠ .gone → w.heap.size ≤ (ιY b).block) :
    ∃ ι', concEnd ι' e = .returned (conc ιY m.val) ∧ Rep D ι' σ' w' ∧ Ext ι σ w ι' σ' w' ∧ idsEnd ι' (· < σ'.n) e := by
  simp only [memoF, bind_ok, pure_ok, Prod.mk.injEq] at h
  obtain ⟨⟨v, σ1⟩, hc, rfl, rfl⟩ := h
  have hgo : ∀ b, σ0.getO b = σ.getO b := fun b => by simp [St.getO, h0.1, h0.2]
  have R0 : Rep D ι σ0 w' := by
    have R1 := R.fresh hf
    exact ⟨by rw [h0.1, h0.2]; exact R1.len, by rw [h0.1]; exact R1.glob, R1.gloc, fun b hb => by rw [hgo, h0.1]; exact R1.obj b (by rw [← h0.1]; exact hb),
      fun b b' hb hb' => by rw [hgo, hgo]; exact R1.sep b b' (by rw [← h0.1]; exact hb) (by rw [← h0.1]; exact hb'), hM⟩
  have RY' : Rep D ιY (bareSt .e m.res) w' := by
    have := RY.reM (D := D) .e (fun _ h => h.elim)
    exact this
  obtain ⟨ι', hcp, hconc, hids⟩ := copy_ok true RY' copyFuel _ _ _ _ hc ι R0 hid (fun _ => nodup_ok nd) (fun s hs b hb hg => by
    rw [hgo] at hg
    have h1 : (ι b).block < w.heap.size := (R.obj b (by rw [← h0.1]; exact hb)).lt hg
    have hne := refs_ne (bareSt .e m.res) copyFuel _ s hs
    have h2 := hnew s (getO_gone hne) hne
    omega)
  refine ⟨ι', by simp [concEnd, hconc], hcp.rep, ⟨hf.os, hf.tape, hf.output, hf.size, by rw [← h0.1]; exact hcp.n, fun b hb => hcp.agree b (by rw [h0.1]; exact hb), fun r hr _ => hf.old r hr, fun b hb hg => ?_⟩, hids⟩
  by_cases hb0 : b < σ0.n
  · right
    rw [hcp.old b hb0, hgo] at hg
    refine ⟨b, by rw [← h0.1]; exact hb0, hg, ?_, by rw [hcp.agree b hb0]⟩
    rw [hcp.old b hb0, hgo]
    exact id
  · left
    obtain ⟨_, s, hs, he⟩ := hcp.new b (by omega) hb
    have hne := refs_ne (bareSt .e m.res) copyFuel _ s hs
    rw [he]
    exact hnew s (getO_gone hne) hne

/-- what one run of a pure function says of all its runs -/
theorem pureF_ok (Ft : Fits D P) {F : Fns} (HF : FnsOK D P F) {f : FuncId} {args : List AV} {σX : St} {m : Memo} {M : MTree} (h : pureF D F f args σX = .ok (m, M))
    (hM : ∀ m, σX.M.mem m → D.memo m) (hlen : σX.l.length = σX.n) :
    m.f = f ∧ m.args = args ∧ m.heap = σX.l ∧ MemoOK D P m ∧
      (∀ ι w, Rep D ι σX w → idsL ι (· < σX.n) args → ∀ m, M.mem m → D.memo m) := by
  simp only [pureF, bind_ok] at h
  obtain ⟨fr, hfr, ⟨e, p2, σ2⟩, hrun, h⟩ := h
  cases e with
  | panic v => simp at h
  | ret v =>
    simp only at h
    split at h
    · rename_i hnd2
      simp only [bind_ok] at h
      obtain ⟨⟨y, σY⟩, hcp, h⟩ := h
      split at h
      · rename_i hndY
        simp at h
        obtain ⟨rfl, rfl⟩ := h
        -- one run
        have one : ∀ (cs : List Frame) (ι : Nat → Loc) (w : World), Rep D ι σX w → idsL ι (· < σX.n) args → Out D P (.norm cs) (Frame.enter P f (concL ι args).toArray .normal) ι σX w (.ret v) p2 σ2
            (lone (Frame.enter P f (concL ι args).toArray .normal) cs w) := by
          intro cs ι w RX hargs
          obtain ⟨h1, h2, h3, h4, h5, h6⟩ := enter_ok Ft hfr ι (· < σX.n) hargs .normal
          have hO := HF.run _ _ _ _ _ _ hrun (.norm cs) (Frame.enter P f (concL ι args).toArray .normal) ι w
            ⟨rfl, h1.symm, by rw [h2]; rfl, by rw [h2]; simp, h5⟩ RX ⟨rfl, h4, by rw [h3]; intro d hd; simp at hd, trivial⟩
          have hm : mach (.norm cs) (Frame.enter P f (concL ι args).toArray .normal) ι fr.T fr.defers none (fr.todo.map cItem) w = lone (Frame.enter P f (concL ι args).toArray .normal) cs w := by
            unfold mach
            rw [h3, List.map_nil, ← h6]
            rfl
          rw [hm] at hO
          exact hO
        refine ⟨rfl, rfl, rfl, ⟨hndY, fun ι w Rb hargs hmut cs => ?_⟩, fun ι w RX hargs m' hm' => ?_⟩
        · have hst : ({ bareSt .e σX.l with M := σX.M } : St) = σX := by
            cases σX with
            | mk n l M => simp only [bareSt] at hlen ⊢; simp_all
          have RX : Rep D ι σX w := by
            have := Rb.reM (D := D) σX.M hM
            rwa [hst] at this
          have hmut' : ∀ b, b < σX.n → (σX.getO b).isMut = false := fun b hb => by
            have h1 : σX.getO b = (bareSt .e σX.l).getO b := by simp [St.getO, bareSt, hlen]
            rw [h1]
            exact hmut b (by show b < σX.l.length; omega)
          obtain ⟨ι2, w2, R2, E2, hen, _, _, hG⟩ := one cs ι w RX (by simpa [hlen] using hargs)
          unfold Gone at hG
          have hr0 : (Frame.enter P f (concL ι args).toArray .normal).roundOf = none := rfl
          simp only [hr0] at hG
          obtain ⟨fr', hs', hfn', hdef', hkind', fn', hfn'', hmode, hres⟩ := hG
          have hfresh := E2.fresh hmut'
          obtain ⟨ιY, hc, hconc, hids⟩ := copy_ok true R2 copyFuel _ _ _ _ hcp ι2 (fresh_rep R2 (M := .e) (fun _ h => h.elim)) hen (fun _ => nodup_ok hnd2) (fun s _ b hb hg => by rw [fresh_gone] at hg; exact (hg rfl).elim)
          have hlY := hc.rep.len
          refine ⟨.returned (conc ι2 v), w2, fr', ⟨ιY, by rw [hconc], hc.rep.toBare, by simpa [hlY] using hids, hfresh, fun b hb hg => ?_⟩, hs', hfn', hmode, hdef', hkind', fn', by rw [hfn']; exact hfn'', hres⟩
          have hg' : σY.getO b ≠ .gone := by
            rw [bareSt_eq hc.rep] at hg
            exact hg
          have hbn : b < σY.n := getO_gone hg'
          have hbf : ¬ b < (freshSt D .e).n := fun hlt => by
            rw [hc.old b hlt, fresh_gone] at hg'
            exact hg' rfl
          obtain ⟨_, s, hs, he⟩ := hc.new b (Nat.le_of_not_lt hbf) hbn
          have hsm := hc.own rfl s hs
          rw [he]
          rcases E2.own s (getO_gone (AO.isMut_ne hsm)) (AO.isMut_ne hsm) with h1 | ⟨b0, hb0, _, h3, _⟩
          · exact h1
          · have := hmut' b0 hb0
            rw [h3 hsm] at this
            cases this
        · obtain ⟨ι2, w2, R2, _⟩ := one [] ι w RX hargs
          exact R2.mem m' hm'
      · simp at h
    · simp at h

theorem call_ok (Ft : Fits D P) (HM : ∀ m, D.memo m ↔ MemoOK D P m) {F : Fns} (HF : FnsOK D P F) : CallOK D P (callF D F) := by
  intro f args σ e σ' h ι w R hargs
  unfold callF at h
  split at h
  · -- pure
    simp only [bind_ok] at h
    obtain ⟨⟨args', σX⟩, hcp, h⟩ := h
    obtain ⟨ιX, hcX, hconcX, hidsX⟩ := copyL_ok R (refs_ne σ copyFuel) (copy_ok false R copyFuel) _ _ _ _ hcp ι (fresh_rep R R.mem) hargs (by simp) (fun b hb => by rw [fresh_gone]; rfl)
    have hmX : ∀ b, b < σX.n → (σX.getO b).isMut = false := fun b hb => by
      by_cases hb0 : b < (freshSt D σ.M).n
      · rw [hcX.old b hb0, fresh_gone]; rfl
      · exact (hcX.new b (Nat.le_of_not_lt hb0) hb).1
    have hMX : ∀ m, σX.M.mem m → D.memo m := hcX.rep.mem
    have hlX := hcX.rep.len
    -- the memo's call
    have key : ∀ (m : Memo) (σ0 : St), MemoOK D P m → m.f = f → m.args = args' → m.heap = σX.l → memoF m σ0 = .ok (e, σ') → σ0.n = σ.n ∧ σ0.l = σ.l → (∀ m, σ0.M.mem m → D.memo m) →
        Calls P f (concL ι args).toArray w fun en w' => ∃ ι', en = concEnd ι' e ∧ Rep D ι' σ' w' ∧ Ext ι σ w ι' σ' w' ∧ idsEnd ι' (· < σ'.n) e := by
      intro m σ0 hm hf ha hh hmf h0 hM0 cs
      have hb : bareSt .e m.heap = { σX with M := .e } := by rw [hh]; exact bareSt_eq hcX.rep
      have hcall := hm.call ιX w (by rw [hh]; exact hcX.rep.toBare) (by rw [ha, hh, hlX]; exact hidsX) (fun b hb' => by rw [hb]; exact hmX b (by rw [hh, hlX] at hb'; exact hb'))
      rw [hf, ha, hconcX] at hcall
      obtain ⟨en, w', fr, ⟨ιY, rfl, RY, hidY, hfr, hnew⟩, hc1, hc2, hc3⟩ := hcall cs
      obtain ⟨ι', h1, h2, h3, h4⟩ := memoF_ok hmf h0 hM0 R hm.nd RY hidY hfr hnew
      exact ⟨_, w', fr, ⟨ι', h1.symm, h2, h3, h4⟩, hc1, hc2, hc3⟩
    split at h
    · rename_i m hm
      obtain ⟨h1, h2, h3, h4⟩ := findMemo_ok hm
      exact key m σ ((HM m).1 (hMX m (MTree.mem_get _ _ h1))) h2 h3 h4 h ⟨rfl, rfl⟩ R.mem
    · simp only [bind_ok] at h
      obtain ⟨⟨m, M⟩, hp, h⟩ := h
      obtain ⟨h1, h2, h3, h4, h5⟩ := pureF_ok Ft HF hp hMX hlX
      refine key m _ h4 h1 h2 h3 h ⟨rfl, rfl⟩ fun m' hm' => ?_
      rcases MTree.mem_add _ _ hm' with rfl | hm'
      · exact (HM _).2 h4
      · exact h5 ιX w hcX.rep hidsX m' hm'
  · -- plain
    simp only [plainF, bind_ok, pure_ok, Prod.mk.injEq] at h
    obtain ⟨fr, hfr, ⟨e1, p2, σ2⟩, hrun, rfl, rfl⟩ := h
    intro cs
    obtain ⟨h1, h2, h3, h4, h5, h6⟩ := enter_ok Ft hfr ι (· < σ.n) hargs .normal
    have hO := HF.run _ _ _ _ _ _ hrun (.norm cs) (Frame.enter P f (concL ι args).toArray .normal) ι w
      ⟨rfl, h1.symm, by rw [h2]; rfl, by rw [h2]; simp, h5⟩ R ⟨rfl, h4, by rw [h3]; intro d hd; simp at hd, trivial⟩
    have hm : mach (.norm cs) (Frame.enter P f (concL ι args).toArray .normal) ι fr.T fr.defers none (fr.todo.map cItem) w = lone (Frame.enter P f (concL ι args).toArray .normal) cs w := by
      unfold mach
      rw [h3, List.map_nil, ← h6]
      rfl
    rw [hm] at hO
    obtain ⟨ι2, w2, R2, E2, hen, _, _, hG⟩ := hO
    unfold Gone at hG
    have hr0 : (Frame.enter P f (concL ι args).toArray .normal).roundOf = none := rfl
    simp only [hr0] at hG
    obtain ⟨fr', hs', hfn', hdef', hkind', fn', hfn'', hend⟩ := hG
    cases e1 with
    | ret v => exact ⟨_, w2, fr', ⟨ι2, rfl, R2, E2, hen⟩, hs', hfn', hend.1, hdef', hkind', fn', by rw [hfn']; exact hfn'', hend.2⟩
    | panic v => exact ⟨_, w2, fr', ⟨ι2, rfl, R2, E2, hen⟩, hs', hfn', hend, hdef', fn', by rw [hfn']; exact hfn''⟩

theorem setParams_conc (ι : Nat → Loc) : ∀ (l : List (Tmp × AV)) (T : List AV), (concL ι (setParams l T)) = (l.foldl (fun (t : List Value) (p : Tmp × AV) => t.set p.1 (conc ι p.2)) (concL ι T))
  | [], T => rfl
  | (t, a) :: l, T => by
    simp only [setParams, List.foldl_cons]
    rw [setParams_conc ι l]
    congr 1
    simp [concL_eq, List.map_set]
theorem setParams_ids {ι : Nat → Loc} {A : Nat → Prop} : ∀ (l : List (Tmp × AV)) (T : List AV), (∀ p, p ∈ l → ids ι A p.2) → idsL ι A T → idsL ι A (setParams l T)
  | [], T, _, h => h
  | (t, a) :: l, T, hl, h => setParams_ids l _ (fun p hp => hl p (List.mem_cons_of_mem _ hp)) (idsL_set h (hl (t, a) (by simp)) t)

theorem foldl_tmps (l : List (Tmp × Value)) : ∀ (A : Array Value), (l.foldl (fun (tmps : Array Value) (p : Tmp × Value) => tmps.setIfInBounds p.1 p.2) A).toList = l.foldl (fun (t : List Value) (p : Tmp × Value) => t.set p.1 p.2) A.toList := by
  induction l with
  | nil => intro A; rfl
  | cons p l ih =>
    intro A
    simp only [List.foldl_cons]
    rw [ih]
    simp

theorem round_ok (Ft : Fits D P) {F : Fns} (HF : FnsOK D P F) : RoundOK D P (roundF D F) := by
  intro l args σ e σ' h ι w R hargs hl
  simp only [roundF, bind_ok] at h
  obtain ⟨r, hr, h⟩ := h
  obtain ⟨hh, hs0, hi0, hd0⟩ := loop_heap R hr
  split at h
  · simp at h
  · rename_i fn0 hfn0
    split at h
    · rename_i hlen
      simp only [bind_ok, pure_ok, Prod.mk.injEq] at h
      obtain ⟨⟨e1, p2, σ2⟩, hrun, rfl, rfl⟩ := h
      have hT : idsL ι (· < σ.n) (setParams (r.params.zip args) r.T) := setParams_ids _ _ (fun p hp => idsL_iff.1 hargs _ (List.of_mem_zip hp).2) hi0
      have htm : (((concLoop ι r).params.zip (concL ι args).toArray).foldl (fun tmps (t, a) => tmps.setIfInBounds t a) (concLoop ι r).tmps) = (concL ι (setParams (r.params.zip args) r.T)).toArray := by
        apply Array.ext'
        rw [← Array.foldl_toList]
        have h1 : ((concLoop ι r).params.zip (concL ι args).toArray).toList = (r.params.zip args).map fun p => (p.1, conc ι p.2) := by
          simp [concLoop, concL_eq, List.zip_map_right]
        rw [h1]
        have h2 := foldl_tmps ((r.params.zip args).map fun p => (p.1, conc ι p.2)) (concLoop ι r).tmps
        have h3 : (concLoop ι r).tmps.toList = concL ι r.T := rfl
        rw [h3] at h2
        refine Eq.trans ?_ (h2.trans ?_)
        · rfl
        · rw [setParams_conc, List.foldl_map]
      refine ⟨r.fn, (concL ι (setParams (r.params.zip args) r.T)).toArray, r.assign, r.body, ?_, fun c cs => ?_⟩
      · simp only [Instr.yield, Sem.run_bind, run_instrGet R hr, Result.andThen_ok]
        have : ¬ ((concL ι args).toArray.size ≠ (concLoop ι r).params.size) := by simp [concLoop, hlen]
        rw [if_neg this]
        simp only [Sem.run_pure, Sem.run_bind, Result.andThen_ok, htm]
        rfl
      · have hO := HF.run _ _ _ _ _ _ hrun (.norm (c :: cs)) (Frame.round (ι l).block r.fn (concL ι (setParams (r.params.zip args) r.T)).toArray r.assign r.body .normal) ι w
          ⟨rfl, rfl, rfl, fun l' hl' => by cases hl'; exact ⟨hl, _, rfl⟩, ⟨fn0, Ft.func _ _ hfn0⟩⟩ R ⟨rfl, hT, (by intro d hd; simp at hd), trivial⟩
        obtain ⟨ι2, w2, R2, E2, hen, _, _, hG⟩ := hO
        unfold Gone at hG
        have hr0 : (Frame.round (ι l).block r.fn (concL ι (setParams (r.params.zip args) r.T)).toArray r.assign r.body .normal).roundOf = some (ι l).block := rfl
        simp only [hr0] at hG
        exact ⟨ι2, w2, hG c cs rfl, R2, E2, hen⟩
    · simp at h

theorem noFns_ok : FnsOK D P noFns where
  run := fun _ _ _ _ _ _ h => by simp [noFns] at h
  finish := fun _ _ _ _ _ _ _ _ _ h => by simp [noFns] at h
  endLoop := fun _ _ _ _ _ _ _ _ h => by simp [noFns] at h
  call := fun _ _ _ _ _ h => by simp [noFns] at h
  round := fun _ _ _ _ _ h => by simp [noFns] at h

theorem nextFns_ok (Ft : Fits D P) (HM : ∀ m, D.memo m ↔ MemoOK D P m) {F : Fns} (HF : FnsOK D P F) : FnsOK D P (nextFns D F) where
  run := run_ok Ft HF
  finish := finish_ok Ft HF
  endLoop := endLoop_ok HF
  call := call_ok Ft HM HF
  round := round_ok Ft HF

theorem fns_ok (Ft : Fits D P) (HM : ∀ m, D.memo m ↔ MemoOK D P m) : ∀ n, FnsOK D P (fns D n)
  | 0 => noFns_ok
  | n + 1 => nextFns_ok Ft HM (fns_ok Ft HM n)

end
end Go.Dt
