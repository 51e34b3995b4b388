/-
  The reading without fuel is sound: what it finds, the deterministic reading finds with some fuel. No statement of this seat stands here.
-/
import Derived.Test.YtkpkmjanikkpoaaGreatDoorP12
namespace Go.Dt
section
variable {D : Tab} {N : Nat} {ds : List ADef} {rd : Option Nat}

theorem rndW_up {l : Nat} {args : List AV} {σ : St} {r : AEnd × St} {n : Nat} (h : (fns D n).round l args σ = .ok r) {m : Nat} (hm : n ≤ m) : (fns D m).round l args σ = .ok r :=
  (fns_le' hm).round _ _ _ _ h
theorem callW_up {f : FuncId} {args : List AV} {σ : St} {r : AEnd × St} {n : Nat} (h : (fns D n).call f args σ = .ok r) {m : Nat} (hm : n ≤ m) : (fns D m).call f args σ = .ok r :=
  (fns_le' hm).call _ _ _ _ h

/-- what a region's operations come to, with some fuel -/
def RG (ds : List ADef) (N : Nat) (X : Nat → R OpEnd) : RO → Prop
  | .go T' σ' => ∃ L', TE N T' L' ∧ ∃ n, X n = .ok (.go L' ds none σ')
  | .pan v σ' => ∃ L' n, X n = .ok (.panic v L' ds none σ')

theorem oneE_run {o : Oper} {T : Rg} {L : List AV} {σ : St} {r : RO} (hT : TE N T L) (h : oneE D (callW D) (rndW D) N o T σ = .ok r) :
    RG ds N (fun n => runOne D (fns D n).call (fns D n).round rd.isSome o L ds none σ) r := by
  unfold oneE at h
  rw [bindR_ok] at h
  obtain ⟨⟨nx, σ1⟩, he, h⟩ := h
  rw [← hT.eval] at he
  unfold runOne
  simp only [he]
  cases nx with
  | value v =>
    simp only [nextE] at h
    cases h
    exact ⟨_, hT.put _ _, 0, rfl⟩
  | skip =>
    simp only [nextE] at h
    cases h
    exact ⟨_, hT.put _ _, 0, rfl⟩
  | enter f args =>
    simp only [nextE, bindR_ok] at h
    obtain ⟨⟨e, σ2⟩, hc, h⟩ := h
    obtain ⟨n, hn⟩ := callW_ok.1 hc
    cases e with
    | ret v =>
      simp only at h
      cases h
      refine ⟨_, hT.put _ _, n, ?_⟩
      show ((fns D n).call f args σ1 >>= _) = _
      rw [hn]; rfl
    | panic v =>
      simp only at h
      cases h
      refine ⟨L, n, ?_⟩
      show ((fns D n).call f args σ1 >>= _) = _
      rw [hn]; rfl
  | round f args =>
    simp only [nextE, bindR_ok] at h
    obtain ⟨⟨e, σ2⟩, hc, h⟩ := h
    obtain ⟨n, hn⟩ := rndW_ok.1 hc
    cases e with
    | ret v =>
      simp only at h
      cases h
      refine ⟨_, hT.put _ _, n, ?_⟩
      show ((fns D n).round f args σ1 >>= _) = _
      rw [hn]; rfl
    | panic v =>
      simp only at h
      cases h
      refine ⟨L, n, ?_⟩
      show ((fns D n).round f args σ1 >>= _) = _
      rw [hn]; rfl
  | panic v =>
    simp only [nextE] at h
    cases h
    exact ⟨L, 0, rfl⟩
  | _ => simp [nextE] at h

theorem runOne_up {o : Oper} {L : List AV} {σ : St} {r : OpEnd} {n m : Nat} (h : runOne D (fns D n).call (fns D n).round rd.isSome o L ds none σ = .ok r) (hm : n ≤ m) :
    runOne D (fns D m).call (fns D m).round rd.isSome o L ds none σ = .ok r :=
  runOne_mono (fns_le' hm).call (fns_le' hm).round _ _ _ _ _ _ _ h

theorem seqE_run {ops : Array Oper} : ∀ (l : List Oper) {T : Rg} {L : List AV} {σ : St} {r : RO}, TE N T L → seqE D (callW D) (rndW D) N ops l T σ = .ok r →
    RG ds N (fun n => runSeq D (fns D n).call (fns D n).round rd.isSome ops l L ds none σ) r
  | [], T, L, σ, r, hT, h => by
    simp only [seqE] at h
    cases h
    exact ⟨L, hT, 0, rfl⟩
  | o :: rest, T, L, σ, r, hT, h => by
    unfold seqE at h
    unfold runSeq
    rw [hT.want]
    cases hw : wantE N ops o T with
    | false =>
      rw [hw] at h
      simp only [cond_false] at h
      simp only [Bool.false_eq_true, if_false]
      exact seqE_run rest (hT.put _ _) h
    | true =>
      rw [hw] at h
      simp only [cond_true, bindR_ok] at h
      simp only [if_true]
      obtain ⟨r1, h1, h⟩ := h
      have k1 := oneE_run (ds := ds) (rd := rd) hT h1
      cases r1 with
      | go T1 σ1 =>
        obtain ⟨L1, hT1, n1, hn1⟩ := k1
        have k2 := seqE_run rest hT1 h
        cases r with
        | go T' σ' =>
          obtain ⟨L', hT', n2, hn2⟩ := k2
          refine ⟨L', hT', max n1 n2, ?_⟩
          dsimp only at hn1 hn2 ⊢
          rw [runOne_up hn1 (Nat.le_max_left n1 n2)]
          exact runSeq_mono (fns_le' (Nat.le_max_right n1 n2)).call (fns_le' (Nat.le_max_right n1 n2)).round _ _ _ _ _ _ _ _ hn2
        | pan v σ' =>
          obtain ⟨L', n2, hn2⟩ := k2
          refine ⟨L', max n1 n2, ?_⟩
          dsimp only at hn1 hn2 ⊢
          rw [runOne_up hn1 (Nat.le_max_left n1 n2)]
          exact runSeq_mono (fns_le' (Nat.le_max_right n1 n2)).call (fns_le' (Nat.le_max_right n1 n2)).round _ _ _ _ _ _ _ _ hn2
      | pan v σ1 =>
        obtain ⟨L1, n1, hn1⟩ := k1
        simp only [RO.app] at h
        cases h
        refine ⟨L1, n1, ?_⟩
        dsimp only at hn1 ⊢
        rw [hn1]
        rfl

theorem lenS_eq : ∀ l : List St, drawK.lenS l = l.length
  | [] => rfl
  | _ :: l => by simp [drawK.lenS, lenS_eq l]

theorem sameE_eq {T : Rg} {L : List AV} (hT : TE N T L) : sameAt D L = sameE D T := by
  funext op v s
  simp only [sameAt, sameE, sameR, hT.eval]
  rfl

theorem drawE_run {ops : Array Oper} : ∀ (l : List PlanItem) (sn : List St) {T : Rg} {L : List AV} {σ : St} {p : Rg × St}, TE N T L → drawE D (callW D) (rndW D) N ops l sn T σ = .ok p →
    ∃ L', TE N p.1 L' ∧ ∃ n, runDraw D (fns D n).call (fns D n).round rd.isSome ops l sn L ds none σ = .ok (.go L' ds none p.2)
  | [], sn, T, L, σ, p, hT, h => by
    simp only [drawE] at h
    cases h
    exact ⟨L, hT, 0, rfl⟩
  | it :: rest, sn, T, L, σ, p, hT, h => by
    unfold drawE at h
    unfold runDraw
    cases hop : ops[it.i]? with
    | none => rw [hop] at h; cases h
    | some o =>
      rw [hop] at h
      simp only at h ⊢
      rw [hT.want]
      cases hw : wantE N ops o T with
      | false =>
        rw [hw] at h
        simp only [cond_false] at h
        simp only [Bool.false_eq_true, if_false]
        have e : (if it.act = true then σ :: sn else sn) = (bif it.act then σ :: sn else sn) := by cases it.act <;> rfl
        rw [e]
        exact drawE_run rest _ (hT.put _ _) h
      | true =>
        rw [hw] at h
        simp only [cond_true] at h
        simp only [if_true]
        cases hact : it.act with
        | true =>
          rw [hact] at h
          simp only [cond_true] at h
          simp only [if_true]
          rw [hT.eval]
          cases hb : (o.op.operands.toList.all fun x => bndA σ.n (evalE D T x)) with
          | false => rw [hb] at h; cases h
          | true =>
            rw [hb] at h
            simp only [cond_true, bindR_ok] at h
            simp only [if_true]
            obtain ⟨r1, h1, h⟩ := h
            have k1 := oneE_run (ds := ds) (rd := rd) hT h1
            cases r1 with
            | pan v σ1 => cases h
            | go T1 σ1 =>
              obtain ⟨L1, hT1, n1, hn1⟩ := k1
              simp only [RO.app] at h
              cases hle : Nat.ble σ.n σ1.n with
              | false => rw [hle] at h; cases h
              | true =>
                rw [hle] at h
                simp only [cond_true] at h
                obtain ⟨L', hT', n2, hn2⟩ := drawE_run rest _ hT1 h
                refine ⟨L', hT', max n1 n2, ?_⟩
                dsimp only at hn1 ⊢
                rw [runOne_up hn1 (Nat.le_max_left n1 n2)]
                have hle' : σ.n ≤ σ1.n := Nat.le_of_ble_eq_true hle
                show (if σ.n ≤ σ1.n then _ else _) = _
                rw [if_pos hle']
                exact runDraw_mono (fns_le' (Nat.le_max_right n1 n2)).call (fns_le' (Nat.le_max_right n1 n2)).round _ _ _ _ _ _ _ _ _ hn2
        | false =>
          rw [hact] at h
          simp only [cond_false] at h
          simp only [Bool.false_eq_true, if_false]
          cases hc : clsD D o.op with
          | pure =>
            rw [hc] at h
            simp only [bindR_ok] at h
            obtain ⟨v, hv, h⟩ := h
            rw [← hT.eval] at hv
            simp only [hv]
            exact drawE_run rest _ (hT.put _ _) h
          | read =>
            rw [hc] at h
            simp only [bindR_ok] at h
            obtain ⟨v, hv, h⟩ := h
            rw [← hT.eval] at hv
            simp only [hv]
            rw [lenS_eq, blt_eq, ← sameE_eq hT] at h
            have hsub : Nat.sub sn.length it.lo = sn.length - it.lo := rfl
            rw [hsub] at h
            cases hs : (decide (it.lo < sn.length) && (sn.take (sn.length - it.lo)).all (sameAt D L o.op v)) with
            | false => rw [hs] at h; cases h
            | true =>
              rw [hs] at h
              simp only [cond_true] at h
              show ∃ L', TE N p.1 L' ∧ ∃ n, (if (decide (it.lo < sn.length) && (sn.take (sn.length - it.lo)).all (sameAt D L o.op v)) = true then _ else _) = _
              rw [hs]
              simp only [if_true]
              exact drawE_run rest _ (hT.put _ _) h
          | alloc =>
            rw [hc] at h
            simp only [bindR_ok] at h
            obtain ⟨⟨v, ob⟩, hv, h⟩ := h
            rw [← hT.eval] at hv
            simp only [hv]
            cases hs : bndO (σ.n + 1) ob with
            | false => simp only [hs] at h; cases h
            | true =>
              simp only [hs, cond_true] at h
              show ∃ L', TE N p.1 L' ∧ ∃ n, (if bndO (σ.n + 1) ob = true then _ else _) = _
              rw [hs]
              simp only [if_true]
              exact drawE_run rest _ (hT.put _ _) h
          | act => rw [hc] at h; cases h

theorem regionE_run {ops : Array Oper} {d : Bool} {T : Rg} {L : List AV} {σ : St} {r : RO} (hT : TE N T L) (h : regionE D (callW D) (rndW D) N ops d T σ = .ok r) :
    RG ds N (fun n => runRegion D (fns D n).call (fns D n).round rd.isSome ops d L ds none σ) r := by
  unfold regionE at h
  unfold runRegion
  cases d with
  | false => exact seqE_run _ hT h
  | true =>
    simp only [cond_true] at h
    simp only [if_true]
    cases hok : drawOkF ops (D.cut ops) with
    | false => rw [hok] at h; cases h
    | true =>
      rw [hok] at h
      simp only [cond_true, bindR_ok] at h
      obtain ⟨p, hp, h⟩ := h
      simp only [drawOkF_ok hok, if_true]
      obtain ⟨L1, hT1, n1, hn1⟩ := drawE_run (ds := ds) (rd := rd) _ _ hT hp
      rw [ble_eq'] at h
      by_cases hle : ops.size ≤ D.cut ops
      · rw [decide_eq_true hle] at h
        simp only [cond_true] at h
        cases h
        refine ⟨L1, hT1, n1, ?_⟩
        dsimp only
        rw [hn1]
        show (if ops.size = D.cut ops + 1 then _ else _) = _
        rw [if_neg (by omega)]
        show (runRest D beqL beqH ops (D.cut ops) L1 p.2 >>= _) = _
        unfold runRest
        rw [if_pos hle]
        rfl
      · rw [decide_eq_false hle] at h
        simp only [cond_false] at h
        cases hlast : (Nat.beq ops.size (Nat.succ (D.cut ops)) && canE ops (D.cut ops) 0 (D.cut ops)) with
        | false => rw [hlast] at h; cases h
        | true =>
          rw [hlast] at h
          simp only [cond_true] at h
          rw [Bool.and_eq_true, beq_eq, decide_eq_true_eq] at hlast
          have k2 := seqE_run (ds := ds) (rd := rd) _ hT1 h
          cases r with
          | go T' σ' =>
            obtain ⟨L', hT', n2, hn2⟩ := k2
            refine ⟨L', hT', max n1 n2, ?_⟩
            dsimp only at hn2 ⊢
            rw [runDraw_mono (fns_le' (Nat.le_max_left n1 n2)).call (fns_le' (Nat.le_max_left n1 n2)).round _ _ _ _ _ _ _ _ _ hn1]
            show (if ops.size = D.cut ops + 1 then _ else _) = _
            rw [if_pos hlast.1]
            show (if canE ops (D.cut ops) 0 (D.cut ops) = true then _ else _) = _
            rw [if_pos hlast.2]
            exact runSeq_mono (fns_le' (Nat.le_max_right n1 n2)).call (fns_le' (Nat.le_max_right n1 n2)).round _ _ _ _ _ _ _ _ hn2
          | pan v σ' =>
            obtain ⟨L', n2, hn2⟩ := k2
            refine ⟨L', max n1 n2, ?_⟩
            dsimp only at hn2 ⊢
            rw [runDraw_mono (fns_le' (Nat.le_max_left n1 n2)).call (fns_le' (Nat.le_max_left n1 n2)).round _ _ _ _ _ _ _ _ _ hn1]
            show (if ops.size = D.cut ops + 1 then _ else _) = _
            rw [if_pos hlast.1]
            show (if canE ops (D.cut ops) 0 (D.cut ops) = true then _ else _) = _
            rw [if_pos hlast.2]
            exact runSeq_mono (fns_le' (Nat.le_max_right n1 n2)).call (fns_le' (Nat.le_max_right n1 n2)).round _ _ _ _ _ _ _ _ hn2

/-- a frame of a function without deferred calls -/
def fr0 (ds : List ADef) (rd : Option Nat) (fn : FuncId) (L : List AV) (k : List AItem) : AFr := { fn, T := L, todo := k, defers := ds, round := rd }

def DR (ds : List ADef) (rd : Option Nat) (D : Tab) (N : Nat) (fn : FuncId) (L : List AV) (σ : St) (c : List AItem) : Oc → Prop
  | .nxt T' σ' => ∃ L', TE N T' L' ∧ ∀ k n r, (fns D n).run (fr0 ds rd fn L' k) none σ' = .ok r → ∃ m, (fns D m).run (fr0 ds rd fn L (c ++ k)) none σ = .ok r
  | .exit id T' σ' => ∃ L', TE N T' L' ∧ ∀ k k' n r, exitTo id k = some k' → (fns D n).run (fr0 ds rd fn L' k') none σ' = .ok r → ∃ m, (fns D m).run (fr0 ds rd fn L (c ++ k)) none σ = .ok r
  | .ret T' σ' => ∃ L', TE N T' L' ∧ ∀ k n r, leaveF (fns D n) (fr0 ds rd fn L' k) (some .ret) none σ' = .ok r → ∃ m, (fns D m).run (fr0 ds rd fn L (c ++ k)) none σ = .ok r
  | .pan v σ' => ∃ L', ∀ k n r, panicF (fns D n) (fr0 ds rd fn L' k) v none σ' = .ok r → ∃ m, (fns D m).run (fr0 ds rd fn L (c ++ k)) none σ = .ok r

theorem loopLim_ok {step : Rg → St → R Oc} {T : Rg} {σ : St} {o : Oc} (h : loopLim step T σ = .ok o) : ∃ n, loopN step n T σ = .ok o := by
  unfold loopLim at h
  split at h
  · rename_i hx
    cases h
    exact hx.choose_spec
  · cases h

theorem loopN_nxt {step : Rg → St → R Oc} : ∀ (n : Nat) {T : Rg} {σ : St} {o : Oc}, loopN step n T σ = .ok o → ∀ T' σ', o ≠ .nxt T' σ'
  | 0, _, _, _, h, _, _ => by cases h
  | n + 1, T, σ, o, h, T', σ' => by
    unfold loopN at h
    split at h
    · exact loopN_nxt n h T' σ'
    · rename_i hne
      intro e
      subst e
      exact hne _ _ h

theorem loopN_up {step : Rg → St → R Oc} : ∀ (n : Nat) {T : Rg} {σ : St} {o : Oc}, loopN step n T σ = .ok o → loopN step (n + 1) T σ = .ok o
  | 0, _, _, _, h => by cases h
  | n + 1, T, σ, o, h => by
    unfold loopN at h ⊢
    split at h
    · exact loopN_up n h
    · exact h

theorem loopN_le {step : Rg → St → R Oc} {n m : Nat} (hnm : n ≤ m) {T : Rg} {σ : St} {o : Oc} (h : loopN step n T σ = .ok o) : loopN step m T σ = .ok o := by
  induction hnm with
  | refl => exact h
  | step _ ih => exact loopN_up _ ih

theorem loopLim_of {step : Rg → St → R Oc} {T : Rg} {σ : St} {o : Oc} {n : Nat} (h : loopN step n T σ = .ok o) : loopLim step T σ = .ok o := by
  unfold loopLim
  have hx : ∃ r n, loopN step n T σ = .ok r := ⟨o, n, h⟩
  rw [dif_pos hx]
  obtain ⟨m, hm⟩ := hx.choose_spec
  have h1 := loopN_le (Nat.le_max_left n m) h
  have h2 := loopN_le (Nat.le_max_right n m) hm
  rw [h1] at h2
  exact h2.symm

theorem loop_next {step : Rg → St → R Oc} {T T' : Rg} {σ σ' : St} {o : Oc} (h : step T σ = .ok (.nxt T' σ')) (ho : loopLim step T' σ' = .ok o) : loopLim step T σ = .ok o := by
  obtain ⟨n, hn⟩ := loopLim_ok ho
  refine loopLim_of (n := n + 1) ?_
  unfold loopN
  rw [h]
  exact hn
theorem loop_exit {step : Rg → St → R Oc} {T T' : Rg} {σ σ' : St} {id : Nat} (h : step T σ = .ok (.exit id T' σ')) : loopLim step T σ = .ok (.exit id T' σ') := by
  refine loopLim_of (n := 1) ?_
  unfold loopN
  rw [h]
theorem loop_ret {step : Rg → St → R Oc} {T T' : Rg} {σ σ' : St} (h : step T σ = .ok (.ret T' σ')) : loopLim step T σ = .ok (.ret T' σ') := by
  refine loopLim_of (n := 1) ?_
  unfold loopN
  rw [h]
theorem loop_pan {step : Rg → St → R Oc} {T : Rg} {v : AV} {σ σ' : St} (h : step T σ = .ok (.pan v σ')) : loopLim step T σ = .ok (.pan v σ') := by
  refine loopLim_of (n := 1) ?_
  unfold loopN
  rw [h]

theorem run_step {fr fr' : AFr} {σ : St} {r : AEnd × Pan × St} {n : Nat} (h : ∀ F, runF D F fr none σ = F.run fr' none σ) (hr : (fns D n).run fr' none σ = .ok r) : (fns D (n + 1)).run fr none σ = .ok r := by
  show runF D (fns D n) fr none σ = .ok r
  rw [h]; exact hr

theorem run_succ (n : Nat) (fr : AFr) (pan : Pan) (σ : St) : (fns D (n + 1)).run fr pan σ = runF D (fns D n) fr pan σ := rfl

theorem panicF_up {fr : AFr} {v : AV} {σ : St} {r : AEnd × Pan × St} {n m : Nat} (hm : n ≤ m) (h : panicF (fns D n) fr v none σ = .ok r) : panicF (fns D m) fr v none σ = .ok r := by
  unfold panicF at h ⊢
  split at h
  · exact (fns_le' hm).finish _ _ _ _ _ _ _ h
  · exact h
theorem leaveF_up {fr : AFr} {j : Option Code} {σ : St} {r : AEnd × Pan × St} {n m : Nat} (hm : n ≤ m) (h : leaveF (fns D n) fr j none σ = .ok r) : leaveF (fns D m) fr j none σ = .ok r := by
  unfold leaveF at h ⊢
  split at h
  · split at h
    · exact (fns_le' hm).finish _ _ _ _ _ _ _ h
    · exact (fns_le' hm).finish _ _ _ _ _ _ _ h
    · cases h
  · exact h

theorem DR.pre {fn : FuncId} {L : List AV} {σ : St} {c c' : List AItem} {o : Oc} (h : DR ds rd D N fn L σ c o) (hs : ∀ k F, runF D F (fr0 ds rd fn L (c' ++ k)) none σ = F.run (fr0 ds rd fn L (c ++ k)) none σ) :
    DR ds rd D N fn L σ c' o := by
  cases o with
  | nxt T' σ' =>
    obtain ⟨L', hT, h⟩ := h
    refine ⟨L', hT, fun k n r hr => ?_⟩
    obtain ⟨m, hm⟩ := h k n r hr
    exact ⟨m + 1, run_step (hs k) hm⟩
  | exit id T' σ' =>
    obtain ⟨L', hT, h⟩ := h
    refine ⟨L', hT, fun k k' n r he hr => ?_⟩
    obtain ⟨m, hm⟩ := h k k' n r he hr
    exact ⟨m + 1, run_step (hs k) hm⟩
  | ret T' σ' =>
    obtain ⟨L', hT, h⟩ := h
    refine ⟨L', hT, fun k n r hr => ?_⟩
    obtain ⟨m, hm⟩ := h k n r hr
    exact ⟨m + 1, run_step (hs k) hm⟩
  | pan v σ' =>
    obtain ⟨L', h⟩ := h
    refine ⟨L', fun k n r hr => ?_⟩
    obtain ⟨m, hm⟩ := h k n r hr
    exact ⟨m + 1, run_step (hs k) hm⟩

/-- first c, then d -/
theorem DR.then {fn : FuncId} {L : List AV} {σ : St} {c d : List AItem} {T1 : Rg} {σ1 : St} {o : Oc} (h : DR ds rd D N fn L σ c (.nxt T1 σ1)) (k : ∀ L1, TE N T1 L1 → DR ds rd D N fn L1 σ1 d o) :
    DR ds rd D N fn L σ (c ++ d) o := by
  obtain ⟨L1, hT1, h⟩ := h
  have k := k L1 hT1
  cases o with
  | nxt T' σ' =>
    obtain ⟨L', hT, k⟩ := k
    refine ⟨L', hT, fun q n r hr => ?_⟩
    obtain ⟨m, hm⟩ := k q n r hr
    rw [List.append_assoc]
    exact h _ m r hm
  | exit id T' σ' =>
    obtain ⟨L', hT, k⟩ := k
    refine ⟨L', hT, fun q k' n r he hr => ?_⟩
    obtain ⟨m, hm⟩ := k q k' n r he hr
    rw [List.append_assoc]
    exact h _ m r hm
  | ret T' σ' =>
    obtain ⟨L', hT, k⟩ := k
    refine ⟨L', hT, fun q n r hr => ?_⟩
    obtain ⟨m, hm⟩ := k q n r hr
    rw [List.append_assoc]
    exact h _ m r hm
  | pan v σ' =>
    obtain ⟨L', k⟩ := k
    refine ⟨L', fun q n r hr => ?_⟩
    obtain ⟨m, hm⟩ := k q n r hr
    rw [List.append_assoc]
    exact h _ m _ hm

/-- what does not go on is not touched by what stands behind -/
theorem DR.stop {fn : FuncId} {L : List AV} {σ : St} {c d : List AItem} {o : Oc} (h : DR ds rd D N fn L σ c o) (hd : ∀ id k, exitTo id (d ++ k) = exitTo id k) (hn : ∀ T' σ', o ≠ .nxt T' σ') :
    DR ds rd D N fn L σ (c ++ d) o := by
  cases o with
  | nxt T' σ' => exact (hn _ _ rfl).elim
  | exit id T' σ' =>
    obtain ⟨L', hT, h⟩ := h
    refine ⟨L', hT, fun q k' n r he hr => ?_⟩
    rw [List.append_assoc]
    exact h _ k' n r (by rw [hd]; exact he) hr
  | ret T' σ' =>
    obtain ⟨L', hT, h⟩ := h
    refine ⟨L', hT, fun q n r hr => ?_⟩
    rw [List.append_assoc]
    exact h _ n r hr
  | pan v σ' =>
    obtain ⟨L', h⟩ := h
    refine ⟨L', fun q n r hr => ?_⟩
    rw [List.append_assoc]
    exact h _ n r hr

theorem dd_run (fn : FuncId) : ∀ (c : Code) (T : Rg) (L : List AV) (σ : St) (o : Oc), TE N T L → dd D (callW D) (rndW D) N c T σ = .ok o → DR ds rd D N fn L σ [.code c] o
  | .skip, T, L, σ, o, hT, h => by
    simp only [dd] at h; cases h
    exact ⟨L, hT, fun k n r hr => ⟨n + 1, run_step (fun F => rfl) hr⟩⟩
  | .label _, T, L, σ, o, hT, h => by
    simp only [dd] at h; cases h
    exact ⟨L, hT, fun k n r hr => ⟨n + 1, run_step (fun F => rfl) hr⟩⟩
  | .ret, T, L, σ, o, hT, h => by
    simp only [dd] at h; cases h
    exact ⟨L, hT, fun k n r hr => ⟨n + 1, hr⟩⟩
  | .exit id, T, L, σ, o, hT, h => by
    simp only [dd] at h; cases h
    refine ⟨L, hT, fun k k' n r he hr => ⟨n + 1, run_step (fr' := fr0 ds rd fn L k') (fun F => ?_) hr⟩⟩
    simp only [runF, fr0, List.singleton_append, he]
  | .seq a b, T, L, σ, o, hT, h => by
    simp only [dd, bindR_ok] at h
    obtain ⟨o1, h1, h⟩ := h
    have k1 := dd_run fn a T L σ o1 hT h1
    refine DR.pre (c := [.code a] ++ [.code b]) ?_ (fun k F => rfl)
    cases o1 with
    | nxt T1 σ1 => exact k1.then fun L1 hT1 => dd_run fn b T1 L1 σ1 o hT1 h
    | exit id T1 σ1 =>
      cases h
      exact k1.stop (fun id k => rfl) (fun _ _ e => by cases e)
    | ret T1 σ1 =>
      cases h
      exact k1.stop (fun id k => rfl) (fun _ _ e => by cases e)
    | pan v σ1 =>
      cases h
      exact k1.stop (fun id k => rfl) (fun _ _ e => by cases e)
  | .cond c a b, T, L, σ, o, hT, h => by
    simp only [dd, condR] at h
    split at h
    · rename_i q heq
      cases q with
      | true =>
        refine DR.pre (dd_run fn a T L σ o hT h) (fun k F => ?_)
        have : evalO D L c = .base (.bool true) := by rw [hT.eval]; exact heq
        simp only [runF, fr0, List.singleton_append, this]
        rfl
      | false =>
        refine DR.pre (dd_run fn b T L σ o hT h) (fun k F => ?_)
        have : evalO D L c = .base (.bool false) := by rw [hT.eval]; exact heq
        simp only [runF, fr0, List.singleton_append, this]
        rfl
    · cases h
  | .block id b, T, L, σ, o, hT, h => by
    simp only [dd, bindR_ok] at h
    obtain ⟨o1, h1, h⟩ := h
    have k1 := dd_run fn b T L σ o1 hT h1
    refine DR.pre (c := [.code b] ++ [.inBlock id]) ?_ (fun k F => rfl)
    cases o1 with
    | nxt T1 σ1 =>
      cases h
      exact k1.then fun L1 hT1 => ⟨L1, hT1, fun k n r hr => ⟨n + 1, run_step (fun F => rfl) hr⟩⟩
    | exit id' T1 σ1 =>
      simp only at h
      obtain ⟨L1, hT1, k1⟩ := k1
      rw [beq_eq] at h
      by_cases hid : id' = id
      · rw [decide_eq_true hid] at h
        simp only [cond_true] at h
        cases h
        refine ⟨L1, hT1, fun k n r hr => ?_⟩
        rw [List.append_assoc]
        exact k1 _ k n r (by simp [exitTo, hid]) hr
      · rw [decide_eq_false hid] at h
        simp only [cond_false] at h
        cases h
        refine ⟨L1, hT1, fun k k' n r he hr => ?_⟩
        rw [List.append_assoc]
        exact k1 _ k' n r (by simp [exitTo, Ne.symm hid, he]) hr
    | ret T1 σ1 =>
      cases h
      obtain ⟨L1, hT1, k1⟩ := k1
      refine ⟨L1, hT1, fun k n r hr => ?_⟩
      rw [List.append_assoc]
      exact k1 _ n r hr
    | pan v σ1 =>
      cases h
      obtain ⟨L1, k1⟩ := k1
      refine ⟨L1, fun k n r hr => ?_⟩
      rw [List.append_assoc]
      exact k1 _ n r hr
  | .loop b, T, L, σ, o, hT, h => by
    simp only [dd] at h
    obtain ⟨n, hn⟩ := loopLim_ok h
    refine DR.pre (c := [.code b] ++ [.inLoop b]) ?_ (fun k F => rfl)
    clear h
    induction n generalizing T L σ with
    | zero => cases hn
    | succ n ih =>
      unfold loopN at hn
      split at hn
      · rename_i T1 σ1 h1
        refine (dd_run fn b T L σ _ hT h1).then fun L1 hT1 => ?_
        exact DR.pre (ih T1 L1 σ1 hT1 hn) (fun k F => rfl)
      · rename_i hne
        exact (dd_run fn b T L σ o hT hn).stop (fun id k => rfl) fun T' σ' e => hne T' σ' (e ▸ hn)
  | .scope b, T, L, σ, o, hT, h => by
    simp only [dd] at h
    have k1 := dd_run fn b T L σ o hT h
    refine DR.pre (c := [.code b] ++ [.inScope b]) ?_ (fun k F => rfl)
    cases o with
    | nxt T1 σ1 => exact k1.then fun L1 hT1 => ⟨L1, hT1, fun k n r hr => ⟨n + 1, run_step (fun F => rfl) hr⟩⟩
    | exit id T1 σ1 => exact k1.stop (fun id k => rfl) (fun _ _ e => by cases e)
    | ret T1 σ1 => exact k1.stop (fun id k => rfl) (fun _ _ e => by cases e)
    | pan v σ1 => exact k1.stop (fun id k => rfl) (fun _ _ e => by cases e)
  | .region id ops d, T, L, σ, o, hT, h => by
    simp only [dd, bindR_ok] at h
    obtain ⟨r1, h1, h⟩ := h
    have k1 := regionE_run (ds := ds) (rd := rd) hT h1
    cases r1 with
    | go T1 σ1 =>
      cases h
      obtain ⟨L1, hT1, n1, hn1⟩ := k1
      refine ⟨L1, hT1, fun k n r hr => (⟨max n1 n + 1, ?_⟩ : ∃ m, _)⟩
      rw [run_succ]
      dsimp only at hn1
      have e1 := runRegion_mono (D := D) (fns_le' (Nat.le_max_left n1 n)).call (fns_le' (Nat.le_max_left n1 n)).round _ _ _ _ _ _ _ _ hn1
      simp only [runF, fr0, List.singleton_append, e1]
      exact (fns_le' (Nat.le_max_right n1 n)).run _ _ _ _ hr
    | pan v σ1 =>
      cases h
      obtain ⟨L1, n1, hn1⟩ := k1
      refine ⟨L1, fun k n r hr => (⟨max n1 n + 1, ?_⟩ : ∃ m, _)⟩
      rw [run_succ]
      dsimp only at hn1
      have e1 := runRegion_mono (D := D) (fns_le' (Nat.le_max_left n1 n)).call (fns_le' (Nat.le_max_left n1 n)).round _ _ _ _ _ _ _ _ hn1
      have e2 := panicF_up (Nat.le_max_right n1 n) hr
      simp only [runF, fr0, List.singleton_append, e1]
      exact e2
  | .rangeFunc _ _ _ _, T, L, σ, o, hT, h => by simp [dd] at h
  | .goto _, T, L, σ, o, hT, h => by simp [dd] at h
  | .refuse _, T, L, σ, o, hT, h => by simp [dd] at h

/- the call -/
def argE (args : List AV) : Rg := fun i => args.getD i .undef

def resK {ρ : Type} (D : Tab) (σ : St) (T : Rg) (k : List AV → R ρ) : List ResultVar → R ρ
  | [] => k []
  | .tmp t :: l => resK D σ T (fun vs => k (T t :: vs)) l
  | .cell a t :: l => bindR (loadV D σ t (T a)) fun v => resK D σ T (fun vs => k (v :: vs)) l
def oneRes (vs : List AV) : AV := match vs with | [v] => v | vs => .tuple vs
/-- what a function's code gives -/
noncomputable def bodyW (D : Tab) (call : CallT) (rnd : RoundT) (fn : Func) (c : Code) (args : List AV) (σ : St) : R (AEnd × St) :=
  denK D call rnd fn.ntmps c ⟨fun T σ => resK D σ T (fun vs => .ok (.ret (oneRes vs), σ)) fn.results.toList, fun T σ => resK D σ T (fun vs => .ok (.ret (oneRes vs), σ)) fn.results.toList,
    fun _ _ _ => .error "exit", fun v σ => .ok (.panic v, σ)⟩ (argE args) σ

theorem resK_ok {ρ : Type} {σ : St} {T : Rg} {L : List AV} (hT : TE N T L) {r : ρ} : ∀ (l : List ResultVar) (k : List AV → R ρ), resK D σ T k l = .ok r → ∃ vs, resultV D σ L l = .ok vs ∧ k vs = .ok r
  | [], k, h => ⟨[], rfl, h⟩
  | .tmp t :: l, k, h => by
    obtain ⟨vs, h1, h2⟩ := resK_ok hT l _ h
    refine ⟨T t :: vs, ?_, h2⟩
    simp only [resultV, h1, hT.2 t]
    rfl
  | .cell a t :: l, k, h => by
    simp only [resK, bindR_ok] at h
    obtain ⟨v, hv, h⟩ := h
    obtain ⟨vs, h1, h2⟩ := resK_ok hT l _ h
    refine ⟨v :: vs, ?_, h2⟩
    rw [hT.2 a] at hv
    simp only [resultV, h1, hv]
    rfl

theorem finishW_ok {f : FuncId} {fn : Func} {σ : St} {T : Rg} {L : List AV} {r : AEnd × St} (hf : D.func f = some fn) (hT : TE N T L) (h : resK D σ T (fun vs => .ok (.ret (oneRes vs), σ)) fn.results.toList = .ok r) (n : Nat) :
    (fns D (n + 1)).finish f L [] none none σ = .ok (r.1, none, r.2) := by
  obtain ⟨vs, h1, h2⟩ := resK_ok hT _ _ h
  cases h2
  show finishF D (fns D n) f L [] none none σ = _
  simp only [finishF, resultsV, hf, h1]
  cases vs with
  | nil => rfl
  | cons v l => cases l <;> rfl

theorem replUndef_len : ∀ n, (replUndef n).length = n
  | 0 => rfl
  | n + 1 => by simp [replUndef, replUndef_len n]
theorem replUndef_get : ∀ n i, (replUndef n).getD i .undef = .undef
  | 0, i => by simp [replUndef]
  | n + 1, 0 => by simp [replUndef]
  | n + 1, i + 1 => by simpa [replUndef] using replUndef_get n i

theorem TE.start {args : List AV} {n : Nat} (h : args.length ≤ n) : TE n (argE args) (args ++ replUndef (n - args.length)) := by
  refine ⟨by simp [replUndef_len]; omega, fun i => ?_⟩
  simp only [argE, List.getD]
  by_cases hi : i < args.length
  · rw [List.getElem?_append_left hi]
  · have h1 : args[i]? = none := List.getElem?_eq_none (by omega)
    rw [h1, List.getElem?_append_right (by omega)]
    have := replUndef_get (n - args.length) (i - args.length)
    simp only [List.getD] at this
    rw [this]; rfl

theorem callW_intro {f : FuncId} {fn : Func} {c : Code} {args : List AV} {σ : St} {r : AEnd × St} (hf : D.func f = some fn) (hp : D.pure f = false) (hb : fn.body = some c) (hl : args.length ≤ fn.ntmps)
    (h : bodyW D (callW D) (rndW D) fn c args σ = .ok r) : callW D f args σ = .ok r := by
  unfold bodyW at h
  have h := denK_le _ _ _ _ _ _ _ _ _ h
  rw [bindR_ok] at h
  obtain ⟨o, ho, h⟩ := h
  have k := dd_run (ds := []) (rd := none) (D := D) (N := fn.ntmps) f c (argE args) (args ++ replUndef (fn.ntmps - args.length)) σ o (TE.start hl) ho
  have key : ∀ m, (fns D m).run (fr0 [] none f (args ++ replUndef (fn.ntmps - args.length)) ([.code c] ++ [])) none σ = .ok (r.1, none, r.2) → callW D f args σ = .ok r := by
    intro m hm
    refine callW_ok.2 ⟨m + 1, ?_⟩
    show callF D (fns D m) f args σ = .ok r
    simp only [callF, hp, Bool.false_eq_true, if_false, plainF, enterFr, hf, hb]
    have hm' : (fns D m).run { fn := f, T := args ++ replUndef (fn.ntmps - args.length), todo := [.code c], defers := [], round := none } none σ = .ok (r.1, none, r.2) := hm
    show ((fns D m).run { fn := f, T := args ++ replUndef (fn.ntmps - args.length), todo := [.code c], defers := [], round := none } none σ >>= _) = _
    rw [hm']
    rfl
  cases o with
  | nxt T' σ' =>
    obtain ⟨L', hT, k⟩ := k
    obtain ⟨m, hm⟩ := k [] 2 (r.1, none, r.2) (by
      show runF D (fns D 1) (fr0 [] none f L' []) none σ' = _
      exact finishW_ok hf hT h 0)
    exact key m hm
  | ret T' σ' =>
    obtain ⟨L', hT, k⟩ := k
    obtain ⟨m, hm⟩ := k [] 1 (r.1, none, r.2) (finishW_ok hf hT h 0)
    exact key m hm
  | exit id T' σ' => cases h
  | pan v σ' =>
    obtain ⟨L', k⟩ := k
    obtain ⟨m, hm⟩ := k [] 1 (r.1, none, r.2) (by
      simp only [K.app] at h
      cases h
      rfl)
    exact key m hm

/-- where a function's code ends -/
def kRet (D : Tab) (rs : List ResultVar) : K (AEnd × St) := ⟨fun T σ => resK D σ T (fun vs => .ok (.ret (oneRes vs), σ)) rs, fun T σ => resK D σ T (fun vs => .ok (.ret (oneRes vs), σ)) rs, fun _ _ _ => .error "exit", fun v σ => .ok (.panic v, σ)⟩
theorem callW_of {f : FuncId} {fn : Func} {args : List AV} {σ : St} {r : AEnd × St} {N : Nat} {rs : List ResultVar} (hf : D.func f = some fn) (hp : D.pure f = false) (hb : fn.body.isSome = true) (hN : fn.ntmps = N) (hr : fn.results.toList = rs)
    (hl : args.length ≤ N) (h : denK D (callW D) (rndW D) N (bodyC D f) (kRet D rs) (argE args) σ = .ok r) : callW D f args σ = .ok r := by
  subst hN hr
  obtain ⟨c, hc⟩ := Option.isSome_iff_exists.1 hb
  refine callW_intro hf hp hc hl ?_
  have e : bodyC D f = c := by simp [bodyC, hf, hc]
  rw [e] at h
  exact h
end
end Go.Dt
namespace Go.Dt

/-- what the second frame comes to, the first one comes to -/
def Steps (D : Tab) (fr : AFr) (σ : St) (fr' : AFr) (σ' : St) : Prop := ∀ n r, (fns D n).run fr' none σ' = .ok r → ∃ m, (fns D m).run fr none σ = .ok r
theorem Steps.refl {D : Tab} (fr : AFr) (σ : St) : Steps D fr σ fr σ := fun n _ h => ⟨n, h⟩
theorem Steps.trans {D : Tab} {a b c : AFr} {σ σ1 σ2 : St} (h : Steps D a σ b σ1) (k : Steps D b σ1 c σ2) : Steps D a σ c σ2 := fun n r hr => by
  obtain ⟨m, hm⟩ := k n r hr
  exact h m r hm
theorem Steps.one {D : Tab} {fr fr' : AFr} {σ σ' : St} (h : ∀ F, runF D F fr none σ = F.run fr' none σ') : Steps D fr σ fr' σ' := fun n r hr => ⟨n + 1, by
  show runF D (fns D n) fr none σ = _
  rw [h]; exact hr⟩

section
variable {D : Tab} {N : Nat} {ds : List ADef} {rd : Option Nat} {fn : FuncId} {L : List AV} {σ : St} {k : List AItem}
theorem Steps.seq (a b : Code) : Steps D (fr0 ds rd fn L (.code (.seq a b) :: k)) σ (fr0 ds rd fn L (.code a :: .code b :: k)) σ := Steps.one fun _ => rfl
theorem Steps.loop (b : Code) : Steps D (fr0 ds rd fn L (.code (.loop b) :: k)) σ (fr0 ds rd fn L (.code b :: .inLoop b :: k)) σ := Steps.one fun _ => rfl
theorem Steps.inLoop (b : Code) : Steps D (fr0 ds rd fn L (.inLoop b :: k)) σ (fr0 ds rd fn L (.code b :: .inLoop b :: k)) σ := Steps.one fun _ => rfl
theorem Steps.block (id : Nat) (b : Code) : Steps D (fr0 ds rd fn L (.code (.block id b) :: k)) σ (fr0 ds rd fn L (.code b :: .inBlock id :: k)) σ := Steps.one fun _ => rfl
theorem Steps.inBlock (id : Nat) : Steps D (fr0 ds rd fn L (.inBlock id :: k)) σ (fr0 ds rd fn L k) σ := Steps.one fun _ => rfl
theorem Steps.scope (b : Code) : Steps D (fr0 ds rd fn L (.code (.scope b) :: k)) σ (fr0 ds rd fn L (.code b :: .inScope b :: k)) σ := Steps.one fun _ => rfl
theorem Steps.inScope (b : Code) : Steps D (fr0 ds rd fn L (.inScope b :: k)) σ (fr0 ds rd fn L k) σ := Steps.one fun _ => rfl
theorem Steps.cond {T : Rg} (hT : TE N T L) {c : Operand} {q : Bool} (a b : Code) (h : evalE D T c = boolV q) : Steps D (fr0 ds rd fn L (.code (.cond c a b) :: k)) σ (fr0 ds rd fn L (.code (if q then a else b) :: k)) σ :=
  Steps.one fun F => by
    have : evalO D L c = boolV q := by rw [hT.eval]; exact h
    simp only [runF, fr0, this]
    rfl
theorem Steps.code {T T' : Rg} {σ' : St} {c : Code} (hT : TE N T L) (h : dd D (callW D) (rndW D) N c T σ = .ok (.nxt T' σ')) :
    ∃ L', TE N T' L' ∧ ∀ k, Steps D (fr0 ds rd fn L (.code c :: k)) σ (fr0 ds rd fn L' k) σ' := by
  obtain ⟨L', hL, k⟩ := dd_run (ds := ds) (rd := rd) fn c T L σ _ hT h
  exact ⟨L', hL, fun q n r hr => k q n r hr⟩
theorem Steps.exit {T T' : Rg} {σ' : St} {c : Code} {id : Nat} (hT : TE N T L) (h : dd D (callW D) (rndW D) N c T σ = .ok (.exit id T' σ')) :
    ∃ L', TE N T' L' ∧ ∀ k k', exitTo id k = some k' → Steps D (fr0 ds rd fn L (.code c :: k)) σ (fr0 ds rd fn L' k') σ' := by
  obtain ⟨L', hL, k⟩ := dd_run (ds := ds) (rd := rd) fn c T L σ _ hT h
  exact ⟨L', hL, fun q q' he n r hr => k q q' n r he hr⟩

/-- what a frame comes to -/
def Fin (D : Tab) (fr : AFr) (σ : St) (r : AEnd × St) : Prop := ∃ m, (fns D m).run fr none σ = .ok (r.1, none, r.2)
theorem Steps.fin {fr fr' : AFr} {σ' : St} {r : AEnd × St} (h : Steps D fr σ fr' σ') (k : Fin D fr' σ' r) : Fin D fr σ r := by
  obtain ⟨n, hn⟩ := k
  exact h n _ hn

/-- what is collected for deferring, and empty, is struck at the end -/
def strike (σ : St) : List Nat → St
  | [] => σ
  | b :: l => strike (σ.set b (.deferred none)) l
theorem finish_strike {r : AEnd × Pan × St} {n : Nat} : ∀ (bs : List Nat) (σ : St), (∀ b ∈ bs, b < σ.n ∧ σ.getO b = .deferred (some [])) → bs.Nodup → σ.l.length = σ.n → (fns D n).finish fn L [] none none (strike σ bs) = .ok r →
    ∃ m, (fns D m).finish fn L (bs.map ADef.collected) none none σ = .ok r
  | [], σ, _, _, _, h => ⟨n, h⟩
  | b :: bs, σ, hb, hd, hw, h => by
    obtain ⟨h1, h2⟩ := hb b (by simp)
    have hw' : (σ.set b (.deferred none)).l.length = (σ.set b (.deferred none)).n := by simp [St.set, hw]
    obtain ⟨m, hm⟩ := finish_strike bs (σ.set b (.deferred none)) (fun c hc => by
      obtain ⟨k1, k2⟩ := hb c (by simp [hc])
      have hne : c ≠ b := fun e => (List.nodup_cons.1 hd).1 (e ▸ hc)
      refine ⟨k1, ?_⟩
      rw [← k2]
      exact getO_set_other h1 (Ne.symm hne)) (List.nodup_cons.1 hd).2 hw' h
    refine ⟨m + 1, ?_⟩
    show finishF D (fns D m) fn L (ADef.collected b :: bs.map ADef.collected) none none σ = _
    simp only [finishF, St.get, h1, h2]
    exact hm

theorem endLoop_succ (n : Nat) (fr : AFr) (l : Nat) (e : AEnd) (pan : Pan) (σ : St) : (fns D (n + 1)).endLoop fr l e pan σ = endLoopF (fns D n) fr l e pan σ := rfl
theorem round_succ (n l : Nat) (args : List AV) (σ : St) : (fns D (n + 1)).round l args σ = roundF D (fns D n) l args σ := rfl
/-- a loop over a function: the call of the function, in whose course the rounds run -/
theorem Steps.range {T : Rg} (hT : TE N T L) {f : Operand} {ps : Array Tmp} {a b : Code} {nx : ANext} {v : AV} {σ' : St} {lp : ALoop}
    (hc : callV D (evalE D T f) [.yield (σ.n + 1)] = .ok nx)
    (hr : enterQ (callW D) (rndW D) nx ((σ.push (.deferred (some []))).push (.loop { state := .ready, pending := none, fn, T := L, params := ps.toList, assign := a, body := b, defers := σ.n })) = .ok (.ret v, σ'))
    (hl : getLoop σ' (σ.n + 1) = .ok lp) (hs : lp.state ≠ .busy) (hp : lp.pending = none) :
    Steps D (fr0 ds none fn L (.code (.rangeFunc f ps a b) :: k)) σ (fr0 (.collected σ.n :: ds) none fn L k) (σ'.set (σ.n + 1) (.loop { lp with state := .exhausted })) := by
  intro n r h
  have key : ∃ m, goF (fns D m) nx ((σ.push (.deferred (some []))).push (.loop { state := .ready, pending := none, fn, T := L, params := ps.toList, assign := a, body := b, defers := σ.n })) = .ok (.ret v, σ') := by
    cases nx with
    | enter g args => exact callW_ok.1 hr
    | round l args => exact rndW_ok.1 hr
    | _ => cases hr
  obtain ⟨m, hm⟩ := key
  have hm' : goF (fns D (max m (n + 1))) nx ((σ.push (.deferred (some []))).push (.loop { state := .ready, pending := none, fn, T := L, params := ps.toList, assign := a, body := b, defers := σ.n })) = .ok (.ret v, σ') := by
    cases nx with
    | enter g args => exact callW_up hm (Nat.le_max_left _ _)
    | round l args => exact rndW_up hm (Nat.le_max_left _ _)
    | _ => cases hm
  have he : (fns D (max m (n + 1))).endLoop (fr0 (.collected σ.n :: ds) none fn L k) (σ.n + 1) (.ret v) none σ' = .ok r := by
    refine (fns_le' (Nat.le_max_right m (n + 1))).endLoop _ _ _ _ _ _ ?_
    rw [endLoop_succ]
    simp only [endLoopF, hl]
    show (if lp.state = .busy then _ else _) = _
    rw [if_neg hs]
    split
    · exact h
    · rename_i hc; rw [hp] at hc; cases hc
  refine ⟨max m (n + 1) + 1, ?_⟩
  rw [run_succ]
  simp only [runF, fr0]
  have e1 : evalO D L f = evalE D T f := by rw [hT.eval]
  rw [e1, hc]
  show (goF (fns D (max m (n + 1))) nx _ >>= _) = _
  rw [hm']
  exact he

theorem puts_TE : ∀ (l : List (Tmp × AV)) {T : Rg} {L : List AV}, TE N T L → TE N (puts N T l) (setParams l L)
  | [], _, _, h => h
  | (d, v) :: l, _, _, h => puts_TE l (h.put (some d) v)

/-- one round -/
theorem rnd_intro {l : Nat} {args : List AV} {T0 T1 T2 : Rg} {σ1 σ2 : St} {lp lp1 lp2 : ALoop} {g : Func} (hg : getLoop σ l = .ok lp) (hf : D.func lp.fn = some g) (hlen : lp.params.length = args.length) (hT : TE N T0 lp.T)
    (ha : dd D (callW D) (rndW D) N lp.assign (puts N T0 (lp.params.zip args)) σ = .ok (.nxt T1 σ1)) (hg1 : getLoop σ1 l = .ok lp1) (hs : lp1.state = .ready)
    (hb : dd D (callW D) (rndW D) N lp.body T1 (σ1.set l (.loop { lp1 with state := .busy })) = .ok (.nxt T2 σ2)) (hg2 : getLoop σ2 l = .ok lp2) :
    rndW D l args σ = .ok (.ret (boolV true), σ2.set l (.loop { lp2 with state := .ready, pending := none })) := by
  obtain ⟨L1, hL1, k1⟩ := Steps.code (ds := []) (rd := some l) (fn := lp.fn) (puts_TE (lp.params.zip args) hT) ha
  obtain ⟨L2, hL2, k2⟩ := Steps.code (ds := []) (rd := some l) (fn := lp.fn) hL1 hb
  have kb : Steps D (fr0 [] (some l) lp.fn L1 [.beginRound, .code lp.body]) σ1 (fr0 [] (some l) lp.fn L1 [.code lp.body]) (σ1.set l (.loop { lp1 with state := .busy })) := Steps.one fun F => by
    simp only [runF, fr0, hg1]
    show (if lp1.state = .ready then _ else _) = _
    rw [if_pos hs]
  have kall := ((k1 _).trans kb).trans (k2 [])
  obtain ⟨m, hm⟩ := kall 1 (.ret (boolV true), none, σ2.set l (.loop { lp2 with state := .ready, pending := none })) (by
    rw [run_succ]
    simp only [runF, leaveF, fr0, hg2]
    rfl)
  refine rndW_ok.2 ⟨m + 1, ?_⟩
  rw [round_succ]
  simp only [roundF, hg]
  show (match D.func lp.fn with | none => _ | some _ => _) = _
  rw [hf]
  show (if lp.params.length = args.length then _ else _) = _
  rw [if_pos hlen]
  have hm' : (fns D m).run { fn := lp.fn, T := setParams (lp.params.zip args) lp.T, todo := [.code lp.assign, .beginRound, .code lp.body], defers := [], round := some l } none σ = _ := hm
  show ((fns D m).run _ none σ >>= _) = _
  rw [hm']
  rfl

/-- a call, by its frame -/
theorem callW_fin {f : FuncId} {g : Func} {c : Code} {args : List AV} {r : AEnd × St} (hf : D.func f = some g) (hp : D.pure f = false) (hb : g.body = some c)
    (h : Fin D (fr0 [] none f (args ++ replUndef (g.ntmps - args.length)) [.code c]) σ r) : callW D f args σ = .ok r := by
  obtain ⟨m, hm⟩ := h
  refine callW_ok.2 ⟨m + 1, ?_⟩
  show callF D (fns D m) f args σ = .ok r
  simp only [callF, hp, Bool.false_eq_true, if_false, plainF, enterFr, hf, hb]
  have hm' : (fns D m).run { fn := f, T := args ++ replUndef (g.ntmps - args.length), todo := [.code c], defers := [], round := none } none σ = .ok (r.1, none, r.2) := hm
  show ((fns D m).run { fn := f, T := args ++ replUndef (g.ntmps - args.length), todo := [.code c], defers := [], round := none } none σ >>= _) = _
  rw [hm']
  rfl
/-- a function's end, behind its loops over functions -/
theorem fin_ret {g : Func} {T : Rg} {L : List AV} {r : AEnd × St} (hf : D.func fn = some g) (hT : TE N T L) (bs : List Nat) (hb : ∀ b ∈ bs, b < σ.n ∧ σ.getO b = .deferred (some [])) (hd : bs.Nodup) (hw : σ.l.length = σ.n)
    (h : resK D (strike σ bs) T (fun vs => .ok (.ret (oneRes vs), strike σ bs)) g.results.toList = .ok r) :
    Fin D (fr0 (bs.map .collected) none fn L (.code .ret :: k)) σ r := by
  obtain ⟨m, hm⟩ := finish_strike bs σ hb hd hw (finishW_ok hf hT h 0)
  exact ⟨m + 1, hm⟩
end
end Go.Dt
namespace Go.Dt
section
variable {ρ : Type} {D : Tab}

/-- a proof that the simplifier takes for no plain unfolding: so the kernel is told each step -/
theorem eqBy {α : Type} {a b : α} (h : a = b) : a = b := h
@[simp] theorem condT {α : Type} (a b : α) : (bif true then a else b) = a := eqBy rfl
@[simp] theorem condF {α : Type} (a b : α) : (bif false then a else b) = b := eqBy rfl
@[simp] theorem g1_eq (x : R AV) : g1 x = x := eqBy rfl
@[simp] theorem mv_eq (x : AV) : mv x = .ok x := eqBy rfl
@[simp] theorem g2_eq (σ : St) (x : R (AEnd × St)) : g2 σ x = x := eqBy rfl
@[simp] theorem g3_eq (σ : St) (x : R St) : g3 σ x = x := eqBy rfl
@[simp] theorem g4_eq (σ : St) (x : R (AV × St)) : g4 σ x = x := eqBy rfl
@[simp] theorem puts_nil (N : Nat) (T : Rg) : puts N T [] = T := eqBy rfl
@[simp] theorem puts_cons (N : Nat) (T : Rg) (d : Nat) (v : AV) (l : List (Nat × AV)) : puts N T ((d, v) :: l) = puts N (putE N T (some d) v) l := eqBy rfl
@[simp] theorem bindR_val {α β : Type} (a : α) (f : α → R β) : bindR (.ok a : R α) f = f a := eqBy rfl
@[simp] theorem isBoolV_t (b : Bool) : isBoolV (boolV b) true = b := by cases b <;> rfl
@[simp] theorem isBoolV_f (b : Bool) : isBoolV (boolV b) false = !b := by cases b <;> rfl
@[simp] theorem isBoolV_u (w : Bool) : isBoolV AV.undef w = false := eqBy rfl
@[simp] theorem condR_boolV (b : Bool) (x y : R ρ) : condR (boolV b) x y = bif b then x else y := eqBy rfl
@[simp] theorem pickV_boolV (c : Bool) (x y : AV) : pickV (boolV c) x y = .ok (bif c then x else y) := by cases c <;> rfl
@[simp] theorem retK_ret (v : AV) (σ : St) (k : AV → St → R ρ) (kp : AV → St → R ρ) : retK (.ret v, σ) k kp = k v σ := eqBy rfl
@[simp] theorem kOc_nxt (T : Rg) (σ : St) : kOc.nxt T σ = .ok (.nxt T σ) := eqBy rfl
@[simp] theorem kOc_ret (T : Rg) (σ : St) : kOc.ret T σ = .ok (.ret T σ) := eqBy rfl
@[simp] theorem kOc_exit (id : Nat) (T : Rg) (σ : St) : kOc.exit id T σ = .ok (.exit id T σ) := eqBy rfl
@[simp] theorem kOc_pan (v : AV) (σ : St) : kOc.pan v σ = .ok (.pan v σ) := eqBy rfl
@[simp] theorem app_nxt (k : K ρ) (T : Rg) (σ : St) : k.app (.nxt T σ) = k.nxt T σ := eqBy rfl
@[simp] theorem app_ret (k : K ρ) (T : Rg) (σ : St) : k.app (.ret T σ) = k.ret T σ := eqBy rfl
@[simp] theorem app_exit (k : K ρ) (id : Nat) (T : Rg) (σ : St) : k.app (.exit id T σ) = k.exit id T σ := eqBy rfl
@[simp] theorem app_pan (k : K ρ) (v : AV) (σ : St) : k.app (.pan v σ) = k.pan v σ := eqBy rfl
@[simp] theorem kseq_nxt (f : Rg → St → R ρ) (k : K ρ) : (kseq f k).nxt = f := eqBy rfl
@[simp] theorem kseq_ret (f : Rg → St → R ρ) (k : K ρ) : (kseq f k).ret = k.ret := eqBy rfl
@[simp] theorem kseq_exit (f : Rg → St → R ρ) (k : K ρ) : (kseq f k).exit = k.exit := eqBy rfl
@[simp] theorem kseq_pan (f : Rg → St → R ρ) (k : K ρ) : (kseq f k).pan = k.pan := eqBy rfl
@[simp] theorem kblk_nxt (id : Nat) (k : K ρ) : (kblk id k).nxt = k.nxt := eqBy rfl
@[simp] theorem kblk_ret (id : Nat) (k : K ρ) : (kblk id k).ret = k.ret := eqBy rfl
@[simp] theorem kblk_pan (id : Nat) (k : K ρ) : (kblk id k).pan = k.pan := eqBy rfl
@[simp] theorem kblk_exit (id id' : Nat) (k : K ρ) (T : Rg) (σ : St) : (kblk id k).exit id' T σ = if id' = id then k.nxt T σ else k.exit id' T σ := by
  show (match Nat.beq id' id with | true => _ | false => _) = _
  rw [beq_eq]
  by_cases h : id' = id <;> simp [h]

theorem putE_get (N : Nat) (T : Rg) (d : Tmp) (v : AV) (i : Nat) : putE N T (some d) v i = if i = d then (if d < N then v else T i) else T i := by
  simp only [putE, beq_eq, blt_eq]
  by_cases h : i = d <;> simp [h]

theorem putE_same {N : Nat} {T : Rg} {d : Tmp} {v : AV} (h : d < N) : putE N T (some d) v d = v := by rw [putE_get]; simp [h]
theorem putE_ne {N : Nat} {T : Rg} {d : Tmp} {v : AV} {i : Nat} (h : i ≠ d) : putE N T (some d) v i = T i := by rw [putE_get]; simp [h]

@[simp] theorem binOp_int (op : BinOp) (t : Nat) (k k' : IntKind) (a b : Int) (c : Bool) : Dt.binOp D op t (intV k a) (intV k' b) c = intOp op k k' a b := eqBy rfl
@[simp] theorem binOp_goI (op : BinOp) (t : Nat) (a b : Nat) (c : Bool) : Dt.binOp D op t (goI a) (goI b) c = intOp op .i64 .i64 a b := eqBy rfl
@[simp] theorem binOp_goI_l (op : BinOp) (t : Nat) (k' : IntKind) (a : Nat) (b : Int) (c : Bool) : Dt.binOp D op t (goI a) (intV k' b) c = intOp op .i64 k' a b := eqBy rfl
@[simp] theorem binOp_goI_r (op : BinOp) (t : Nat) (k : IntKind) (a : Int) (b : Nat) (c : Bool) : Dt.binOp D op t (intV k a) (goI b) c = intOp op k .i64 a b := eqBy rfl
@[simp] theorem binOp_str (op : BinOp) (t : Nat) (a b : List UInt8) (c : Bool) : Dt.binOp D op t (str a) (str b) c = strOp op a b := eqBy rfl
@[simp] theorem intOp_add (k : IntKind) (a b : Int) : intOp .add k k a b = .ok (intV k (k.wrap (a + b))) := by simp [intOp]
@[simp] theorem intOp_sub (k : IntKind) (a b : Int) : intOp .sub k k a b = .ok (intV k (k.wrap (a - b))) := by simp [intOp]
@[simp] theorem intOp_mul (k : IntKind) (a b : Int) : intOp .mul k k a b = .ok (intV k (k.wrap (a * b))) := by simp [intOp]
theorem intOp_quo (k : IntKind) (a b : Int) (h : b ≠ 0) : intOp .quo k k a b = .ok (intV k (k.wrap (a.tdiv b))) := by simp [intOp, h]
theorem intOp_rem (k : IntKind) (a b : Int) (h : b ≠ 0) : intOp .rem k k a b = .ok (intV k (a.tmod b)) := by simp [intOp, h]
@[simp] theorem intOp_eql (k : IntKind) (a b : Int) : intOp .eql k k a b = .ok (boolV (a == b)) := by simp [intOp]
@[simp] theorem intOp_neq (k : IntKind) (a b : Int) : intOp .neq k k a b = .ok (boolV (a != b)) := by simp [intOp]
@[simp] theorem intOp_lss (k : IntKind) (a b : Int) : intOp .lss k k a b = .ok (boolV (decide (a < b))) := by simp [intOp]
@[simp] theorem intOp_leq (k : IntKind) (a b : Int) : intOp .leq k k a b = .ok (boolV (decide (a ≤ b))) := by simp [intOp]
@[simp] theorem intOp_gtr (k : IntKind) (a b : Int) : intOp .gtr k k a b = .ok (boolV (decide (a > b))) := by simp [intOp]
@[simp] theorem intOp_geq (k : IntKind) (a b : Int) : intOp .geq k k a b = .ok (boolV (decide (a ≥ b))) := by simp [intOp]
@[simp] theorem strOp_eql (a b : List UInt8) : strOp .eql a b = .ok (boolV (a == b)) := eqBy rfl
@[simp] theorem strOp_neq (a b : List UInt8) : strOp .neq a b = .ok (boolV (!(a == b))) := eqBy rfl
@[simp] theorem unOp_not (b : Bool) : Dt.unOp .not (boolV b) = .ok (boolV (!b)) := eqBy rfl
@[simp] theorem extractV_0 (a : AV) (l : List AV) : extractV (.tuple (a :: l)) 0 = .ok a := eqBy rfl
@[simp] theorem extractV_1 (a b : AV) (l : List AV) : extractV (.tuple (a :: b :: l)) 1 = .ok b := eqBy rfl
@[simp] theorem extractV_2 (a b c : AV) (l : List AV) : extractV (.tuple (a :: b :: c :: l)) 2 = .ok c := eqBy rfl
@[simp] theorem extractV_3 (a b c d : AV) (l : List AV) : extractV (.tuple (a :: b :: c :: d :: l)) 3 = .ok d := eqBy rfl

theorem lenV_str {t : Nat} (h : und D t = .ok .string) (l : List UInt8) : lenV D t (str l) = .ok (goI l.length) := by
  simp [lenV, h, str, bindR_eq]
theorem indexV_str {t : Nat} (h : und D t = .ok .string) (l : List UInt8) (i : Nat) (b : UInt8) (hb : l[i]? = some b) : indexV D t (str l) (goI i) = .ok (intV .u8 b.toNat) := by
  simp [indexV, h, str, goI, asI, bindR_eq, hb]
theorem convR_int {s d : Nat} {k0 k1 : IntKind} (hs : und D s = .ok (.int k0)) (hd : und D d = .ok (.int k1)) (σ : St) (k : IntKind) (n : Int) : convR D σ s d (intV k n) = .ok (intV k1 (k1.wrap n)) := by
  simp [convR, convertV, hs, hd, intV, bindR_eq]
  rfl
end
end Go.Dt
namespace Go.Dt

inductive Tt where
  | b (v : Value)
  | s (elem : TypeId) (len sz : Nat) (cs : List Tt)
  | a (cs : List Tt)
  | t (cs : List Tt)

/- a tree laid into memory -/
mutual
def pTt (own : Bool) : Tt → St → AV × St
  | .b v, dst => (.base v, dst)
  | .s e len sz cs, dst => match pTL own cs dst with | (l, d) => (.slice d.n 0 len none sz, d.push (.cells l e own sz))
  | .a cs, dst => match pTL own cs dst with | (l, d) => (.agg l, d)
  | .t cs, dst => match pTL own cs dst with | (l, d) => (.tuple l, d)
def pTL (own : Bool) : List Tt → St → List AV × St
  | [], dst => ([], dst)
  | t :: ts, dst => match pTt own t dst with | (x, d) => match pTL own ts d with | (l, d') => (x :: l, d')
end

/- how deep -/
mutual
def dT : Tt → Nat
  | .b _ => 1
  | .s _ _ _ cs => dTL cs + 1
  | .a cs => dTL cs + 1
  | .t cs => dTL cs + 1
def dTL : List Tt → Nat
  | [] => 0
  | t :: ts => max (dT t) (dTL ts)
end

/- the lengths fit -/
mutual
def wT : Tt → Bool
  | .b _ => true
  | .s _ len sz cs => Nat.beq cs.length (len * sz) && wTL cs
  | .a cs => wTL cs
  | .t cs => wTL cs
def wTL : List Tt → Bool
  | [] => true
  | t :: ts => wT t && wTL ts
end

/- a value that is a tree, in the blocks from lo up to hi -/
mutual
def Dp (σ : St) (lo hi : Nat) : Tt → AV → Prop
  | .b v, x => x = .base v
  | .s e len sz cs, x => ∃ b l, x = .slice b 0 len none sz ∧ lo ≤ b ∧ b < hi ∧ σ.getO b = .cells l e true sz ∧ cs.length = len * sz ∧ DpL σ lo hi cs l
  | .a cs, x => ∃ l, x = .agg l ∧ DpL σ lo hi cs l
  | .t cs, x => ∃ l, x = .tuple l ∧ DpL σ lo hi cs l
def DpL (σ : St) (lo hi : Nat) : List Tt → List AV → Prop
  | [], l => l = []
  | t :: ts, l => ∃ x r, l = x :: r ∧ Dp σ lo hi t x ∧ DpL σ lo hi ts r
end

theorem DpL.length {σ : St} {lo hi : Nat} : ∀ {ts : List Tt} {l : List AV}, DpL σ lo hi ts l → l.length = ts.length
  | [], l, h => by simp only [DpL] at h; subst h; rfl
  | t :: ts, l, h => by
    simp only [DpL] at h
    obtain ⟨x, r, rfl, _, h⟩ := h
    simp [DpL.length h]

mutual
theorem copy_tree (own : Bool) {σ : St} {lo hi : Nat} : ∀ (t : Tt) (x : AV) (n : Nat) (dst : St), Dp σ lo hi t x → dT t ≤ n → copyA own σ n x dst = .ok (pTt own t dst)
  | .b v, x, 0, dst, h, hn => by simp [dT] at hn
  | .b v, x, n + 1, dst, h, hn => by simp only [Dp] at h; subst h; rfl
  | .s e len sz cs, x, 0, dst, h, hn => by simp [dT] at hn
  | .s e len sz cs, x, n + 1, dst, h, hn => by
    simp only [Dp] at h
    obtain ⟨b, l, rfl, h1, h2, h3, h4, h5⟩ := h
    simp only [dT] at hn
    have hl := h5.length
    have k := copy_treeL own cs l n dst h5 (by omega)
    unfold copyA
    simp only [h3]
    have c1 : ((!own || (true && sz == sz)) && capChk own none 0 len sz l.length) = true := by
      simp [capChk]
    rw [if_pos c1]
    have c2 : takeN l 0 (len * sz) = .ok l := by
      unfold takeN
      have : (l.drop 0).take (len * sz) = l := by rw [List.drop_zero]; exact List.take_of_length_le (by omega)
      rw [this, if_pos (by omega)]
    rw [c2]
    simp only [pTt]
    cases hp : pTL own cs dst with
    | mk l' d =>
      rw [hp] at k
      simp only [bind, Except.bind, k]
      rfl
  | .a cs, x, 0, dst, h, hn => by simp [dT] at hn
  | .t cs, x, 0, dst, h, hn => by simp [dT] at hn
  | .a cs, x, n + 1, dst, h, hn => by
    simp only [Dp] at h
    obtain ⟨l, rfl, h⟩ := h
    simp only [dT] at hn
    have k := copy_treeL own cs l n dst h (by omega)
    unfold copyA
    simp only [pTt]
    cases hp : pTL own cs dst with
    | mk l' d =>
      rw [hp] at k
      simp only [bind, Except.bind, k]
      rfl
  | .t cs, x, n + 1, dst, h, hn => by
    simp only [Dp] at h
    obtain ⟨l, rfl, h⟩ := h
    simp only [dT] at hn
    have k := copy_treeL own cs l n dst h (by omega)
    unfold copyA
    simp only [pTt]
    cases hp : pTL own cs dst with
    | mk l' d =>
      rw [hp] at k
      simp only [bind, Except.bind, k]
      rfl
theorem copy_treeL (own : Bool) {σ : St} {lo hi : Nat} : ∀ (ts : List Tt) (l : List AV) (n : Nat) (dst : St), DpL σ lo hi ts l → dTL ts ≤ n → copyL (copyA own σ n) l dst = .ok (pTL own ts dst)
  | [], l, n, dst, h, hn => by simp only [DpL] at h; subst h; rfl
  | t :: ts, l, n, dst, h, hn => by
    simp only [DpL] at h
    obtain ⟨x, r, rfl, h1, h2⟩ := h
    simp only [dTL] at hn
    have k1 := copy_tree own t x n dst h1 (by omega)
    simp only [pTL]
    unfold copyL
    cases hp : pTt own t dst with
    | mk x' d =>
      rw [hp] at k1
      have k2 := copy_treeL own ts r n d h2 (by omega)
      simp only [bind, Except.bind, k1]
      cases hp2 : pTL own ts d with
      | mk l' d' =>
        rw [hp2] at k2
        simp only [k2]
        rfl
end

/-- memory only grows -/
structure Gw (σ σ' : St) : Prop where
  n : σ.n ≤ σ'.n
  old : ∀ b, b < σ.n → σ'.getO b = σ.getO b
  len : σ.l.length = σ.n → σ'.l.length = σ'.n
  M : σ'.M = σ.M
theorem Gw.refl (σ : St) : Gw σ σ := ⟨Nat.le_refl _, fun _ _ => rfl, id, rfl⟩
theorem Gw.trans {a b c : St} (h : Gw a b) (k : Gw b c) : Gw a c :=
  ⟨Nat.le_trans h.n k.n, fun x hx => (k.old x (Nat.lt_of_lt_of_le hx h.n)).trans (h.old x hx), fun hl => k.len (h.len hl), k.M.trans h.M⟩
theorem Gw.push (σ : St) (o : AO) : Gw σ (σ.push o) :=
  ⟨Nat.le_succ _, fun _ hb => getO_push_old hb, fun h => by simp [St.push, h], rfl⟩

mutual
theorem Dp.mono {σ σ' : St} {lo hi lo' hi' : Nat} (h0 : lo' ≤ lo) (h1 : hi ≤ hi') (hb : ∀ b, lo ≤ b → b < hi → σ.getO b ≠ .gone → σ'.getO b = σ.getO b) : ∀ (t : Tt) (x : AV), Dp σ lo hi t x → Dp σ' lo' hi' t x
  | .b v, x, h => by simpa only [Dp] using h
  | .s e len sz cs, x, h => by
    simp only [Dp] at h ⊢
    obtain ⟨b, l, rfl, k1, k2, k3, k4, k5⟩ := h
    exact ⟨b, l, rfl, by omega, by omega, by rw [hb b k1 k2 (by rw [k3]; simp), k3], k4, DpL.mono h0 h1 hb cs l k5⟩
  | .a cs, x, h => by
    simp only [Dp] at h ⊢
    obtain ⟨l, rfl, k⟩ := h
    exact ⟨l, rfl, DpL.mono h0 h1 hb cs l k⟩
  | .t cs, x, h => by
    simp only [Dp] at h ⊢
    obtain ⟨l, rfl, k⟩ := h
    exact ⟨l, rfl, DpL.mono h0 h1 hb cs l k⟩
theorem DpL.mono {σ σ' : St} {lo hi lo' hi' : Nat} (h0 : lo' ≤ lo) (h1 : hi ≤ hi') (hb : ∀ b, lo ≤ b → b < hi → σ.getO b ≠ .gone → σ'.getO b = σ.getO b) : ∀ (ts : List Tt) (l : List AV), DpL σ lo hi ts l → DpL σ' lo' hi' ts l
  | [], l, h => by simpa only [DpL] using h
  | t :: ts, l, h => by
    simp only [DpL] at h ⊢
    obtain ⟨x, r, rfl, k1, k2⟩ := h
    exact ⟨x, r, rfl, Dp.mono h0 h1 hb t x k1, DpL.mono h0 h1 hb ts r k2⟩
end
theorem Dp.gw {σ σ' : St} {lo hi : Nat} {t : Tt} {x : AV} (h : Dp σ lo hi t x) (g : Gw σ σ') : Dp σ' lo hi t x :=
  Dp.mono (Nat.le_refl _) (Nat.le_refl _) (fun b _ _ hg => g.old b (getO_gone hg)) t x h
theorem DpL.gw {σ σ' : St} {lo hi : Nat} {t : List Tt} {x : List AV} (h : DpL σ lo hi t x) (g : Gw σ σ') : DpL σ' lo hi t x :=
  DpL.mono (Nat.le_refl _) (Nat.le_refl _) (fun b _ _ hg => g.old b (getO_gone hg)) t x h

mutual
theorem pT_ok : ∀ (t : Tt) (dst : St) (x : AV) (d : St), pTt true t dst = (x, d) → wT t = true → Gw dst d ∧ Dp d dst.n d.n t x
  | .b v, dst, x, d, h, hw => by
    simp only [pTt, Prod.mk.injEq] at h
    obtain ⟨rfl, rfl⟩ := h
    exact ⟨Gw.refl _, by simp only [Dp]⟩
  | .s e len sz cs, dst, x, d, h, hw => by
    simp only [pTt] at h
    simp only [wT, Bool.and_eq_true] at hw
    cases hp : pTL true cs dst with
    | mk l d1 =>
      rw [hp] at h
      simp only [Prod.mk.injEq] at h
      obtain ⟨rfl, rfl⟩ := h
      obtain ⟨g, k⟩ := pTL_ok cs dst l d1 hp hw.2
      refine ⟨g.trans (Gw.push _ _), ?_⟩
      simp only [Dp]
      refine ⟨d1.n, l, rfl, g.n, Nat.lt_succ_self _, getO_push_new, Nat.eq_of_beq_eq_true hw.1, ?_⟩
      exact DpL.mono (Nat.le_refl _) (Nat.le_succ _) (fun b _ hb _ => getO_push_old hb) cs l k
  | .a cs, dst, x, d, h, hw => by
    simp only [pTt] at h
    simp only [wT] at hw
    cases hp : pTL true cs dst with
    | mk l d1 =>
      rw [hp] at h
      simp only [Prod.mk.injEq] at h
      obtain ⟨rfl, rfl⟩ := h
      obtain ⟨g, k⟩ := pTL_ok cs dst l d1 hp hw
      refine ⟨g, ?_⟩
      simp only [Dp]
      exact ⟨l, rfl, k⟩
  | .t cs, dst, x, d, h, hw => by
    simp only [pTt] at h
    simp only [wT] at hw
    cases hp : pTL true cs dst with
    | mk l d1 =>
      rw [hp] at h
      simp only [Prod.mk.injEq] at h
      obtain ⟨rfl, rfl⟩ := h
      obtain ⟨g, k⟩ := pTL_ok cs dst l d1 hp hw
      refine ⟨g, ?_⟩
      simp only [Dp]
      exact ⟨l, rfl, k⟩
theorem pTL_ok : ∀ (ts : List Tt) (dst : St) (l : List AV) (d : St), pTL true ts dst = (l, d) → wTL ts = true → Gw dst d ∧ DpL d dst.n d.n ts l
  | [], dst, l, d, h, hw => by
    simp only [pTL, Prod.mk.injEq] at h
    obtain ⟨rfl, rfl⟩ := h
    exact ⟨Gw.refl _, by simp only [DpL]⟩
  | t :: ts, dst, l, d, h, hw => by
    simp only [pTL] at h
    simp only [wTL, Bool.and_eq_true] at hw
    cases hp : pTt true t dst with
    | mk x d1 =>
      rw [hp] at h
      cases hq : pTL true ts d1 with
      | mk r d2 =>
        rw [hq] at h
        simp only [Prod.mk.injEq] at h
        obtain ⟨rfl, rfl⟩ := h
        obtain ⟨g1, k1⟩ := pT_ok t dst x d1 hp hw.1
        obtain ⟨g2, k2⟩ := pTL_ok ts d1 r d2 hq hw.2
        refine ⟨g1.trans g2, ?_⟩
        simp only [DpL]
        refine ⟨x, r, rfl, ?_, ?_⟩
        · exact Dp.mono (Nat.le_refl _) g2.n (fun b _ _ hg => g2.old b (getO_gone hg)) t x k1
        · exact DpL.mono g1.n (Nat.le_refl _) (fun _ _ _ _ => rfl) ts r k2
end

/- the memory alone -/
mutual
theorem pT_M (own : Bool) : ∀ (t : Tt) (n : Nat) (l : List AO) (M M' : MTree), ∃ n' l', pTt own t ⟨n, l, M⟩ = ((pTt own t ⟨n, l, M'⟩).1, ⟨n', l', M⟩) ∧ (pTt own t ⟨n, l, M'⟩).2 = ⟨n', l', M'⟩
  | .b v, n, l, M, M' => ⟨n, l, by simp [pTt], by simp [pTt]⟩
  | .s e len sz cs, n, l, M, M' => by
    obtain ⟨n', l', h1, h2⟩ := pTL_M own cs n l M M'
    simp only [pTt]
    cases hp : pTL own cs ⟨n, l, M'⟩ with
    | mk x d =>
      rw [hp] at h1 h2
      rw [h1]
      simp only at h2 ⊢
      subst h2
      exact ⟨_, _, rfl, rfl⟩
  | .a cs, n, l, M, M' => by
    obtain ⟨n', l', h1, h2⟩ := pTL_M own cs n l M M'
    simp only [pTt]
    cases hp : pTL own cs ⟨n, l, M'⟩ with
    | mk x d =>
      rw [hp] at h1 h2
      rw [h1]
      simp only at h2 ⊢
      subst h2
      exact ⟨_, _, rfl, rfl⟩
  | .t cs, n, l, M, M' => by
    obtain ⟨n', l', h1, h2⟩ := pTL_M own cs n l M M'
    simp only [pTt]
    cases hp : pTL own cs ⟨n, l, M'⟩ with
    | mk x d =>
      rw [hp] at h1 h2
      rw [h1]
      simp only at h2 ⊢
      subst h2
      exact ⟨_, _, rfl, rfl⟩
theorem pTL_M (own : Bool) : ∀ (ts : List Tt) (n : Nat) (l : List AO) (M M' : MTree), ∃ n' l', pTL own ts ⟨n, l, M⟩ = ((pTL own ts ⟨n, l, M'⟩).1, ⟨n', l', M⟩) ∧ (pTL own ts ⟨n, l, M'⟩).2 = ⟨n', l', M'⟩
  | [], n, l, M, M' => ⟨n, l, by simp [pTL], by simp [pTL]⟩
  | t :: ts, n, l, M, M' => by
    obtain ⟨n1, l1, h1, h2⟩ := pT_M own t n l M M'
    simp only [pTL]
    cases hp : pTt own t ⟨n, l, M'⟩ with
    | mk x d =>
      rw [hp] at h1 h2
      rw [h1]
      simp only at h2 ⊢
      subst h2
      obtain ⟨n2, l2, k1, k2⟩ := pTL_M own ts n1 l1 M M'
      cases hq : pTL own ts ⟨n1, l1, M'⟩ with
      | mk r d2 =>
        rw [hq] at k1 k2
        rw [k1]
        simp only at k2 ⊢
        subst k2
        exact ⟨_, _, rfl, rfl⟩
end

/-- what a call of a pure function on trees is, as a memo -/
def mkMemo (D : Tab) (f : FuncId) (ts : List Tt) (r : Tt) : Memo :=
  { f, args := (pTL false ts (freshSt D .e)).1, heap := (pTL false ts (freshSt D .e)).2.l, val := (pTt true r (freshSt D .e)).1, res := (pTt true r (freshSt D .e)).2.l }

theorem fresh_len (D : Tab) (M : MTree) : (freshSt D M).l.length = (freshSt D M).n := by simp [freshSt, replGone_length]

theorem pureW {D : Tab} {f : FuncId} {ts : List Tt} {r : Tt} {σ : St} {as : List AV} {lo hi : Nat} (hp : D.pure f = true) (ha : DpL σ lo hi ts as) (hd : dTL ts ≤ 30) (hr : dT r ≤ 30) (hw : wT r = true)
    (hm : findMemo f (mkMemo D f ts r).args (mkMemo D f ts r).heap (σ.M.get (pth f)) = some (mkMemo D f ts r)) :
    callW D f as σ = .ok (.ret (pTt true r σ).1, (pTt true r σ).2) := by
  rw [callW_ok]
  refine ⟨1, ?_⟩
  show callF D (fns D 0) f as σ = _
  unfold callF
  rw [if_pos hp, copy_treeL false ts as copyFuel (freshSt D σ.M) ha hd]
  obtain ⟨n', l', h1, h2⟩ := pTL_M false ts D.nglob (replGone D.nglob) σ.M .e
  have e1 : pTL false ts (freshSt D σ.M) = ((mkMemo D f ts r).args, ⟨n', (mkMemo D f ts r).heap, σ.M⟩) := by
    show pTL false ts ⟨D.nglob, replGone D.nglob, σ.M⟩ = _
    rw [h1]
    have : (mkMemo D f ts r).heap = l' := by
      show (pTL false ts ⟨D.nglob, replGone D.nglob, .e⟩).2.l = l'
      rw [h2]
    rw [this]
    rfl
  rw [e1]
  simp only [bind, Except.bind, hm]
  show memoF (mkMemo D f ts r) σ = _
  unfold memoF
  have k : Dp (bareSt .e (mkMemo D f ts r).res) D.nglob (pTt true r (freshSt D .e)).2.n r (mkMemo D f ts r).val := by
    cases hq : pTt true r (freshSt D .e) with
    | mk x d =>
      obtain ⟨g, k⟩ := pT_ok r _ x d hq hw
      have hl := g.len (fresh_len D .e)
      have hM : d.M = .e := g.M
      have : bareSt .e (mkMemo D f ts r).res = d := by
        unfold bareSt mkMemo
        rw [hq]
        simp only [hl, ← hM]
      rw [this]
      have : (mkMemo D f ts r).val = x := by unfold mkMemo; rw [hq]
      rw [this]
      exact k
  rw [copy_tree true r _ copyFuel σ k hr]
  rfl
/-- and what it leaves -/
theorem pureG {D : Tab} {f : FuncId} {ts : List Tt} {r : Tt} {σ : St} {as : List AV} {lo hi : Nat} (hp : D.pure f = true) (ha : DpL σ lo hi ts as) (hd : dTL ts ≤ 30) (hr : dT r ≤ 30) (hw : wT r = true)
    (hm : findMemo f (mkMemo D f ts r).args (mkMemo D f ts r).heap (σ.M.get (pth f)) = some (mkMemo D f ts r)) :
    ∃ x σ', callW D f as σ = .ok (.ret x, σ') ∧ Gw σ σ' ∧ Dp σ' σ.n σ'.n r x := by
  cases hq : pTt true r σ with
  | mk x d =>
    obtain ⟨g, k⟩ := pT_ok r _ x d hq hw
    exact ⟨x, d, by rw [pureW hp ha hd hr hw hm, hq], g, k⟩
end Go.Dt
namespace Go.Proofs.YtkpkmjanikkpoaaGreatDoor
open Go Go.Dt
def I (n : Int) : Tt := .b (.int .i64 n)
def U (n : Int) : Tt := .b (.int .u64 n)
def B (b : Bool) : Tt := .b (.bool b)
def Z (l : List UInt8) : Tt := .b (.string ⟨⟨l⟩⟩)
def N : Tt := .b (.slice none 0 0)
def zs : Nat → List Tt
  | 0 => []
  | n + 1 => U 0 :: U 0 :: U 0 :: U 0 :: I 0 :: I 0 :: zs n
def stS : Tt := .a [.s 134 2 388 ([U 0, I 4, U 1, U 1] ++ zs 64 ++ ([U 1, I 4, U 1, U 1] ++ zs 64)), U 0, U 0, U 9]
def cfC : Tt := .a [I 1, I 4, I 9, I 2, I 0]
def cf8 : Tt := .a [I 1, I 4, I 9, I 8, I 0]
def t0C : Tt := .a [B true, U 1, I 0, N, I 2, N, I 0]
def txt : Nat → List UInt8
  | 0 => [65, 32, 119, 105, 116, 104, 105, 110, 32, 53]
  | 1 => [65, 32, 59, 32, 66, 32, 119, 105, 116, 104, 105, 110, 32, 51]
  | 2 => [66, 64, 123, 48, 125, 32, 119, 105, 116, 104, 105, 110, 32, 48]
  | 3 => [65, 32, 59, 32, 110, 111, 116, 32, 67, 32, 59, 32, 66, 32, 119, 105, 116, 104, 105, 110, 32, 55]
  | 4 => [67, 123, 49, 44, 50, 125, 32, 119, 105, 116, 104, 105, 110, 32, 50]
  | _ => [65, 64, 123, 125, 32, 119, 105, 116, 104, 105, 110, 32, 57]
def q0 : Nat → List Tt
  | 0 => [I 1, I 1, I 1, I 0, B false, U 0, N, Z [], N, U 5, N, N]
  | 1 => [I 3, I 0, I 0, I 0, B false, U 0, N, Z [], .s 54 2 9 [I 1, I 1, I 1, I 0, B false, U 0, N, Z [], N, I 1, I 1, I 1, I 1, B false, U 0, N, Z [], N], U 3, N, N]
  | 2 => [I 1, I 1, I 1, I 1, B true, U 1, N, Z [], N, U 0, N, N]
  | 3 => [I 3, I 0, I 0, I 0, B false, U 0, N, Z [], .s 54 3 9 [I 1, I 1, I 1, I 0, B false, U 0, N, Z [], N, I 2, I 0, I 0, I 2, B false, U 0, N, Z [], N, I 1, I 1, I 1, I 1, B false, U 0, N, Z [], N], U 7, N, N]
  | 4 => [I 1, I 1, I 2, I 2, B false, U 0, N, Z [], N, U 2, N, N]
  | _ => [I 1, I 1, I 1, I 0, B true, U 0, N, Z [], N, U 9, N, N]
def li : Nat → Tt
  | 0 => .s 160 1 1 [.s 158 1 2 [I 0, N]]
  | 1 => .s 160 1 1 [.s 158 2 2 [I 0, N, I 1, N]]
  | 2 => .s 160 1 1 [.s 158 1 2 [I 0, N]]
  | 3 => .s 160 1 1 [.s 158 2 2 [I 0, N, I 2, .s 3 1 1 [I 1]]]
  | 4 => .s 160 2 1 [.s 158 1 2 [I 0, N], .s 158 2 2 [I 0, N, I 0, N]]
  | _ => .s 160 1 1 [.s 158 1 2 [I 0, N]]
def x0 : Nat → Int → List Tt
  | 0, m => [I m, I 1, I 1, I 1, I 0, B false, U 0, N, Z [], N, U 5, N, N, .s 191 2 6 [I 0, N, I 0, .s 3 1 1 [I 1], B false, I (-1), I 0, N, I 0, N, B true, I 0], .s 51 1 5 [I 0, B false, U 0, N, Z []], U 5, I 9, N, I 0, U 0, B false, U 1, .s 23 2 1 [U 1, U 1], N]
  | 1, m => [I m, I 3, I 0, I 0, I 0, B false, U 0, N, Z [], .s 54 2 9 [I 1, I 1, I 1, I 0, B false, U 0, N, Z [], N, I 1, I 1, I 1, I 1, B false, U 0, N, Z [], N], U 3, N, N, .s 191 3 6 [I 0, N, I 0, .s 3 1 1 [I 1], B false, I (-1), I 0, N, I 0, .s 3 1 1 [I 2], B false, I (-1), I 1, N, I 1, N, B true, I 0], .s 51 2 5 [I 0, B false, U 0, N, Z [], I 1, B false, U 0, N, Z []], U 3, I 9, N, I 0, U 0, B false, U 1, .s 23 2 1 [U 1, U 1], N]
  | 2, m => [I m, I 1, I 1, I 1, I 1, B true, U 1, N, Z [], N, U 0, N, N, .s 191 2 6 [I 0, N, I 0, .s 3 1 1 [I 1], B false, I (-1), I 0, N, I 0, N, B true, I 0], .s 51 1 5 [I 1, B true, U 1, N, Z []], U 0, I 9, N, I 0, U 0, B false, U 1, .s 23 2 1 [U 1, U 1], N]
  | 3, m => [I m, I 3, I 0, I 0, I 0, B false, U 0, N, Z [], .s 54 3 9 [I 1, I 1, I 1, I 0, B false, U 0, N, Z [], N, I 2, I 0, I 0, I 2, B false, U 0, N, Z [], N, I 1, I 1, I 1, I 1, B false, U 0, N, Z [], N], U 7, N, N, .s 191 3 6 [I 0, N, I 0, .s 3 1 1 [I 1], B false, I (-1), I 0, N, I 0, .s 3 1 1 [I 2], B false, I (-1), I 2, .s 3 1 1 [I 1], I 1, N, B true, I 0], .s 51 3 5 [I 0, B false, U 0, N, Z [], I 2, B false, U 0, N, Z [], I 1, B false, U 0, N, Z []], U 7, I 9, N, I 0, U 0, B false, U 1, .s 23 2 1 [U 1, U 1], N]
  | 4, m => [I m, I 1, I 1, I 2, I 2, B false, U 0, N, Z [], N, U 2, N, N, .s 191 3 6 [I 0, N, I 0, .s 3 1 1 [I 1], B false, I (-1), I 0, N, I 0, .s 3 1 1 [I 2], B true, I 0, I 0, N, I 1, N, B true, I 1], .s 51 1 5 [I 2, B false, U 0, N, Z []], U 2, I 9, N, I 0, U 0, B false, U 1, .s 23 2 1 [U 1, U 1], N]
  | _, m => [I m, I 1, I 1, I 1, I 0, B true, U 0, N, Z [], N, U 9, N, N, .s 191 2 6 [I 0, N, I 0, .s 3 1 1 [I 1], B false, I (-1), I 0, N, I 0, N, B true, I 0], .s 51 1 5 [I 0, B true, U 0, N, Z []], U 9, I 9, N, I 0, U 0, B false, U 1, .s 23 2 1 [U 1, U 1], N]
/-- the queries, as the list's memory -/
def qT : List (Nat × Int) → Tt
  | [] => N
  | q :: qs => .s 71 (qs.length + 1) 24 ((q :: qs).flatMap fun p => x0 p.1 p.2)
def tT (had : Int) (qs : List (Nat × Int)) : Tt := .a [B true, U 1, I had, qT qs, I 8, N, I 0]
/-- an item -/
def itT (c : Int) : Tt := .a [I 2, I 1, N, N, N, I 18, I c]
end Go.Proofs.YtkpkmjanikkpoaaGreatDoor
