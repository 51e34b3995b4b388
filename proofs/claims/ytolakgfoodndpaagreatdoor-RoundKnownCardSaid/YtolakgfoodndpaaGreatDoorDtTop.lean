/-
  What a run of the staged reading says of the model. No statement of this seat stands here.
-/
import Derived.Test.YtolakgfoodndpaaGreatDoorDtLe4
import Derived.Test.YtolakgfoodndpaaGreatDoorDtFr
import Derived.ChangeSame
import Derived.RowKit
namespace Go.Dt

/-- a table as a tree -/
inductive Tri (α : Type) where
  | leaf (a : α)
  | node (k : Nat) (l r : Tri α)
noncomputable def Tri.get {α : Type} (i : Nat) (t : Tri α) : α := Tri.rec (motive := fun _ => α) (fun a => a) (fun k _ _ gl gr => bif Nat.blt i k then gl else gr) t
def Tri.ok {α : Type} (Q : Nat → α → Prop) : Tri α → Nat → Nat → Prop
  | .leaf a, lo, hi => hi ≤ lo + 1 ∧ Q lo a
  | .node k l r, lo, hi => Tri.ok Q l lo k ∧ Tri.ok Q r k hi
theorem Tri.get_node {α : Type} (i k : Nat) (l r : Tri α) : (Tri.node k l r).get i = bif Nat.blt i k then l.get i else r.get i := rfl
theorem Tri.get_ok {α : Type} {Q : Nat → α → Prop} {i : Nat} : ∀ (t : Tri α) (lo hi : Nat), t.ok Q lo hi → lo ≤ i → i < hi → Q i (t.get i)
  | .leaf a, lo, hi, h, h1, h2 => by
    have : i = lo := by have := h.1; omega
    subst this
    exact h.2
  | .node k l r, lo, hi, h, h1, h2 => by
    rw [Tri.get_node, blt_eq]
    by_cases hk : i < k
    · simp only [hk, decide_true, cond_true]; exact Tri.get_ok l lo k h.1 h1 hk
    · simp only [hk, decide_false, cond_false]; exact Tri.get_ok r k hi h.2 (by omega) h2

theorem Tri.okN {α : Type} {Q : Nat → α → Prop} {k lo hi : Nat} {l r : Tri α} (hl : l.ok Q lo k) (hr : r.ok Q k hi) : (Tri.node k l r).ok Q lo hi := ⟨hl, hr⟩
theorem Tri.okL {α : Type} {Q : Nat → α → Prop} {lo : Nat} {a : α} (hq : Q lo a) : (Tri.leaf a).ok Q lo (lo + 1) := ⟨Nat.le_refl _, hq⟩
/-- the functions without a body that the reading knows -/
def extL (l : List (Nat × ExtKind)) (g : Nat) : Option ExtKind :=
  match l with
  | [] => none
  | (i, k) :: l => bif Nat.beq g i then some k else extL l g
def ExtFn (P : Program) (g : Nat) (k : ExtKind) (fn : Func) : Prop :=
  P.funcs[g]? = some fn ∧ (fn.name == "runtime.NumGoroutine") = false ∧ fn.body.isNone = true ∧ (Extern.findNext fn).isNone = true ∧ Extern.find fn = some k.sem
def ExtAll (P : Program) : List (Nat × ExtKind) → Prop
  | [] => True
  | (i, k) :: l => (∃ fn, ExtFn P i k fn) ∧ ExtAll P l
theorem extL_ok {P : Program} : ∀ {l : List (Nat × ExtKind)}, ExtAll P l → ∀ g k, extL l g = some k → ∃ fn, P.funcs[g]? = some fn ∧ (fn.name == "runtime.NumGoroutine") = false ∧ fn.body.isNone = true ∧ (Extern.findNext fn).isNone = true ∧ Extern.find fn = some k.sem
  | [], _, g, k, h => by simp [extL] at h
  | (i, k') :: l, ha, g, k, h => by
    unfold extL at h
    rw [beq_eq] at h
    by_cases e : g = i
    · simp only [e, decide_true, cond_true, Option.some.injEq] at h
      subst h
      rw [e]
      exact ha.1
    · simp only [e, decide_false, cond_false] at h
      exact extL_ok ha.2 g k h

theorem noEq {p : Prop} (h : false = true) : p := by cases h

/-- is it a returned 'true'? -/
def okT (r : R (AEnd × St)) : Bool :=
  match r with
  | .ok (.ret (.base (.bool true)), _) => true
  | _ => false
theorem okT_spec {r : R (AEnd × St)} (h : okT r = true) : ∃ σ', r = .ok (.ret (.base (.bool true)), σ') := by
  unfold okT at h
  split at h
  · exact ⟨_, rfl⟩
  · cases h

/-- the program's tables: nf functions, nt types, ng variables; pm, which functions count as pure -/
noncomputable def mkTab (nf nt ng pm : Nat) (ft : Tri Func) (tt : Tri (TypeInfo × Bool)) (ex : Nat → Option ExtKind) (cuts : List (Nat × Nat × Nat × Nat)) : Tab where
  func := fun i => bif Nat.blt i nf then some (ft.get i) else none
  info := fun t => bif Nat.blt t nt then some (tt.get t).1 else none
  nglob := ng
  pure := fun i => Nat.beq (Nat.land 1 (Nat.shiftRight pm i)) 1
  eqOk := fun t => bif Nat.blt t nt then (tt.get t).2 else false
  ext := ex
  cut := cutBy cuts
  memo := fun _ => True

/-- and what its memos say -/
noncomputable def Tab.full (D : Tab) (P : Program) : Tab := { D with memo := fun m => MemoOK D P m }

theorem full_memo (D : Tab) (P : Program) (m : Memo) : (D.full P).memo m ↔ MemoOK (D.full P) P m :=
  ⟨fun h => ⟨h.nd, h.call⟩, fun h => ⟨h.nd, h.call⟩⟩

theorem fits_full {D : Tab} {P : Program} (h : Fits D P) : Fits (D.full P) P := ⟨h.func, h.info, h.eqOk, h.ext, h.depth, h.mixed⟩

theorem mkTab_fits {P : Program} {nf nt ng pm : Nat} {ft : Tri Func} {tt : Tri (TypeInfo × Bool)} {ex : Nat → Option ExtKind} {cuts : List (Nat × Nat × Nat × Nat)} (hf : ft.ok (fun i f => P.funcs[i]? = some f) 0 nf)
    (ht : tt.ok (fun i x => P.info? i = some x.1 ∧ (x.2 = true → P.stoodInHeld i = false)) 0 nt) (hx : ∀ g k, ex g = some k → ∃ fn, P.funcs[g]? = some fn ∧ (fn.name == "runtime.NumGoroutine") = false ∧ fn.body.isNone = true ∧ (Extern.findNext fn).isNone = true ∧ Extern.find fn = some k.sem) (hd : 10 ≤ P.depth) (hm : P.follows .mixedOrders = true) : Fits (mkTab nf nt ng pm ft tt ex cuts) P where
  ext := hx
  func := fun i f h => by
    simp only [mkTab, blt_eq] at h
    by_cases hi : i < nf
    · simp only [hi, decide_true, cond_true, Option.some.injEq] at h
      rw [← h]
      exact Tri.get_ok ft 0 nf hf (Nat.zero_le _) hi
    · simp [hi] at h
  info := fun t i h => by
    simp only [mkTab, blt_eq] at h
    by_cases hi : t < nt
    · simp only [hi, decide_true, cond_true, Option.some.injEq] at h
      rw [← h]
      exact (Tri.get_ok tt 0 nt ht (Nat.zero_le _) hi).1
    · simp [hi] at h
  eqOk := fun t h => by
    simp only [mkTab, blt_eq] at h
    by_cases hi : t < nt
    · simp only [hi, decide_true, cond_true] at h
      exact (Tri.get_ok tt 0 nt ht (Nat.zero_le _) hi).2 h
    · simp [hi] at h
  depth := hd
  mixed := hm

def iota0 : Nat → Loc := fun b => ⟨b, 0, 0, 0⟩

theorem rep0 (D : Tab) (W : World) {M : MTree} (hM : ∀ m, M.mem m → D.memo m) : Rep D iota0 (freshSt D M) W where
  len := by simp [freshSt, replGone_length]
  glob := Nat.le_refl _
  gloc := fun g _ => ⟨rfl, rfl⟩
  obj := fun b _ => by rw [fresh_gone]; trivial
  sep := fun b b' _ _ _ hm => by rw [fresh_gone] at hm; simp [AO.isMut] at hm
  mem := hM

/-- a call of the staged reading that returned a plain value -/
theorem run_calls {D : Tab} {P : Program} (F : Fits D P) (HM : ∀ m, D.memo m ↔ MemoOK D P m) {n f : Nat} {args : List AV} {v : Value} {σ' : St} {M : MTree} (hM : ∀ m, M.mem m → D.memo m)
    (hargs : ∀ ι A, idsL ι A args) (h : (fnsS D n).call f args (freshSt D M) = .ok (.ret (.base v), σ')) (W : World) :
    Calls P f (concL iota0 args).toArray W fun e W' => e = .returned v ∧ Fresh W W' := by
  have h1 := (fns_le D n).call _ _ _ _ h
  have h2 := (fns_ok F HM n).call _ _ _ _ _ h1 iota0 W (rep0 D W hM) (hargs _ _)
  intro cs
  obtain ⟨e, W', fr, ⟨ι', rfl, _, E, _⟩, hc, hl⟩ := h2 cs
  refine ⟨_, W', fr, ⟨rfl, E.fresh fun b _ => by rw [fresh_gone]; rfl⟩, hc, hl⟩

theorem Fresh.kept {W W' : World} (h : Fresh W W') (may : MemPlace → Prop) : W.keptBut W' may := by
  refine ⟨h.os, h.output, fun i hi => ?_⟩
  rw [h.old i hi]
  cases W.heap[i]? with
  | none => trivial
  | some o => cases o <;> simp

theorem Fresh.cell {W W' : World} (h : Fresh W W') {i : Nat} (hi : i < W.heap.size) : W'.heap[i]? = W.heap[i]? := h.old i hi

/-- a law without argument: what its row asks behind the call -/
theorem post_closed {H : Type} {enc : TypeId × Value → H} {P : Program} {f : Func} {s : ChangeSpec} {t : TypeId} {W W' : World} {apart fresh handsOn again : Bool} (hp : f.params = #[]) (hr : f.resultTypes = #[t]) (ht : P.underlying t = some .bool)
    (hv : s.vars = []) (hs : s.fn H [] = { results := [.lit (.bool true)], args := [] }) (h : Fresh W W') : s.post enc P f apart fresh handsOn again W #[] (.bool true) W' := by
  have hW : DataW.Whole enc P f.params.toList s.vars apart W (#[] : Array Value).toList [] [] [] := by
    refine ⟨[], [], ?_, ?_, rfl, ?_, fun _ => List.nodup_nil⟩
    · rw [hp]; simp [DataW.TrodAll]
    · rw [hv]; simp [DataW.TrodVars]
    · intro b off hb; simp at hb
  have hres : ∀ (b : Nat) (sp : Nat → Bool) (hd : Bool), DataW.TrodAll enc P W' b sp hd f.resultTypes.toList ((Value.bool true).resultList f.resultTypes.size) (s.fn H ([] ++ [])).results [] := by
    intro b sp hd
    rw [hr]
    simp only [List.append_nil, hs]
    exact ChangeShapes.trodAll_mk1 (RowKit.shut_bool ht true)
  have hargs : ∀ (b : Nat) (sp : Nat → Bool) (hd : Bool), DataW.TrodAll enc P W' b sp hd f.params.toList (#[] : Array Value).toList (s.fn H ([] ++ [])).args [] := by
    intro b sp hd
    rw [hp]
    simp [hs, DataW.TrodAll]
  have hvars : ∀ (sp : Nat → Bool), DataW.TrodVars enc P W' sp s.vars (s.fn H ([] ++ [])).vars [] := by
    intro sp
    rw [hv]
    simp [hs, DataW.TrodVars]
  refine ⟨[], [], [], [], [], [], hW, hres _ _ _, hargs _ _ _, hvars _, h.kept _, fun _ => ⟨?_, _, _, [], ⟨[], [], ChangeShapes.trodAll_append (hargs _ _ _) (hres _ _ _), hvars _, rfl, ?_, fun _ => List.nodup_nil⟩, ?_⟩⟩
  · intro j t' r hj hv'
    rw [hr] at hj hv'
    match j, hj, hv' with
    | 0, hj, hv' =>
      simp at hj hv'
      subst hj
      simp [Value.resultList] at hv'
      subst hv'
      exact RowKit.okWide_bool_mk ht _
    | j + 1, hj, _ => simp at hj
  · intro b off hb; simp at hb
  · intro p hp'; simp at hp'

end Go.Dt
namespace Go.Dt
/-- is it this memo? -/
noncomputable def isMemo (m : Memo) (r : R (Memo × MTree)) : Bool :=
  match r with
  | .ok (x, _) => bif Nat.beq x.f m.f then bif beqLS x.args m.args then bif beqHS x.heap m.heap then bif beqAS x.val m.val then beqHS x.res m.res else false else false else false else false
  | .error _ => false

theorem isMemo_ok {m : Memo} {r : R (Memo × MTree)} (h : isMemo m r = true) : ∃ M, r = .ok (m, M) := by
  unfold isMemo at h
  split at h
  · rename_i x M
    rw [beq_eq] at h
    cases h1 : decide (x.f = m.f) with
    | false => rw [h1] at h; cases h
    | true =>
      rw [h1] at h
      simp only [cond_true] at h
      cases h2 : beqLS x.args m.args with
      | false => rw [h2] at h; cases h
      | true =>
        rw [h2] at h
        simp only [cond_true] at h
        cases h3 : beqHS x.heap m.heap with
        | false => rw [h3] at h; cases h
        | true =>
          rw [h3] at h
          simp only [cond_true] at h
          cases h4 : beqAS x.val m.val with
          | false => rw [h4] at h; cases h
          | true =>
            rw [h4] at h
            simp only [cond_true] at h
            rw [beqLS_eq] at h2
            rw [beqHS_eq] at h3 h
            rw [beqAS_eq] at h4
            refine ⟨M, ?_⟩
            have e1 : x.f = m.f := of_decide_eq_true h1
            have e2 := beqL_ok _ _ h2
            have e3 := beqH_ok h3
            have e4 := beqA_ok _ _ h4
            have e5 := beqH_ok h
            cases x
            cases m
            simp only at e1 e2 e3 e4 e5
            subst e1; subst e2; subst e3; subst e4; subst e5
            rfl
  · cases h

/-- a memo that one run gives, out of memos that hold -/
theorem memo_of_run {D : Tab} {P : Program} (F : Fits D P) (HM : ∀ m, D.memo m ↔ MemoOK D P m) {n : Nat} {m : Memo} {M : MTree} (hM : ∀ x, M.mem x → D.memo x)
    (h : isMemo m (pureS D (fnsS D n) m.f m.args { n := m.heap.length, l := m.heap, M := M }) = true) : D.memo m := by
  obtain ⟨M', hr⟩ := isMemo_ok h
  have h1 := pureS_le (fns_le D n) m.f m.args _ _ hr
  exact (HM m).2 (pureF_ok F (fns_ok F HM n) h1 hM rfl).2.2.2.1

theorem mem_e {D : Tab} : ∀ x, MTree.e.mem x → D.memo x := fun _ h => h.elim
theorem mem_add' {D : Tab} {M : MTree} {m : Memo} {p : Pth} (hM : ∀ x, M.mem x → D.memo x) (hm : D.memo m) : ∀ x, (M.add m p).mem x → D.memo x := fun x hx => by
  rcases MTree.mem_add _ _ hx with rfl | h
  · exact hm
  · exact hM x h
end Go.Dt
