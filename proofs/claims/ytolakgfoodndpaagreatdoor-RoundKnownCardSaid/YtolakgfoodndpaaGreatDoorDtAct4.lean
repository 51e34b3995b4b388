/-
  Operations that act: together. No statement of this seat stands here.
-/
import Derived.Test.YtolakgfoodndpaaGreatDoorDtAct3
namespace Go.Dt
section
variable {D : Tab} {P : Program} (F : Fits D P) {ι : Nat → Loc} {σ : St} {w : World}

include F
theorem run_copyV (R : Rep D ι σ w) {dT : Nat} {d x v : AV} {σ' : St} {ts : Array TypeId} {ty : TypeId} (h : copyV D σ dT d x = .ok (v, σ')) (hts : ts[0]? = some dT) :
    ∃ w', (Builtin.copy_ ts ty #[conc ι d, conc ι x]).run P w = .ok (conc ι v) w' ∧ Rep D ι σ' w' ∧ Ext ι σ w ι σ' w' ∧ ids ι (· < σ'.n) v := by
  simp only [copyV, bind_ok] at h
  obtain ⟨elem, hel, sz, hsz, h⟩ := h
  have hd := sliceElem_ok hel
  split at h
  · rename_i b o dlen cap sz'
    simp only [bind_ok, pure_ok, Prod.mk.injEq] at h
    obtain ⟨⟨new, n⟩, hsrc, σ1, hst, rfl, rfl⟩ := h
    obtain ⟨hlen, hnew, hnl, hfirst⟩ := run_srcCells (P := P) R hsrc
    obtain ⟨w', h1, h2, h3⟩ := run_store_own (P := P) R hst (idsL_take hnew _)
    obtain ⟨c, hc⟩ := conc_slice ι b o dlen cap sz'
    refine ⟨w', ?_, h2, h3, by simp [goI, ids]⟩
    have hf := hfirst (min n dlen) (Nat.min_le_left _ _)
    simp only [Builtin.copy_, hts, List.getElem?_toArray, List.getElem?_cons_zero, List.getElem?_cons_succ, Sem.run_bind, run_und F w hd, Result.andThen_ok, hc, hlen, run_size F w hsz]
    have hmin : Nat.min n dlen = min n dlen := rfl
    rw [hmin, hf]
    simp only [Result.andThen_ok, Sem.run_bind, h1, Sem.run_pure]
    simp [goI, conc, goInt]
  · simp at h

theorem run_clearV (R : Rep D ι σ w) {t : Nat} {x v : AV} {σ' : St} {ts : Array TypeId} {ty : TypeId} (h : clearV D σ t x = .ok (v, σ')) (hts : ts[0]? = some t) :
    ∃ w', (Builtin.clear_ ts ty #[conc ι x]).run P w = .ok (conc ι v) w' ∧ Rep D ι σ' w' ∧ Ext ι σ w ι σ' w' ∧ ids ι (· < σ'.n) v := by
  simp only [clearV, bind_ok] at h
  obtain ⟨elem, hel, h⟩ := h
  have hd := sliceElem_ok hel
  split at h
  · simp at h
    obtain ⟨rfl, rfl⟩ := h
    refine ⟨w, ?_, R, Ext.refl _ _ _, ids_undef _ _⟩
    simp [Builtin.clear_, hts, run_und F w hd, conc, AV.undef, concL]
  · rename_i b o n cap sz'
    simp only [bind_ok, pure_ok, Prod.mk.injEq] at h
    obtain ⟨z, hz, σ1, hst, rfl, rfl⟩ := h
    obtain ⟨c, hc⟩ := conc_slice ι b o n cap sz'
    have hzc : Builtin.zeroCells (conc ι z).cells n = (concL ι (repeatL z.cells n)).toArray := by
      have := range_map_repeat ι z.cells n
      rw [← this]
      simp [Builtin.zeroCells, conc_cells]
    obtain ⟨w', h1, h2, h3⟩ := run_store_own (P := P) R hst (idsL_repeat (ids_cells (zero_ids hz _)) n)
    refine ⟨w', ?_, h2, h3, ids_undef _ _⟩
    simp only [Builtin.clear_, hts, List.getElem?_toArray, List.getElem?_cons_zero, Sem.run_bind, run_und F w hd, Result.andThen_ok, hc]
    cases n with
    | zero =>
      simp only [repeatL, concL, Go.storeCells] at h1
      simp at h1
      subst h1
      simp [AV.undef, conc, concL]
    | succ n =>
      simp only [Sem.run_bind, run_zero F (ι := ι) w hz, Result.andThen_ok, hzc, h1, Sem.run_pure]
      simp [AV.undef, conc, concL]
  · simp at h

/- calls -/

def concNext (ι : Nat → Loc) : ANext → Option Next
  | .value v => some (.value (conc ι v))
  | .skip => some .skip
  | .enter f args => some (.enter f (concL ι args).toArray)
  | .defer d => some (.defer (concDef ι d))
  | .recover => some .recover
  | .round _ _ | .panic _ => none

def idsNext (ι : Nat → Loc) (A : Nat → Prop) : ANext → Prop
  | .value v => ids ι A v
  | .skip => True
  | .enter _ args => idsL ι A args
  | .round l args => A l ∧ idsL ι A args
  | .defer d => idsDef ι A d
  | .recover => True
  | .panic v => ids ι A v

/-- what the model's operation comes to -/
def Comes' (P : Program) (ι : Nat → Loc) (nx : ANext) (s : Sem Next) (w w' : World) : Prop :=
  match nx with
  | .round l args => s.run P w = (Instr.yield (ι l).block (concL ι args).toArray).run P w ∧ w' = w
  | .panic v => s.run P w = .halt (.panic (conc ι v)) w'
  | nx => ∃ x, concNext ι nx = some x ∧ s.run P w = .ok x w'

omit F in
theorem callFn_ok (F : Fits D P) (w : World) {f : FuncId} {args : List AV} {nx : ANext} (h : callFn D f args = .ok nx) :
    nx = .enter f args ∧ (callFunc f (concL ι args).toArray).run P w = .ok (.enter f (concL ι args).toArray) w := by
  unfold callFn at h
  split at h
  · rename_i fn hfn
    split at h
    · simp at h
    · rename_i hname
      split at h
      · rename_i hbody
        simp at h
        subst h
        refine ⟨rfl, ?_⟩
        have hb : fn.body.isNone = false := by cases hx : fn.body <;> simp_all
        simp only [callFunc, Sem.run_bind, run_program, Result.andThen_ok, F.func _ _ hfn]
        rw [if_neg (by simpa using hname), if_neg (by simp [hb])]
        simp
      · simp at h
  · simp at h

theorem methodOf_ok (w : World) {t : Nat} {v r : AV} {name : String} {f : FuncId} (h : methodOf D t v name = .ok (f, r)) (fuel : Nat) :
    r = v ∧ (Go.method (fuel + 1) t (conc ι v) name).run P w = .ok (f, conc ι v) w := by
  simp only [methodOf, bind_ok] at h
  obtain ⟨i, hi, h⟩ := h
  split at h
  · simp at h
  · rename_i m hm
    split at h
    · simp at h
    · rename_i hp
      split at h
      · simp at h
      · rename_i f' pr hf
        simp only [bind_ok] at h
        obtain ⟨d, hd, h⟩ := h
        have hpath : m.path.toList = [] := by
          have : m.path.isEmpty = true := by simpa using hp
          simpa [Array.isEmpty_iff] using this
        have hmm : i.methods.find? (fun m => m.name == name) = some m := by rw [← Array.find?_toList]; exact hm
        have key : ∀ b, (und D t = .ok d) → pr = b → (∀ (e : TypeId), d = .pointer e → b = true) → ((∀ e : TypeId, d ≠ .pointer e) → b = false) →
            (Go.method (fuel + 1) t (conc ι v) name).run P w = .ok (f', conc ι v) w := by
          intro b _ hb h1 h2
          subst hb
          simp only [Go.method, Sem.run_bind, run_inf F w hi, Result.andThen_ok, hmm, hpath, follow, Sem.run_pure, hf, receiverAt, run_und F w hd]
          cases d with
          | pointer e =>
            have := h1 e rfl
            subst this
            simp [Place.get]
          | _ =>
            have := h2 (by simp)
            subst this
            simp [Place.get]
        split at h
        · simp at h
          obtain ⟨rfl, rfl⟩ := h
          exact ⟨rfl, key true hd rfl (fun _ _ => rfl) (fun hh => (hh _ rfl).elim)⟩
        · simp at h
        · rename_i hno _
          simp at h
          obtain ⟨rfl, rfl⟩ := h
          exact ⟨rfl, key false hd rfl (fun e he => by subst he; simp_all) (fun _ => rfl)⟩
        · simp at h

theorem methodOf_recv {t : Nat} {v r : AV} {name : String} {f : FuncId} (h : methodOf D t v name = .ok (f, r)) : r = v := (methodOf_ok F default (ι := fun _ => default) h 0).1

theorem callM_ok (w : World) {recv : AV} {name : String} {args : List AV} {nx : ANext} {A : Nat → Prop} (h : callM D recv name args = .ok nx) (hr : ids ι A recv) (ha : idsL ι A args) :
    ∃ f as, nx = .enter f as ∧ idsL ι A as ∧ (callMethod (conc ι recv) name (concL ι args).toArray).run P w = .ok (.enter f (concL ι as).toArray) w := by
  unfold callM at h
  split at h
  · rename_i t v
    simp only [bind_ok] at h
    obtain ⟨⟨f, r⟩, hm, h⟩ := h
    have hfuel : P.types.size + Made.depth = (P.types.size + Made.depth - 1) + 1 := by
      have : 0 < Made.depth := by decide
      omega
    obtain ⟨rfl, hrun⟩ := methodOf_ok F (ι := ι) w hm (P.types.size + Made.depth - 1)
    obtain ⟨rfl, hcall⟩ := callFn_ok F (ι := ι) w h
    refine ⟨f, r :: args, rfl, ⟨by simpa [ids] using hr, ha⟩, ?_⟩
    simp only [callMethod, conc, Sem.run_bind, run_program, Result.andThen_ok]
    rw [hfuel, hrun]
    simp only [Result.andThen_ok]
    have : #[conc ι r] ++ (concL ι args).toArray = (concL ι (r :: args)).toArray := by simp [concL]
    rw [this]
    exact hcall
  · simp at h

omit F in
theorem extract1 (v : Value) (l : List Value) : (v :: l).toArray.extract 1 (v :: l).toArray.size = l.toArray := by simp

theorem invokeT_ok (w : World) {fn : Fn} {captured args : List AV} {nx : ANext} {A : Nat → Prop} (h : invokeT D fn captured args = .ok nx) (hc : idsL ι A captured) (ha : idsL ι A args) :
    ∃ f as, nx = .enter f as ∧ idsL ι A as ∧ (invoke (.fn fn (concL ι captured).toArray) (concL ι args).toArray).run P w = .ok (.enter f (concL ι as).toArray) w := by
  unfold invokeT at h
  split at h
  · rename_i f
    obtain ⟨rfl, hcall⟩ := callFn_ok F (ι := ι) w h
    refine ⟨f, args ++ captured, rfl, idsL_append.2 ⟨ha, hc⟩, ?_⟩
    simp only [invoke]
    have : (concL ι args).toArray ++ (concL ι captured).toArray = (concL ι (args ++ captured)).toArray := by simp
    rw [this]
    exact hcall
  · rename_i name
    split at h
    · rename_i recv args
      obtain ⟨f, as, rfl, h1, h2⟩ := callM_ok F w h ha.1 ha.2
      refine ⟨f, as, rfl, h1, ?_⟩
      simp only [invoke, concL, extract1]
      simpa using h2
    · simp at h
  · rename_i t name
    split at h
    · rename_i recv args
      simp only [bind_ok] at h
      obtain ⟨d, hd, h⟩ := h
      obtain ⟨f, as, rfl, h1, h2⟩ := callM_ok F (ι := ι) (A := A) w h (by split <;> simpa [ids] using ha.1) ha.2
      refine ⟨f, as, rfl, h1, ?_⟩
      simp only [invoke, concL, extract1]
      simp only [List.getElem?_toArray, List.getElem?_cons_zero, Sem.run_bind, run_und F w hd, Result.andThen_ok]
      have hrecv : conc ι (if isIfaceD d then recv else .iface t recv) = (match d with | .interface _ => conc ι recv | _ => .iface t (conc ι recv)) := by
        cases d <;> simp [isIfaceD, conc]
      rw [hrecv] at h2
      cases d <;> simpa using h2
    · simp at h
  · rename_i t path f ptr
    split at h
    · rename_i x args
      split at h
      · simp at h
      · rename_i hp
        have hpath : path.toList = [] := by
          have : path.isEmpty = true := by simpa using hp
          simpa [Array.isEmpty_iff] using this
        simp only [bind_ok] at h
        obtain ⟨d, hd, h⟩ := h
        have fin : ∀ (hh : callFn D f (x :: args) = .ok nx), (receiverVia t (conc ι x) path ptr).run P w = .ok (conc ι x) w →
            ∃ g as, nx = .enter g as ∧ idsL ι A as ∧ (invoke (.fn (.via t path f ptr) (concL ι captured).toArray) (concL ι (x :: args)).toArray).run P w = .ok (.enter g (concL ι as).toArray) w := by
          intro hh hrv
          obtain ⟨rfl, hcall⟩ := callFn_ok F (ι := ι) w hh
          refine ⟨f, x :: args, rfl, ha, ?_⟩
          simp only [invoke, concL, extract1, List.getElem?_toArray, List.getElem?_cons_zero, Sem.run_bind, hrv, Result.andThen_ok]
          simp only [concL] at hcall
          simpa using hcall
        split at h
        · obtain ⟨g, as, h1, h2, h3⟩ := fin h (by simp [receiverVia, hpath, follow, receiverAt, run_und F w hd, Place.get])
          exact ⟨g, as, h1, h2, h3⟩
        · simp at h
        · rename_i hno _
          obtain ⟨g, as, h1, h2, h3⟩ := fin h (by
            simp only [receiverVia, hpath, follow, receiverAt, Sem.run_bind, Sem.run_pure, Result.andThen_ok, run_und F w hd]
            cases d with
            | pointer e => simp_all
            | _ => simp [Place.get])
          exact ⟨g, as, h1, h2, h3⟩
        · simp at h
    · simp at h
  · simp at h

theorem callV_ok (w : World) {f : AV} {args : List AV} {nx : ANext} {A : Nat → Prop} {type : TypeId} (h : callV D f args = .ok nx) (hf : ids ι A f) (ha : idsL ι A args) :
    idsNext ι A nx ∧ Comes' P ι nx (do let d ← Deferred.ofValue (conc ι f) (concL ι args).toArray; invoke d.target d.args) w w ∧ ((∃ g as, nx = .enter g as) ∨ ∃ l as, nx = .round l as) := by
  unfold callV at h
  split at h
  · rename_i l
    simp at h; subst h
    refine ⟨⟨by simpa [ids] using hf, ha⟩, ⟨?_, rfl⟩, .inr ⟨_, _, rfl⟩⟩
    simp [conc, Deferred.ofValue, invoke]
  · rename_i fn first captured
    obtain ⟨g, as, rfl, h1, h2⟩ := invokeT_ok F (ι := ι) (A := A) w h hf.2 (idsL_append.2 ⟨hf.1, ha⟩)
    refine ⟨h1, ⟨_, rfl, ?_⟩, .inl ⟨_, _, rfl⟩⟩
    simp only [conc, Deferred.ofValue, Sem.run_bind, Sem.run_pure, Result.andThen_ok]
    have : (concL ι first).toArray ++ (concL ι args).toArray = (concL ι (first ++ args)).toArray := by simp
    rw [this]
    exact h2
  · simp at h

omit F in
theorem Comes'.value {ι : Nat → Loc} {v : AV} {s : Sem Next} {w w' : World} (h : s.run P w = .ok (.value (conc ι v)) w') : Comes' P ι (.value v) s w w' := ⟨_, rfl, h⟩

omit F in
theorem extOf_ok {x : AV} {k : ExtKind} (h : extOf D x = some k) : ∃ g, x = .func (.func g) [] [] ∧ D.ext g = some k := by
  unfold extOf at h
  split at h
  · exact ⟨_, rfl, h⟩
  · cases h

omit F in
theorem cellsOf_ok' {b : Nat} {cs : List AV} (h : cellsOf σ b = .ok cs) : b < σ.n ∧ ∃ elem own sz, σ.getO b = .cells cs elem own sz := cellsOf_ok h

theorem run_extV (R : Rep D ι σ w) {g : Nat} {k : ExtKind} (hg : D.ext g = some k) {args : List AV} {v : AV} {σ' : St} (h : extV σ k args = .ok (v, σ')) (hid : idsL ι (· < σ.n) args) :
    ∃ w', (callFunc g (concL ι args).toArray).run P w = .ok (.value (conc ι v)) w' ∧ Rep D ι σ' w' ∧ Ext ι σ w ι σ' w' ∧ ids ι (· < σ'.n) v := by
  obtain ⟨fn, hfn, hn, hb, hnx, hfind⟩ := F.ext g k hg
  have hnx' : Extern.findNext fn = none := by simpa using hnx
  have key : ∀ w', (k.sem (concL ι args).toArray).run P w = .ok (conc ι v) w' → (callFunc g (concL ι args).toArray).run P w = .ok (.value (conc ι v)) w' := by
    intro w' hs
    simp only [callFunc, Sem.run_bind, run_program, Result.andThen_ok, hfn]
    rw [if_neg (by simpa using hn), if_pos hb]
    simp only [hnx', hfind]
    simp [mark, Sem.run, Sem.run_bind, hs]
  unfold extV at h
  split at h
  · rename_i b o
    simp only [bind_ok] at h
    obtain ⟨cs, hcs, h⟩ := h
    obtain ⟨hbn, elem, own, sz, ho⟩ := cellsOf_ok hcs
    split at h
    · rename_i n hn'
      simp at h
      obtain ⟨rfl, rfl⟩ := h
      have hcell := (R.cell hbn ho hn').1
      refine ⟨w, key w ?_, R, Ext.refl _ _ _, trivial⟩
      have hl : (load ((ι b).at o) .atomic).run P w = .ok (.int .i64 n) w := by
        simp only [load, Sem.run, hcell, conc]
      have he : ExtKind.atomicLoad64.sem (concL ι [AV.ptr b o]).toArray = (do Extern.Atomic.read (.int .i64) (← asAddr (.pointer (some ((ι b).at o))))) := rfl
      rw [he]
      simp only [asAddr, Sem.run_bind, Sem.run_pure, Result.andThen_ok, Extern.Atomic.read, hl]
      simp [conc]
    · simp at h
  · rename_i b o kk d
    simp only [bind_ok] at h
    obtain ⟨cs, hcs, h⟩ := h
    obtain ⟨hbn, elem, own, sz, ho⟩ := cellsOf_ok hcs
    split at h
    · rename_i n hn'
      simp only [bind_ok, pure_ok, Prod.mk.injEq] at h
      obtain ⟨σ1, hst, rfl, rfl⟩ := h
      have hcell := (R.cell hbn ho hn').1
      obtain ⟨w', h1, h2, h3⟩ := run_store_own (P := P) R hst (by simp [idsL, ids])
      refine ⟨w', key w' ?_, h2, h3, trivial⟩
      have hl : (load ((ι b).at o) .atomic).run P w = .ok (.int .i64 n) w := by
        simp only [load, Sem.run, hcell, conc]
      have hs : (store ((ι b).at o) (.int .i64 (IntKind.i64.wrap (n + d))) .atomic).run P w = .ok () w' := by
        simp only [Go.storeCells, concL, conc, Sem.run_bind] at h1
        have h0 : (Addr.add ((ι b).at o) 0) = (ι b).at o := by simp [Addr.add]
        rw [h0] at h1
        simp only [store, Sem.run, hcell] at h1 ⊢
        split at h1
        · simp [Result.andThen] at h1
        · rename_i hfz
          rw [if_neg hfz]
          simpa [Result.andThen, Sem.run] using h1
      have he : ExtKind.atomicAdd64.sem (concL ι [AV.ptr b o, .base (.int kk d)]).toArray = (do
          let a ← asAddr (.pointer (some ((ι b).at o)))
          let old ← Extern.Atomic.read (.int .i64) a
          let new ← Op.intArith .add .i64 (← asInt old) (← asInt (.int kk d))
          store a new .atomic
          pure (if true then new else old)) := rfl
      rw [he]
      simp only [asAddr, Sem.run_bind, Sem.run_pure, Result.andThen_ok, Extern.Atomic.read, hl]
      simp [asInt, asIntOf, Op.intArith, hs, conc, Sem.run_bind]
    · simp at h
  · simp at h

theorem actOp_run (R : Rep D ι σ w) {e : Operand → AV} {o : Oper} {nx : ANext} {σ' : St} (h : actOp D σ e o.op = .ok (nx, σ')) (hid : ∀ x, x ∈ o.op.operands → ids ι (· < σ.n) (e x)) :
    ∃ ι' w', Comes' P ι' nx (Go.execOp (fun x => conc ι (e x)) o) w w' ∧ Rep D ι' σ' w' ∧ Ext ι σ w ι' σ' w' ∧ idsNext ι' (· < σ'.n) nx := by
  unfold Go.execOp
  generalize o.op = op at h hid
  unfold actOp at h
  split at h
  · rename_i t a x
    simp only [bind_ok, pure_ok, Prod.mk.injEq] at h
    obtain ⟨σ1, h, rfl, rfl⟩ := h
    obtain ⟨w', h1, h2, h3⟩ := run_storeV F R h (hid x (by simp [Op.operands]))
    exact ⟨ι, w', ⟨_, rfl, by simp [h1]⟩, h2, h3, trivial⟩
  · rename_i t m k x
    simp only [bind_ok, pure_ok, Prod.mk.injEq] at h
    obtain ⟨σ1, h, rfl, rfl⟩ := h
    obtain ⟨w', h1, h2, h3⟩ := run_mapUpdate F R h (hid k (by simp [Op.operands])) (hid x (by simp [Op.operands]))
    exact ⟨ι, w', ⟨_, rfl, by simp [h1]⟩, h2, h3, trivial⟩
  · rename_i t m k x
    simp only [bind_ok, pure_ok, Prod.mk.injEq] at h
    obtain ⟨σ1, h, rfl, rfl⟩ := h
    obtain ⟨w', h1, h2, h3⟩ := run_mapUpdate F R h (hid k (by simp [Op.operands])) (hid x (by simp [Op.operands]))
    exact ⟨ι, w', ⟨_, rfl, by simp [h1]⟩, h2, h3, trivial⟩
  · rename_i t x
    simp only [bind_ok, pure_ok, Prod.mk.injEq] at h
    obtain ⟨⟨v, σ1⟩, h, rfl, rfl⟩ := h
    obtain ⟨ι', w', h1, h2, h3, h4⟩ := run_rangeV F R h
    exact ⟨ι', w', ⟨_, rfl, by simp [h1]⟩, h2, h3, h4⟩
  · rename_i it isS
    simp only [bind_ok, pure_ok, Prod.mk.injEq] at h
    obtain ⟨⟨v, σ1⟩, h, rfl, rfl⟩ := h
    obtain ⟨w', h1, h2, h3, h4⟩ := run_nextV (P := P) (ty := o.type) R h
    exact ⟨ι, w', ⟨_, rfl, by simp [h1]⟩, h2, h3, h4⟩
  · rename_i it
    simp only [bind_ok, pure_ok, Prod.mk.injEq] at h
    obtain ⟨v, h, rfl, rfl⟩ := h
    obtain ⟨h1, h2⟩ := run_entryV (P := P) R h
    exact ⟨ι, w, ⟨_, rfl, by simp [h1]⟩, R, Ext.refl _ _ _, h2⟩
  · rename_i s d x
    simp only [bind_ok, pure_ok, Prod.mk.injEq] at h
    obtain ⟨⟨v, σ1⟩, h, rfl, rfl⟩ := h
    obtain ⟨ι', w', h1, h2, h3, h4⟩ := run_toBytesV F R h
    exact ⟨ι', w', ⟨_, rfl, by simp [h1]⟩, h2, h3, h4⟩
  · rename_i c
    obtain ⟨callee, args, argTypes⟩ := c
    simp only at h
    split at h
    · rename_i b
      split at h
      · rename_i t u s x hts hxs
        have ht : argTypes = #[t, u] := by apply Array.ext'; simpa using hts
        have hargs : args = #[s, x] := by apply Array.ext'; simpa using hxs
        subst hargs
        simp only [bind_ok, pure_ok, Prod.mk.injEq] at h
        obtain ⟨⟨v, σ1⟩, h, rfl, rfl⟩ := h
        obtain ⟨ι', w', h1, h2, h3, h4⟩ := run_appendV F R (ty := o.type) h ht (hid s (by simp [Op.operands, Call.operands]))
        exact ⟨ι', w', ⟨_, rfl, by simp [resolve, invoke, Go.builtin, h1]⟩, h2, h3, h4⟩
      · rename_i t ts d s hts hxs
        have ht : argTypes[0]? = some t := by rw [← Array.getElem?_toList, hts]; rfl
        have hargs : args = #[d, s] := by apply Array.ext'; simpa using hxs
        subst hargs
        simp only [bind_ok, pure_ok, Prod.mk.injEq] at h
        obtain ⟨⟨v, σ1⟩, h, rfl, rfl⟩ := h
        obtain ⟨w', h1, h2, h3, h4⟩ := run_copyV F R (ty := o.type) h ht
        exact ⟨ι, w', ⟨_, rfl, by simp [resolve, invoke, Go.builtin, h1]⟩, h2, h3, h4⟩
      · rename_i t ts x hts hxs
        have ht : argTypes[0]? = some t := by rw [← Array.getElem?_toList, hts]; rfl
        have hargs : args = #[x] := by apply Array.ext'; simpa using hxs
        subst hargs
        simp only [bind_ok, pure_ok, Prod.mk.injEq] at h
        obtain ⟨⟨v, σ1⟩, h, rfl, rfl⟩ := h
        obtain ⟨w', h1, h2, h3, h4⟩ := run_clearV F R (ty := o.type) h ht
        exact ⟨ι, w', ⟨_, rfl, by simp [resolve, invoke, Go.builtin, h1]⟩, h2, h3, h4⟩
      · simp at h
        obtain ⟨rfl, rfl⟩ := h
        exact ⟨ι, w, ⟨_, rfl, by simp [resolve, invoke, Go.builtin]⟩, R, Ext.refl _ _ _, trivial⟩
      · simp at h
    · rename_i recv name
      simp only [bind_ok, pure_ok, Prod.mk.injEq] at h
      obtain ⟨nx', h, rfl, rfl⟩ := h
      obtain ⟨f, as, rfl, h1, h2⟩ := callM_ok F (ι := ι) (A := (· < σ.n)) w h (hid recv (by simp [Op.operands, Call.operands])) (idsL_iff.2 fun v hv => by
        simp only [List.mem_map] at hv
        obtain ⟨x, hx, rfl⟩ := hv
        exact hid x (by simp [Op.operands, Call.operands, Array.mem_toList_iff.1 hx]))
      refine ⟨ι, w, ⟨_, rfl, ?_⟩, R, Ext.refl _ _ _, h1⟩
      simp only [resolve, Sem.run_bind, Sem.run_pure, Result.andThen_ok, invoke, arr_map]
      have ea : #[conc ι (e recv)] ++ (concL ι (args.toList.map e)).toArray = (conc ι (e recv) :: concL ι (args.toList.map e)).toArray := by simp
      rw [ea]
      simp only [extract1, List.getElem?_toArray, List.getElem?_cons_zero]
      exact h2
    · rename_i f
      have hargs : idsL ι (· < σ.n) (args.toList.map e) := idsL_iff.2 fun v hv => by
        simp only [List.mem_map] at hv
        obtain ⟨x, hx, rfl⟩ := hv
        exact hid x (by simp [Op.operands, Call.operands, Array.mem_toList_iff.1 hx])
      split at h
      · rename_i k hk
        simp only [bind_ok, pure_ok, Prod.mk.injEq] at h
        obtain ⟨⟨v, σ1⟩, h, rfl, rfl⟩ := h
        obtain ⟨g, hg, hgk⟩ := extOf_ok hk
        obtain ⟨w', h1, h2, h3, h4⟩ := run_extV F R hgk h hargs
        refine ⟨ι, w', Comes'.value ?_, h2, h3, h4⟩
        simp only [resolve, arr_map, hg, conc, concL, Deferred.ofValue, Sem.run_bind, Sem.run_pure, Result.andThen_ok, invoke]
        have ea : #[] ++ (concL ι (args.toList.map e)).toArray ++ #[] = (concL ι (args.toList.map e)).toArray := by simp
        simpa using h1
      simp only [bind_ok, pure_ok, Prod.mk.injEq] at h
      obtain ⟨nx', h, rfl, rfl⟩ := h
      obtain ⟨h1, h2, _⟩ := callV_ok F (ι := ι) (A := (· < σ.n)) (type := o.type) w h (hid f (by simp [Op.operands, Call.operands])) (idsL_iff.2 fun v hv => by
        simp only [List.mem_map] at hv
        obtain ⟨x, hx, rfl⟩ := hv
        exact hid x (by simp [Op.operands, Call.operands, Array.mem_toList_iff.1 hx]))
      refine ⟨ι, w, ?_, R, Ext.refl _ _ _, h1⟩
      simp only [resolve, arr_map]
      exact h2
  · rename_i c
    obtain ⟨callee, args, argTypes⟩ := c
    simp only at h
    split at h
    · rename_i f
      have hf := hid f (by simp [Op.operands, Call.operands])
      split at h
      · rename_i fn first captured heq
        rw [heq] at hf
        simp at h
        obtain ⟨rfl, rfl⟩ := h
        refine ⟨ι, w, ⟨_, rfl, ?_⟩, R, Ext.refl _ _ _, ⟨hf.2, idsL_append.2 ⟨hf.1, idsL_iff.2 fun v hv => ?_⟩⟩⟩
        · simp only [resolve, arr_map, heq, conc, Deferred.ofValue, Sem.run_bind, Sem.run_pure, Result.andThen_ok, concDef]
          simp
        · simp only [List.mem_map] at hv
          obtain ⟨x, hx, rfl⟩ := hv
          exact hid x (by simp [Op.operands, Call.operands, Array.mem_toList_iff.1 hx])
      · simp at h
    · simp at h
  · rename_i x
    have hx := hid x (by simp [Op.operands])
    split at h
    · rename_i t y heq
      rw [heq] at hx
      simp at h
      obtain ⟨rfl, rfl⟩ := h
      refine ⟨ι, w, ?_, R, Ext.refl _ _ _, hx⟩
      simp [Comes', heq, conc, Instr.panic]
    · simp at h
  · simp at h
end
end Go.Dt
