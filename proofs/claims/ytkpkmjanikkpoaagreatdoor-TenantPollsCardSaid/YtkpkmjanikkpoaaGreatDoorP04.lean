/-
  Operations that act: together. No statement of this seat stands here.
-/
import Derived.Test.YtkpkmjanikkpoaaGreatDoorP03
namespace Go.Dt
section
variable {D : Tab} {P : Program} (F : Fits D P) {ι : Nat → Loc} {σ : St} {w : World}

include F
theorem run_copyV (R : Rep D ι σ w) {dT : Nat} {d x v : AV} {σ' : St} {ts : Array TypeId} {ty : TypeId} (h : copyV D σ dT d x = .ok (v, σ')) (hts : ts[0]? = some dT) :
    ∃ w', (Builtin.copy_ ts ty #[conc ι d, conc ι x]).run P w = .ok (conc ι v) w' ∧ Rep D ι σ' w' ∧ Ext ι σ w ι σ' w' ∧ ids ι (· < σ'.n) v := by
  simp only [copyV, bind_ok] at h
  obtain ⟨elem, hel, sz, hsz, h⟩ := h
  have hd := sliceElem_ok hel
  split at h
  · rename_i b o dlen cap sz'
    simp only [bind_ok, pure_ok, Prod.mk.injEq] at h
    obtain ⟨⟨new, n⟩, hsrc, σ1, hst, rfl, rfl⟩ := h
    obtain ⟨hlen, hnew, hnl, hfirst⟩ := run_srcCells (P := P) R hsrc
    obtain ⟨w', h1, h2, h3⟩ := run_store_own (P := P) R hst (idsL_take hnew _)
    obtain ⟨c, hc⟩ := conc_slice ι b o dlen cap sz'
    refine ⟨w', ?_, h2, h3, by simp [goI, ids]⟩
    have hf := hfirst (min n dlen) (Nat.min_le_left _ _)
    simp only [Builtin.copy_, hts, List.getElem?_toArray, List.getElem?_cons_zero, List.getElem?_cons_succ, Sem.run_bind, run_und F w hd, Result.andThen_ok, hc, hlen, run_size F w hsz]
    have hmin : Nat.min n dlen = min n dlen := rfl
    rw [hmin, hf]
    simp only [Result.andThen_ok, h1, Sem.run_pure]
    simp [goI, conc, goInt]
  · simp at h

theorem run_clearV (R : Rep D ι σ w) {t : Nat} {x v : AV} {σ' : St} {ts : Array TypeId} {ty : TypeId} (h : clearV D σ t x = .ok (v, σ')) (hts : ts[0]? = some t) :
    ∃ w', (Builtin.clear_ ts ty #[conc ι x]).run P w = .ok (conc ι v) w' ∧ Rep D ι σ' w' ∧ Ext ι σ w ι σ' w' ∧ ids ι (· < σ'.n) v := by
  simp only [clearV, bind_ok] at h
  obtain ⟨elem, hel, h⟩ := h
  have hd := sliceElem_ok hel
  split at h
  · simp at h
    obtain ⟨rfl, rfl⟩ := h
    refine ⟨w, ?_, R, Ext.refl _ _ _, ids_undef _ _⟩
    simp [Builtin.clear_, hts, run_und F w hd, conc, AV.undef, concL]
  · rename_i b o n cap sz'
    simp only [bind_ok, pure_ok, Prod.mk.injEq] at h
    obtain ⟨z, hz, σ1, hst, rfl, rfl⟩ := h
    obtain ⟨c, hc⟩ := conc_slice ι b o n cap sz'
    have hzc : Builtin.zeroCells (conc ι z).cells n = (concL ι (repeatL z.cells n)).toArray := by
      have := range_map_repeat ι z.cells n
      rw [← this]
      simp [Builtin.zeroCells, conc_cells]
    obtain ⟨w', h1, h2, h3⟩ := run_store_own (P := P) R hst (idsL_repeat (ids_cells (zero_ids hz _)) n)
    refine ⟨w', ?_, h2, h3, ids_undef _ _⟩
    simp only [Builtin.clear_, hts, List.getElem?_toArray, List.getElem?_cons_zero, Sem.run_bind, run_und F w hd, Result.andThen_ok, hc]
    cases n with
    | zero =>
      simp only [repeatL, concL, Go.storeCells] at h1
      simp at h1
      subst h1
      simp [AV.undef, conc, concL]
    | succ n =>
      simp only [Sem.run_bind, run_zero F (ι := ι) w hz, Result.andThen_ok, hzc, h1, Sem.run_pure]
      simp [AV.undef, conc, concL]
  · simp at h

/- calls -/

def concNext (ι : Nat → Loc) : ANext → Option Next
  | .value v => some (.value (conc ι v))
  | .skip => some .skip
  | .enter f args => some (.enter f (concL ι args).toArray)
  | .defer d => some (.defer (concDef ι d))
  | .recover => some .recover
  | .round _ _ | .panic _ => none

def idsNext (ι : Nat → Loc) (A : Nat → Prop) : ANext → Prop
  | .value v => ids ι A v
  | .skip => True
  | .enter _ args => idsL ι A args
  | .round l args => A l ∧ idsL ι A args
  | .defer d => idsDef ι A d
  | .recover => True
  | .panic v => ids ι A v

/-- what the model's operation comes to -/
def Comes' (P : Program) (ι : Nat → Loc) (nx : ANext) (s : Sem Next) (w w' : World) : Prop :=
  match nx with
  | .round l args => s.run P w = (Instr.yield (ι l).block (concL ι args).toArray).run P w ∧ w' = w
  | .panic v => s.run P w = .halt (.panic (conc ι v)) w'
  | nx => ∃ x, concNext ι nx = some x ∧ s.run P w = .ok x w'

omit F in
theorem callFn_ok (F : Fits D P) (w : World) {f : FuncId} {args : List AV} {nx : ANext} (h : callFn D f args = .ok nx) :
    nx = .enter f args ∧ (callFunc f (concL ι args).toArray).run P w = .ok (.enter f (concL ι args).toArray) w := by
  unfold callFn at h
  split at h
  · rename_i fn hfn
    split at h
    · simp at h
    · rename_i hname
      split at h
      · rename_i hbody
        simp at h
        subst h
        refine ⟨rfl, ?_⟩
        have hb : fn.body.isNone = false := by cases hx : fn.body <;> simp_all
        simp only [callFunc, Sem.run_bind, run_program, Result.andThen_ok, F.func _ _ hfn]
        rw [if_neg (by simpa using hname), if_neg (by simp [hb])]
        simp
      · simp at h
  · simp at h

theorem methodOf_ok (w : World) {t : Nat} {v r : AV} {name : String} {f : FuncId} (h : methodOf D t v name = .ok (f, r)) (fuel : Nat) :
    r = v ∧ (Go.method (fuel + 1) t (conc ι v) name).run P w = .ok (f, conc ι v) w := by
  simp only [methodOf, bind_ok] at h
  obtain ⟨i, hi, h⟩ := h
  split at h
  · simp at h
  · rename_i m hm
    split at h
    · simp at h
    · rename_i hp
      split at h
      · simp at h
      · rename_i f' pr hf
        simp only [bind_ok] at h
        obtain ⟨d, hd, h⟩ := h
        have hpath : m.path.toList = [] := by
          have : m.path.isEmpty = true := by simpa using hp
          simpa [Array.isEmpty_iff] using this
        have hmm : i.methods.find? (fun m => m.name == name) = some m := by rw [← Array.find?_toList]; exact hm
        have key : ∀ b, (und D t = .ok d) → pr = b → (∀ (e : TypeId), d = .pointer e → b = true) → ((∀ e : TypeId, d ≠ .pointer e) → b = false) →
            (Go.method (fuel + 1) t (conc ι v) name).run P w = .ok (f', conc ι v) w := by
          intro b _ hb h1 h2
          subst hb
          simp only [Go.method, Sem.run_bind, run_inf F w hi, Result.andThen_ok, hmm, hpath, follow, Sem.run_pure, hf, receiverAt, run_und F w hd]
          cases d with
          | pointer e =>
            have := h1 e rfl
            subst this
            simp [Place.get]
          | _ =>
            have := h2 (by simp)
            subst this
            simp [Place.get]
        split at h
        · simp at h
          obtain ⟨rfl, rfl⟩ := h
          exact ⟨rfl, key true hd rfl (fun _ _ => rfl) (fun hh => (hh _ rfl).elim)⟩
        · simp at h
        · rename_i hno _
          simp at h
          obtain ⟨rfl, rfl⟩ := h
          exact ⟨rfl, key false hd rfl (fun e he => by subst he; simp_all) (fun _ => rfl)⟩
        · simp at h

theorem methodOf_recv {t : Nat} {v r : AV} {name : String} {f : FuncId} (h : methodOf D t v name = .ok (f, r)) : r = v := (methodOf_ok F default (ι := fun _ => default) h 0).1

theorem callM_ok (w : World) {recv : AV} {name : String} {args : List AV} {nx : ANext} {A : Nat → Prop} (h : callM D recv name args = .ok nx) (hr : ids ι A recv) (ha : idsL ι A args) :
    ∃ f as, nx = .enter f as ∧ idsL ι A as ∧ (callMethod (conc ι recv) name (concL ι args).toArray).run P w = .ok (.enter f (concL ι as).toArray) w := by
  unfold callM at h
  split at h
  · rename_i t v
    simp only [bind_ok] at h
    obtain ⟨⟨f, r⟩, hm, h⟩ := h
    have hfuel : P.types.size + Made.depth = (P.types.size + Made.depth - 1) + 1 := by
      have : 0 < Made.depth := by decide
      omega
    obtain ⟨rfl, hrun⟩ := methodOf_ok F (ι := ι) w hm (P.types.size + Made.depth - 1)
    obtain ⟨rfl, hcall⟩ := callFn_ok F (ι := ι) w h
    refine ⟨f, r :: args, rfl, ⟨by simpa [ids] using hr, ha⟩, ?_⟩
    simp only [callMethod, conc, Sem.run_bind, run_program, Result.andThen_ok]
    rw [hfuel, hrun]
    simp only [Result.andThen_ok]
    have : #[conc ι r] ++ (concL ι args).toArray = (concL ι (r :: args)).toArray := by simp [concL]
    rw [this]
    exact hcall
  · simp at h

omit F in
theorem extract1 (v : Value) (l : List Value) : (v :: l).toArray.extract 1 (v :: l).toArray.size = l.toArray := by simp

theorem invokeT_ok (w : World) {fn : Fn} {captured args : List AV} {nx : ANext} {A : Nat → Prop} (h : invokeT D fn captured args = .ok nx) (hc : idsL ι A captured) (ha : idsL ι A args) :
    ∃ f as, nx = .enter f as ∧ idsL ι A as ∧ (invoke (.fn fn (concL ι captured).toArray) (concL ι args).toArray).run P w = .ok (.enter f (concL ι as).toArray) w := by
  unfold invokeT at h
  split at h
  · rename_i f
    obtain ⟨rfl, hcall⟩ := callFn_ok F (ι := ι) w h
    refine ⟨f, args ++ captured, rfl, idsL_append.2 ⟨ha, hc⟩, ?_⟩
    simp only [invoke]
    have : (concL ι args).toArray ++ (concL ι captured).toArray = (concL ι (args ++ captured)).toArray := by simp
    rw [this]
    exact hcall
  · rename_i name
    split at h
    · rename_i recv args
      obtain ⟨f, as, rfl, h1, h2⟩ := callM_ok F w h ha.1 ha.2
      refine ⟨f, as, rfl, h1, ?_⟩
      simp only [invoke, concL, extract1]
      simpa using h2
    · simp at h
  · rename_i t name
    split at h
    · rename_i recv args
      simp only [bind_ok] at h
      obtain ⟨d, hd, h⟩ := h
      obtain ⟨f, as, rfl, h1, h2⟩ := callM_ok F (ι := ι) (A := A) w h (by split <;> simpa [ids] using ha.1) ha.2
      refine ⟨f, as, rfl, h1, ?_⟩
      simp only [invoke, concL, extract1]
      simp only [List.getElem?_toArray, List.getElem?_cons_zero, Sem.run_bind, run_und F w hd, Result.andThen_ok]
      have hrecv : conc ι (if isIfaceD d then recv else .iface t recv) = (match d with | .interface _ => conc ι recv | _ => .iface t (conc ι recv)) := by
        cases d <;> simp [isIfaceD, conc]
      rw [hrecv] at h2
      cases d <;> simpa using h2
    · simp at h
  · rename_i t path f ptr
    split at h
    · rename_i x args
      split at h
      · simp at h
      · rename_i hp
        have hpath : path.toList = [] := by
          have : path.isEmpty = true := by simpa using hp
          simpa [Array.isEmpty_iff] using this
        simp only [bind_ok] at h
        obtain ⟨d, hd, h⟩ := h
        have fin : ∀ (hh : callFn D f (x :: args) = .ok nx), (receiverVia t (conc ι x) path ptr).run P w = .ok (conc ι x) w →
            ∃ g as, nx = .enter g as ∧ idsL ι A as ∧ (invoke (.fn (.via t path f ptr) (concL ι captured).toArray) (concL ι (x :: args)).toArray).run P w = .ok (.enter g (concL ι as).toArray) w := by
          intro hh hrv
          obtain ⟨rfl, hcall⟩ := callFn_ok F (ι := ι) w hh
          refine ⟨f, x :: args, rfl, ha, ?_⟩
          simp only [invoke, concL, extract1, List.getElem?_toArray, List.getElem?_cons_zero, Sem.run_bind, hrv, Result.andThen_ok]
          simp only [concL] at hcall
          simpa using hcall
        split at h
        · obtain ⟨g, as, h1, h2, h3⟩ := fin h (by simp [receiverVia, hpath, follow, receiverAt, run_und F w hd, Place.get])
          exact ⟨g, as, h1, h2, h3⟩
        · simp at h
        · rename_i hno _
          obtain ⟨g, as, h1, h2, h3⟩ := fin h (by
            simp only [receiverVia, hpath, follow, receiverAt, Sem.run_bind, Sem.run_pure, Result.andThen_ok, run_und F w hd]
            cases d with
            | pointer e => simp_all
            | _ => simp [Place.get])
          exact ⟨g, as, h1, h2, h3⟩
        · simp at h
    · simp at h
  · simp at h

theorem callV_ok (w : World) {f : AV} {args : List AV} {nx : ANext} {A : Nat → Prop} {_type : TypeId} (h : callV D f args = .ok nx) (hf : ids ι A f) (ha : idsL ι A args) :
    idsNext ι A nx ∧ Comes' P ι nx (do let d ← Deferred.ofValue (conc ι f) (concL ι args).toArray; invoke d.target d.args) w w ∧ ((∃ g as, nx = .enter g as) ∨ ∃ l as, nx = .round l as) := by
  unfold callV at h
  split at h
  · rename_i l
    simp at h; subst h
    refine ⟨⟨by simpa [ids] using hf, ha⟩, ⟨?_, rfl⟩, .inr ⟨_, _, rfl⟩⟩
    simp [conc, Deferred.ofValue, invoke]
  · rename_i fn first captured
    obtain ⟨g, as, rfl, h1, h2⟩ := invokeT_ok F (ι := ι) (A := A) w h hf.2 (idsL_append.2 ⟨hf.1, ha⟩)
    refine ⟨h1, ⟨_, rfl, ?_⟩, .inl ⟨_, _, rfl⟩⟩
    simp only [conc, Deferred.ofValue, Sem.run_bind, Sem.run_pure, Result.andThen_ok]
    have : (concL ι first).toArray ++ (concL ι args).toArray = (concL ι (first ++ args)).toArray := by simp
    rw [this]
    exact h2
  · simp at h

omit F in
theorem Comes'.value {ι : Nat → Loc} {v : AV} {s : Sem Next} {w w' : World} (h : s.run P w = .ok (.value (conc ι v)) w') : Comes' P ι (.value v) s w w' := ⟨_, rfl, h⟩

omit F in
theorem extOf_ok {x : AV} {k : ExtKind} (h : extOf D x = some k) : ∃ g, x = .func (.func g) [] [] ∧ D.ext g = some k := by
  unfold extOf at h
  split at h
  · exact ⟨_, rfl, h⟩
  · cases h

omit F in
theorem cellsOf_ok' {b : Nat} {cs : List AV} (h : cellsOf σ b = .ok cs) : b < σ.n ∧ ∃ elem own sz, σ.getO b = .cells cs elem own sz := cellsOf_ok h

omit F in
theorem baseVals_ok (ι : Nat → Loc) : ∀ {l : List AV} {vs : List Value}, baseVals l = some vs → concL ι l = vs
  | [], vs, h => by simp [baseVals] at h; subst h; rfl
  | x :: l, vs, h => by
    unfold baseVals at h
    split at h
    · rename_i heq; cases heq
    · rename_i v l' heq
      cases heq
      split at h
      · rename_i r hr
        simp at h; subst h
        simp [concL, conc, baseVals_ok ι hr]
      · cases h
    · cases h

omit F in
theorem digits_size : ∀ (n t : Nat) (acc : Array Value), (Extern.BytealgMakeNoZero.digits n t acc).size = acc.size + n
  | 0, _, acc => rfl
  | n + 1, t, acc => by
    unfold Extern.BytealgMakeNoZero.digits
    rw [digits_size n]; simp; omega

omit F in
theorem run_noZero {ps rs : Array TypeId} {t elem : Nat} {n : Int} (hu : P.underlying t = some (.slice elem)) (ht : rs[0]? = some t) (h0 : 0 ≤ n) (h1 : n < 2 ^ 30) :
    ∃ c b, n.toNat ≤ c ∧ (Extern.BytealgMakeNoZero.makeNoZero ps rs #[.int .i64 n]).run P w =
      .ok (.slice (some ⟨w.heap.size, 0, none⟩) n.toNat c) (w.drew.drew.alloc (.cells (Extern.BytealgMakeNoZero.digits c b #[]) elem)) := by
  obtain ⟨c, hc0⟩ : ∃ c, (Question.appendCap n.toNat 0 elem).cut (w.tape w.drawn (.appendCap n.toNat 0 elem)) = c := ⟨_, rfl⟩
  have hc : n.toNat ≤ c := by rw [← hc0]; simp [Question.cut]
  refine ⟨c, (Question.extern "internal/bytealg.MakeNoZero.bytes" 0).cut (w.drew.tape w.drew.drawn (Question.extern "internal/bytealg.MakeNoZero.bytes" 0)), hc, ?_⟩
  have hq : (Question.appendCap n.toNat 0 elem).forced = false := rfl
  have hq2 : (Question.extern "internal/bytealg.MakeNoZero.bytes" 0).forced = false := rfl
  have hcond : ¬ ((n < 0 || n > 2 ^ 48) = true) := by simp; omega
  have e : Extern.BytealgMakeNoZero.makeNoZero ps rs #[.int .i64 n] = (do
    let some t := rs[0]? | stuck "bytealg.MakeNoZero: no result type"
    let .slice elem ← underlying t | stuck "bytealg.MakeNoZero: slice type expected"
    if n < 0 || n > 2 ^ 48 then runtimePanic (.error "makeslice: len out of range")
    let cap ← choose (.appendCap n.toNat 0 elem)
    askRoom cap
    let bytes ← choose (.extern "internal/bytealg.MakeNoZero.bytes" 0)
    let a ← newRow elem (Extern.BytealgMakeNoZero.digits cap bytes #[])
    pure (.slice (some a) n.toNat cap)) := rfl
  rw [e]
  simp only [ht, Sem.run_bind, run_underlying hu, Result.andThen_ok]
  rw [if_neg hcond]
  simp only [Sem.run_bind, run_choose, hq, hq2, Bool.false_eq_true, if_false, hc0, World.drew_eq, Result.andThen_ok, run_askRoom, run_newRow, Sem.run_pure]
  rfl

omit F in
theorem run_loadBytesI : ∀ (ns : List Int) (a : Addr) (acc : ByteArray), (∀ j n, ns[j]? = some n → w.cell? (a.add j) = some (.int .u8 n)) →
    (Go.loadBytes a acc ns.length).run P w = .ok (ns.foldl (fun r n => r.push (UInt8.ofNat n.toNat)) acc) w
  | [], a, acc, _ => by simp [Go.loadBytes]
  | n :: ns, a, acc, h => by
    have h0 := h 0 n rfl
    have ha : a.add 0 = a := by simp [Addr.add]
    rw [ha] at h0
    simp only [List.length_cons, Go.loadBytes, Sem.run_bind, run_load, h0, Result.andThen_ok, List.foldl_cons]
    refine run_loadBytesI ns (a.add 1) _ fun j m hj => ?_
    have := h (j + 1) m (by simpa using hj)
    rw [← this]
    by_cases hj0 : j = 0
    · subst hj0; simp [Addr.add]
    · simp [Addr.add, hj0, Nat.add_assoc, Nat.add_comm 1 j]

theorem run_extV (R : Rep D ι σ w) {g : Nat} {k : ExtKind} (hg : D.ext g = some k) {args : List AV} {v : AV} {σ' : St} (h : extV D σ k args = .ok (v, σ')) (hid : idsL ι (· < σ.n) args) :
    ∃ ι' w', (callFunc g (concL ι args).toArray).run P w = .ok (.value (conc ι' v)) w' ∧ Rep D ι' σ' w' ∧ Ext ι σ w ι' σ' w' ∧ ids ι' (· < σ'.n) v := by
  obtain ⟨fn, hfn, hn, hb, hnx, hfind⟩ := F.ext g k hg
  have hnx' : Extern.findNext fn = none := by simpa using hnx
  have key : ∀ (x : Value) w', (k.sem (concL ι args).toArray).run P w = .ok x w' → (callFunc g (concL ι args).toArray).run P w = .ok (.value x) w' := by
    intro x w' hs
    simp only [callFunc, Sem.run_bind, run_program, Result.andThen_ok, hfn]
    rw [if_neg (by simpa using hn), if_pos hb]
    simp only [hnx', hfind]
    simp [mark, Sem.run, Sem.run_bind, hs]
  unfold extV at h
  split at h
  · rename_i x
    simp at h
    obtain ⟨rfl, rfl⟩ := h
    exact ⟨ι, w, key _ w rfl, R, Ext.refl _ _ _, hid.1⟩
  · rename_i ps rs n
    split at h
    · rename_i t ht
      simp only [bind_ok] at h
      obtain ⟨elem, hel, h⟩ := h
      split at h
      · rename_i hn
        simp at h
        obtain ⟨rfl, rfl⟩ := h
        have hund := sliceElem_ok hel
        have hr := run_noZero (P := P) (w := w) (ps := ps) (rs := rs) (und_ok F hund) ht hn.1 hn.2
        obtain ⟨c, by', hc, hr⟩ := hr
        have hp := R.drew.drew.push (o := .cells [] elem true 1) (ob := .cells (Extern.BytealgMakeNoZero.digits c by' #[]) elem) (L := ⟨w.heap.size, 0, c, 1⟩) rfl
          ⟨trivial, rfl, _, (0, 0), heap_alloc_new w.drew.drew _, fun i v hv => by simp at hv, fun _ => ⟨rfl, (by rw [digits_size]; simp), Nat.one_dvd _⟩⟩
        have hcv : conc (upd ι σ.n ⟨w.heap.size, 0, c, 1⟩) (.slice σ.n 0 n.toNat none 1) = .slice (some ⟨w.heap.size, 0, none⟩) n.toNat c := by
          simp [conc, upd_new, Loc.at]
        refine ⟨upd ι σ.n ⟨w.heap.size, 0, c, 1⟩, _, key _ _ (hr.trans (by rw [hcv])), hp.1, ((Ext.drew ι σ w).trans (Ext.drew ι σ w.drew)).trans hp.2, ?_⟩
        exact ⟨by simp [St.push], by rw [upd_new], by omega, by rw [upd_new]; simp; omega⟩
      · simp at h
    · simp at h
  · rename_i f
    split at h
    · rename_i vs hvs
      split at h
      · rename_i x hx
        simp at h
        obtain ⟨rfl, rfl⟩ := h
        refine ⟨ι, w, key _ w ?_, R, Ext.refl _ _ _, ids_ofConst _ _ _⟩
        rw [conc_ofConst, baseVals_ok ι hvs]
        show (f vs.toArray).run P w = _
        rw [hx]; rfl
      · simp at h
    · simp at h
  · rename_i b o
    simp only [bind_ok] at h
    obtain ⟨cs, hcs, h⟩ := h
    obtain ⟨hbn, elem, own, sz, ho⟩ := cellsOf_ok hcs
    split at h
    · rename_i n hn'
      simp at h
      obtain ⟨rfl, rfl⟩ := h
      have hcell := (R.cell hbn ho hn').1
      refine ⟨ι, w, key _ w ?_, R, Ext.refl _ _ _, trivial⟩
      have hl : (load ((ι b).at o) .atomic).run P w = .ok (.int .i64 n) w := by
        simp only [load, Sem.run, hcell, conc]
      have he : ExtKind.atomicLoad64.sem (concL ι [AV.ptr b o]).toArray = (do Extern.Atomic.read (.int .i64) (← asAddr (.pointer (some ((ι b).at o))))) := rfl
      rw [he]
      simp only [asAddr, Sem.run_bind, Sem.run_pure, Result.andThen_ok, Extern.Atomic.read, hl]
      simp [conc]
    · simp at h
  · rename_i b o kk d
    simp only [bind_ok] at h
    obtain ⟨cs, hcs, h⟩ := h
    obtain ⟨hbn, elem, own, sz, ho⟩ := cellsOf_ok hcs
    split at h
    · rename_i n hn'
      simp only [bind_ok, pure_ok, Prod.mk.injEq] at h
      obtain ⟨σ1, hst, rfl, rfl⟩ := h
      have hcell := (R.cell hbn ho hn').1
      obtain ⟨w', h1, h2, h3⟩ := run_store_own (P := P) R hst (by simp [idsL, ids])
      refine ⟨ι, w', key _ w' ?_, h2, h3, trivial⟩
      have hl : (load ((ι b).at o) .atomic).run P w = .ok (.int .i64 n) w := by
        simp only [load, Sem.run, hcell, conc]
      have hs : (store ((ι b).at o) (.int .i64 (IntKind.i64.wrap (n + d))) .atomic).run P w = .ok () w' := by
        simp only [Go.storeCells, concL, conc, Sem.run_bind] at h1
        have h0 : (Addr.add ((ι b).at o) 0) = (ι b).at o := by simp [Addr.add]
        rw [h0] at h1
        simp only [store, Sem.run, hcell] at h1 ⊢
        split at h1
        · simp [Result.andThen] at h1
        · rename_i hfz
          rw [if_neg hfz]
          simpa [Result.andThen, Sem.run] using h1
      have he : ExtKind.atomicAdd64.sem (concL ι [AV.ptr b o, .base (.int kk d)]).toArray = (do
          let a ← asAddr (.pointer (some ((ι b).at o)))
          let old ← Extern.Atomic.read (.int .i64) a
          let new ← Op.intArith .add .i64 (← asInt old) (← asInt (.int kk d))
          store a new .atomic
          pure (if true then new else old)) := rfl
      rw [he]
      simp only [asAddr, Sem.run_bind, Sem.run_pure, Result.andThen_ok, Extern.Atomic.read, hl]
      simp [asInt, asIntOf, Op.intArith, hs, conc]
    · simp at h
  · simp at h

omit F in
theorem sliceData_nil (ts : Array TypeId) (ty : TypeId) (l c : Nat) : Builtin.unsafeSliceData_ ts ty #[.slice none l c] = pure (.pointer none) := rfl
omit F in
theorem sliceData_some (ts : Array TypeId) (ty : TypeId) (a : Addr) (l c : Nat) : Builtin.unsafeSliceData_ ts ty #[.slice (some a) l c] = (do
    if c ≠ 0 then pure (.pointer (some a))
    else if (← viewAt a.block).isSome then pure (.pointer (some a))
    else pure (.pointer (some ⟨← newObj (.view a (← elemOf ty)), 0, none⟩))) := rfl
omit F in
theorem unsafeString_eq (ts : Array TypeId) (ty : TypeId) (p : Option Addr) (len_ : Value) : Builtin.unsafeString_ ts ty #[.pointer p, len_] = (do
    let n ← asInt len_
    let some pt := ts[0]? | stuck "unsafe.String: no argument types"
    if n < 0 then runtimePanic (.error "unsafe.String: len out of range")
    if n > IntKind.i64.max then unsupported (.unsafePointer "String: a length above the largest int")
    match p with
    | none =>
      if n = 0 then pure (.string .empty)
      else runtimePanic (.error "unsafe.String: ptr is nil and len is not zero")
    | some a =>
      if n = 0 then pure (.string .empty)
      else if ← variablesAt a (← elemOf pt) n.toNat then do
        let s ← Go.loadBytes a .empty n.toNat
        freeze a n.toNat
        pure (.string s)
      else unsupported (.unsafePointer "String: not so many bytes at ptr")) := rfl

omit F in
theorem run_sliceDataV {x v : AV} (h : sliceDataV x = .ok v) {A : Nat → Prop} (hid : ids ι A x) {ts : Array TypeId} {ty : TypeId} :
    (Builtin.unsafeSliceData_ ts ty #[conc ι x]).run P w = .ok (conc ι v) w ∧ ids ι A v := by
  unfold sliceDataV at h
  split at h
  · simp at h; subst h
    exact ⟨by simp [sliceData_nil, conc], trivial⟩
  · rename_i b o len c sz
    split at h
    · rename_i hc
      simp at h; subst h
      have : c ≠ 0 := by omega
      exact ⟨by simp [sliceData_some, conc, this], hid⟩
    · simp at h
  · rename_i b o len sz
    split at h
    · rename_i hc
      simp at h; subst h
      obtain ⟨h1, h2, h3, h4⟩ := hid
      have : (ι b).capz - o / (ι b).sz ≠ 0 := by rw [h2]; omega
      exact ⟨by simp [sliceData_some, conc, this], h1⟩
    · simp at h
  · simp at h

theorem run_unsafeStringV (R : Rep D ι σ w) {t : Nat} {p n v : AV} {σ' : St} {ts : Array TypeId} {ty : TypeId} (h : unsafeStringV D σ t p n = .ok (v, σ')) (hts : ts[0]? = some t) :
    ∃ w', (Builtin.unsafeString_ ts ty #[conc ι p, conc ι n]).run P w = .ok (conc ι v) w' ∧ Rep D ι σ' w' ∧ Ext ι σ w ι σ' w' ∧ ids ι (· < σ'.n) v := by
  simp only [unsafeStringV, bind_ok] at h
  obtain ⟨⟨k, m⟩, hm, h⟩ := h
  have hn : n = .base (.int k m) := by
    unfold asI at hm
    split at hm
    · simp at hm; obtain ⟨rfl, rfl⟩ := hm; rfl
    · simp at hm
  subst hn
  simp only at h
  split at h
  · rename_i hrange
    have hneg : ¬ (m < 0) := by omega
    have hbig : ¬ (m > IntKind.i64.max) := by
      have : IntKind.i64.max = 9223372036854775807 := rfl
      omega
    split at h
    · rename_i hz
      subst hz
      split at h
      · simp at h; obtain ⟨rfl, rfl⟩ := h
        refine ⟨w, ?_, R, Ext.refl _ _ _, trivial⟩
        simp [unsafeString_eq, conc, asInt, asIntOf, hts, str]
        rfl
      · simp at h; obtain ⟨rfl, rfl⟩ := h
        refine ⟨w, ?_, R, Ext.refl _ _ _, trivial⟩
        simp [unsafeString_eq, conc, asInt, asIntOf, hts, str]
        rfl
      · simp at h
    · rename_i hz
      simp only [bind_ok] at h
      obtain ⟨d, hd, h⟩ := h
      split at h
      · rename_i el b o
        simp only [bind_ok] at h
        obtain ⟨sz, hsz, eu, heu, h⟩ := h
        split at h
        · rename_i hb
          split at h
          · rename_i cs elem own szb ho
            split at h
            · rename_i hc
              simp only [Bool.and_eq_true, beq_iff_eq] at hc
              obtain ⟨⟨⟨hown, rfl⟩, rfl⟩, rfl⟩ := hc
              simp only [bind_ok, pure_ok, Prod.mk.injEq] at h
              obtain ⟨l, hl, r, hr, rfl, rfl⟩ := h
              have hob := R.obj b hb
              rw [ho] at hob
              obtain ⟨h1, h2, arr, fz, h3, h4, h5⟩ := hob
              obtain ⟨rfl, hcap, _⟩ := h5 hown
              obtain ⟨hl1, hl2⟩ := takeN_ok hl
              obtain ⟨ns, hns, hrr⟩ := bytesL_ok ι hr
              have hlen : ns.length = m.toNat := by
                have := congrArg List.length hns
                simpa [hl2] using this.symm
              have hle : o + m.toNat ≤ cs.length := by
                have := congrArg List.length hl1
                rw [hl2] at this
                simp at this
                omega
              have hlen2 : (ι b).shift + cs.length ≤ arr.size := by
                obtain ⟨y, hy⟩ : ∃ y, cs[cs.length - 1]? = some y := ⟨cs[cs.length - 1]'(by omega), List.getElem?_eq_getElem (by omega)⟩
                have := (Array.getElem?_eq_some_iff.1 (h4 _ y hy)).1
                omega
              have hsh : w.shape? (ι b).block = some (elem, arr.size) := by simp [World.shape?, h3]
              have hva : (variablesAt ((ι b).at o) elem m.toNat).run P w = .ok true w :=
                run_variablesAt F (a := (ι b).at o) hsh hsz (by omega) (Nat.one_dvd _) (by simp [Loc.at]; omega)
              have hlb : (Go.loadBytes ((ι b).at o) .empty m.toNat).run P w = .ok (ns.foldl (fun r n => r.push (UInt8.ofNat n.toNat)) .empty) w := by
                rw [← hlen]
                refine run_loadBytesI ns _ _ fun j n hj => ?_
                rw [at_add]
                have hx : (concL ι l)[j]? = some (.int .u8 n) := by rw [hns]; simp [hj]
                simp only [concL_getElem?, Option.map_eq_some_iff] at hx
                obtain ⟨x, hx, hxc⟩ := hx
                rw [← hxc]
                refine (R.cell hb ho ?_).1
                rw [hl1, List.getElem?_take] at hx
                split at hx
                · simpa using hx
                · simp at hx
              refine ⟨w.freeze ((ι b).at o) m.toNat, ?_, ?_⟩
              · simp only [unsafeString_eq, conc, Sem.run_bind, asInt, asIntOf, Sem.run_pure, Result.andThen_ok, hts]
                simp only [elemOf]
                have hbig2 : ¬ (9223372036854775807 < m) := by omega
                simp [hneg, hbig2, hz, run_und F w hd, hva, hlb, str, foldl_push, hrr, conc]
              · have hob' : (σ.getO b).isMut = true := by rw [ho]; exact hown
                have hfz : w.freeze ((ι b).at o) m.toNat = { w with heap := w.heap.modify (ι b).block fun
                    | .cells c elem (lo, hi) => .cells c elem (if lo == hi then (((ι b).at o).off, ((ι b).at o).off + m.toNat) else (min lo ((ι b).at o).off, max hi (((ι b).at o).off + m.toNat)))
                    | o => o } := by
                  unfold World.freeze
                  rw [if_neg (by omega)]
                  rfl
                have hset := R.set (o := .cells cs elem false 1) (w' := w.freeze ((ι b).at o) m.toNat) hb hob' (by rw [hfz]; simp) (fun r hr => by
                    rw [hfz]
                    simp only [Array.getElem?_modify]
                    rw [if_neg (fun e => hr e.symm)]) (by rw [hfz]; exact ⟨rfl, rfl, rfl⟩)
                  ⟨h1, h2, arr, _, by
                    rw [hfz]
                    simp only [Array.getElem?_modify]
                    rw [if_pos trivial, h3]
                    rfl, h4, fun h => by cases h⟩
                exact ⟨hset.1, hset.2, trivial⟩
            · simp at h
          · simp at h
        · simp at h
      · simp at h
  · simp at h

theorem actOp_run (R : Rep D ι σ w) {e : Operand → AV} {o : Oper} {nx : ANext} {σ' : St} (h : actOp D σ e o.op = .ok (nx, σ')) (hid : ∀ x, x ∈ o.op.operands → ids ι (· < σ.n) (e x)) :
    ∃ ι' w', Comes' P ι' nx (Go.execOp (fun x => conc ι (e x)) o) w w' ∧ Rep D ι' σ' w' ∧ Ext ι σ w ι' σ' w' ∧ idsNext ι' (· < σ'.n) nx := by
  unfold Go.execOp
  generalize o.op = op at h hid
  unfold actOp at h
  split at h
  · rename_i t a x
    simp only [bind_ok, pure_ok, Prod.mk.injEq] at h
    obtain ⟨σ1, h, rfl, rfl⟩ := h
    obtain ⟨w', h1, h2, h3⟩ := run_storeV F R h (hid x (by simp [Op.operands]))
    exact ⟨ι, w', ⟨_, rfl, by simp [h1]⟩, h2, h3, trivial⟩
  · rename_i t m k x
    simp only [bind_ok, pure_ok, Prod.mk.injEq] at h
    obtain ⟨σ1, h, rfl, rfl⟩ := h
    obtain ⟨w', h1, h2, h3⟩ := run_mapUpdate F R h (hid k (by simp [Op.operands])) (hid x (by simp [Op.operands]))
    exact ⟨ι, w', ⟨_, rfl, by simp [h1]⟩, h2, h3, trivial⟩
  · rename_i t m k x
    simp only [bind_ok, pure_ok, Prod.mk.injEq] at h
    obtain ⟨σ1, h, rfl, rfl⟩ := h
    obtain ⟨w', h1, h2, h3⟩ := run_mapUpdate F R h (hid k (by simp [Op.operands])) (hid x (by simp [Op.operands]))
    exact ⟨ι, w', ⟨_, rfl, by simp [h1]⟩, h2, h3, trivial⟩
  · rename_i t x
    simp only [bind_ok, pure_ok, Prod.mk.injEq] at h
    obtain ⟨⟨v, σ1⟩, h, rfl, rfl⟩ := h
    obtain ⟨ι', w', h1, h2, h3, h4⟩ := run_rangeV F R h
    exact ⟨ι', w', ⟨_, rfl, by simp [h1]⟩, h2, h3, h4⟩
  · rename_i it isS
    simp only [bind_ok, pure_ok, Prod.mk.injEq] at h
    obtain ⟨⟨v, σ1⟩, h, rfl, rfl⟩ := h
    obtain ⟨w', h1, h2, h3, h4⟩ := run_nextV (P := P) (ty := o.type) R h
    exact ⟨ι, w', ⟨_, rfl, by simp [h1]⟩, h2, h3, h4⟩
  · rename_i it
    simp only [bind_ok, pure_ok, Prod.mk.injEq] at h
    obtain ⟨v, h, rfl, rfl⟩ := h
    obtain ⟨h1, h2⟩ := run_entryV (P := P) R h
    exact ⟨ι, w, ⟨_, rfl, by simp [h1]⟩, R, Ext.refl _ _ _, h2⟩
  · rename_i s d x
    simp only [bind_ok, pure_ok, Prod.mk.injEq] at h
    obtain ⟨⟨v, σ1⟩, h, rfl, rfl⟩ := h
    obtain ⟨ι', w', h1, h2, h3, h4⟩ := run_toBytesV F R h
    exact ⟨ι', w', ⟨_, rfl, by simp [h1]⟩, h2, h3, h4⟩
  · rename_i c
    obtain ⟨callee, args, argTypes⟩ := c
    simp only at h
    split at h
    · rename_i b
      split at h
      · rename_i t u s x hts hxs
        have ht : argTypes = #[t, u] := by apply Array.ext'; simpa using hts
        have hargs : args = #[s, x] := by apply Array.ext'; simpa using hxs
        subst hargs
        simp only [bind_ok, pure_ok, Prod.mk.injEq] at h
        obtain ⟨⟨v, σ1⟩, h, rfl, rfl⟩ := h
        obtain ⟨ι', w', h1, h2, h3, h4⟩ := run_appendV F R (ty := o.type) h ht (hid s (by simp [Op.operands, Call.operands]))
        exact ⟨ι', w', ⟨_, rfl, by simp [resolve, invoke, Go.builtin, h1]⟩, h2, h3, h4⟩
      · rename_i t ts d s hts hxs
        have ht : argTypes[0]? = some t := by rw [← Array.getElem?_toList, hts]; rfl
        have hargs : args = #[d, s] := by apply Array.ext'; simpa using hxs
        subst hargs
        simp only [bind_ok, pure_ok, Prod.mk.injEq] at h
        obtain ⟨⟨v, σ1⟩, h, rfl, rfl⟩ := h
        obtain ⟨w', h1, h2, h3, h4⟩ := run_copyV F R (ty := o.type) h ht
        exact ⟨ι, w', ⟨_, rfl, by simp [resolve, invoke, Go.builtin, h1]⟩, h2, h3, h4⟩
      · rename_i t ts x hts hxs
        have ht : argTypes[0]? = some t := by rw [← Array.getElem?_toList, hts]; rfl
        have hargs : args = #[x] := by apply Array.ext'; simpa using hxs
        subst hargs
        simp only [bind_ok, pure_ok, Prod.mk.injEq] at h
        obtain ⟨⟨v, σ1⟩, h, rfl, rfl⟩ := h
        obtain ⟨w', h1, h2, h3, h4⟩ := run_clearV F R (ty := o.type) h ht
        exact ⟨ι, w', ⟨_, rfl, by simp [resolve, invoke, Go.builtin, h1]⟩, h2, h3, h4⟩
      · simp at h
        obtain ⟨rfl, rfl⟩ := h
        exact ⟨ι, w, ⟨_, rfl, by simp [resolve, invoke, Go.builtin]⟩, R, Ext.refl _ _ _, trivial⟩
      · rename_i x hxs
        have hargs : args = #[x] := by apply Array.ext'; simpa using hxs
        subst hargs
        simp only [bind_ok, pure_ok, Prod.mk.injEq] at h
        obtain ⟨v, h, rfl, rfl⟩ := h
        obtain ⟨h1, h2⟩ := run_sliceDataV (P := P) (w := w) h (hid x (by simp [Op.operands, Call.operands])) (ts := argTypes) (ty := o.type)
        exact ⟨ι, w, ⟨_, rfl, by simp [resolve, invoke, Go.builtin, h1]⟩, R, Ext.refl _ _ _, h2⟩
      · rename_i t ts p n hts hxs
        have ht : argTypes[0]? = some t := by rw [← Array.getElem?_toList, hts]; rfl
        have hargs : args = #[p, n] := by apply Array.ext'; simpa using hxs
        subst hargs
        simp only [bind_ok, pure_ok, Prod.mk.injEq] at h
        obtain ⟨⟨v, σ1⟩, h, rfl, rfl⟩ := h
        obtain ⟨w', h1, h2, h3, h4⟩ := run_unsafeStringV F R (ty := o.type) h ht
        exact ⟨ι, w', ⟨_, rfl, by simp [resolve, invoke, Go.builtin, h1]⟩, h2, h3, h4⟩
      · simp at h
    · rename_i recv name
      simp only [bind_ok, pure_ok, Prod.mk.injEq] at h
      obtain ⟨nx', h, rfl, rfl⟩ := h
      obtain ⟨f, as, rfl, h1, h2⟩ := callM_ok F (ι := ι) (A := (· < σ.n)) w h (hid recv (by simp [Op.operands, Call.operands])) (idsL_iff.2 fun v hv => by
        simp only [List.mem_map] at hv
        obtain ⟨x, hx, rfl⟩ := hv
        exact hid x (by simp [Op.operands, Call.operands, Array.mem_toList_iff.1 hx]))
      refine ⟨ι, w, ⟨_, rfl, ?_⟩, R, Ext.refl _ _ _, h1⟩
      simp only [resolve, Sem.run_bind, Sem.run_pure, Result.andThen_ok, invoke, arr_map]
      have ea : #[conc ι (e recv)] ++ (concL ι (args.toList.map e)).toArray = (conc ι (e recv) :: concL ι (args.toList.map e)).toArray := by simp
      rw [ea]
      simp only [extract1, List.getElem?_toArray, List.getElem?_cons_zero]
      exact h2
    · rename_i f
      have hargs : idsL ι (· < σ.n) (args.toList.map e) := idsL_iff.2 fun v hv => by
        simp only [List.mem_map] at hv
        obtain ⟨x, hx, rfl⟩ := hv
        exact hid x (by simp [Op.operands, Call.operands, Array.mem_toList_iff.1 hx])
      split at h
      · rename_i k hk
        simp only [bind_ok, pure_ok, Prod.mk.injEq] at h
        obtain ⟨⟨v, σ1⟩, h, rfl, rfl⟩ := h
        obtain ⟨g, hg, hgk⟩ := extOf_ok hk
        obtain ⟨ι', w', h1, h2, h3, h4⟩ := run_extV F R hgk h hargs
        refine ⟨ι', w', Comes'.value ?_, h2, h3, h4⟩
        simp only [resolve, arr_map, hg, conc, concL, Deferred.ofValue, Sem.run_bind, Sem.run_pure, Result.andThen_ok, invoke]
        have ea : #[] ++ (concL ι (args.toList.map e)).toArray ++ #[] = (concL ι (args.toList.map e)).toArray := by simp
        simpa using h1
      simp only [bind_ok, pure_ok, Prod.mk.injEq] at h
      obtain ⟨nx', h, rfl, rfl⟩ := h
      obtain ⟨h1, h2, _⟩ := callV_ok F (ι := ι) (A := (· < σ.n)) (_type := o.type) w h (hid f (by simp [Op.operands, Call.operands])) (idsL_iff.2 fun v hv => by
        simp only [List.mem_map] at hv
        obtain ⟨x, hx, rfl⟩ := hv
        exact hid x (by simp [Op.operands, Call.operands, Array.mem_toList_iff.1 hx]))
      refine ⟨ι, w, ?_, R, Ext.refl _ _ _, h1⟩
      simp only [resolve, arr_map]
      exact h2
  · rename_i c
    obtain ⟨callee, args, argTypes⟩ := c
    simp only at h
    split at h
    · rename_i f
      have hf := hid f (by simp [Op.operands, Call.operands])
      split at h
      · rename_i fn first captured heq
        rw [heq] at hf
        simp at h
        obtain ⟨rfl, rfl⟩ := h
        refine ⟨ι, w, ⟨_, rfl, ?_⟩, R, Ext.refl _ _ _, ⟨hf.2, idsL_append.2 ⟨hf.1, idsL_iff.2 fun v hv => ?_⟩⟩⟩
        · simp only [resolve, arr_map, heq, conc, Deferred.ofValue, Sem.run_bind, Sem.run_pure, Result.andThen_ok, concDef]
          simp
        · simp only [List.mem_map] at hv
          obtain ⟨x, hx, rfl⟩ := hv
          exact hid x (by simp [Op.operands, Call.operands, Array.mem_toList_iff.1 hx])
      · simp at h
    · simp at h
  · rename_i x
    have hx := hid x (by simp [Op.operands])
    split at h
    · rename_i t y heq
      rw [heq] at hx
      simp at h
      obtain ⟨rfl, rfl⟩ := h
      refine ⟨ι, w, ?_, R, Ext.refl _ _ _, hx⟩
      simp [Comes', heq, conc, Instr.panic]
    · simp at h
  · simp at h
end
end Go.Dt
namespace Go.Dt

def evT (T : Array Value) : Operand → Value
  | .tmp t => T.getD t undef
  | .const v => v
  | .global g => .pointer (some ⟨g, 0, none⟩)
  | .func f => .func (.func f) #[] #[]

def on (b : Frame) (T : Array Value) (ds : List Deferred) (todo : List Item) : Frame := { b with tmps := T, defers := ds, todo := todo, mode := .run }

theorem on_eval (b : Frame) (T : Array Value) (ds : List Deferred) (todo : List Item) : (on b T ds todo).eval = evT T := by
  funext x; cases x <;> rfl

def putV (T : Array Value) (dst : Option Tmp) (v : Value) : Array Value :=
  match dst with
  | some d => T.setIfInBounds d v
  | none => T

theorem on_finish (b : Frame) (T : Array Value) (ds : List Deferred) (ops : Array Oper) (i : Nat) (rest : List Nat) (k : List Item) (o : Oper) (ho : ops[i]? = some o) (v : Value) :
    (on b T ds (.inRegion ops (i :: rest) :: k)).finish v = on b (putV T o.dst v) ds (.inRegion ops rest :: k) := by
  cases hd : o.dst <;> simp [Frame.finish, on, putV, ho, hd]

def PanEntry (v : Value) (r : Bool) : PanicEntry := { v, recovered := r }

section steps
variable {P : Program} {b : Frame} {T : Array Value} {ds : List Deferred} {k : List Item} {cs : List Frame} {w w' : World} {ops : Array Oper} {i : Nat} {rest : List Nat} {o : Oper}

/-- a machine's goroutine in this frame -/
def gor (fr : Frame) (cs : List Frame) : Goroutine := { frame := fr, callers := cs, status := .running, dying := none }

theorem stepG_on (ho : ops[i]? = some o) (hw : Region.wanted o (yielded ops T) = true) (hd : b.roundOf = none ∨ ∀ c, o.op ≠ .defer c) :
    stepG P true (gor (on b T ds (.inRegion ops (i :: rest) :: k)) cs) w =
      stepG.apply P true (on b T ds (.inRegion ops (i :: rest) :: k)) cs none (Go.execOp (evT T) o) w := by
  have he := on_eval b T ds (.inRegion ops (i :: rest) :: k)
  simp only [gor, stepG, on, stepG.exec]
  simp only [ho, Option.map_some, hw, Option.getD_some, if_true]
  simp only [on] at he
  simp only [stepG.oper, Frame.oper?, ho, he]
  split
  · rename_i l c h1 h2
    rcases hd with hd | hd
    · rw [hd] at h1; cases h1
    · exact (hd _ h2).elim
  · rfl

theorem step_go {fr fr' : Frame} {cs' : List Frame} (h : (stepG P true (gor fr cs) w).bare = .go (gor fr' cs') w') : step P (lone fr cs w) = .next (lone fr' cs' w') :=
  step_lone_go h

theorem step_value {v : Value} (ho : ops[i]? = some o) (hw : Region.wanted o (yielded ops T) = true) (hd : b.roundOf = none ∨ ∀ c, o.op ≠ .defer c)
    (hr : (Go.execOp (evT T) o).run P w = .ok (.value v) w') :
    step P (lone (on b T ds (.inRegion ops (i :: rest) :: k)) cs w) = .next (lone (on b (putV T o.dst v) ds (.inRegion ops rest :: k)) cs w') := by
  refine step_go ?_
  rw [stepG_on ho hw hd, ← on_finish b T ds ops i rest k o ho v]
  simp [stepG.apply, hr, gor]

theorem step_skip' (ho : ops[i]? = some o) (hw : Region.wanted o (yielded ops T) = true) (hd : b.roundOf = none ∨ ∀ c, o.op ≠ .defer c)
    (hr : (Go.execOp (evT T) o).run P w = .ok .skip w') :
    step P (lone (on b T ds (.inRegion ops (i :: rest) :: k)) cs w) = .next (lone (on b (putV T o.dst undef) ds (.inRegion ops rest :: k)) cs w') := by
  refine step_go ?_
  rw [stepG_on ho hw hd, ← on_finish b T ds ops i rest k o ho undef]
  simp [stepG.apply, hr, gor]

theorem step_deferOp {d : Deferred} (ho : ops[i]? = some o) (hw : Region.wanted o (yielded ops T) = true) (hd : b.roundOf = none)
    (hr : (Go.execOp (evT T) o).run P w = .ok (.defer d) w') :
    step P (lone (on b T ds (.inRegion ops (i :: rest) :: k)) cs w) = .next (lone (on b (putV T o.dst undef) (d :: ds) (.inRegion ops rest :: k)) cs w') := by
  refine step_go ?_
  rw [stepG_on ho hw (.inl hd), ← on_finish b T (d :: ds) ops i rest k o ho undef]
  simp [stepG.apply, hr, gor, on]

theorem step_enter {f : FuncId} {args : Array Value} (ho : ops[i]? = some o) (hw : Region.wanted o (yielded ops T) = true) (hd : b.roundOf = none ∨ ∀ c, o.op ≠ .defer c)
    (hr : (Go.execOp (evT T) o).run P w = .ok (.enter f args) w') :
    step P (lone (on b T ds (.inRegion ops (i :: rest) :: k)) cs w) = .next (lone (Frame.enter P f args .normal) (on b T ds (.inRegion ops (i :: rest) :: k) :: cs) w') := by
  refine step_go ?_
  rw [stepG_on ho hw hd]
  simp [stepG.apply, hr, gor, on]

theorem step_roundOp {l : Nat} {f : FuncId} {tmps : Array Value} {assign body : Code} (ho : ops[i]? = some o) (hw : Region.wanted o (yielded ops T) = true) (hd : b.roundOf = none ∨ ∀ c, o.op ≠ .defer c)
    (hr : (Go.execOp (evT T) o).run P w = .ok (.round l f tmps assign body) w') :
    step P (lone (on b T ds (.inRegion ops (i :: rest) :: k)) cs w) = .next (lone (Frame.round l f tmps assign body .normal) (on b T ds (.inRegion ops (i :: rest) :: k) :: cs) w') := by
  refine step_go ?_
  rw [stepG_on ho hw hd]
  simp [stepG.apply, hr, gor]

theorem step_panicOp {v : Value} (ho : ops[i]? = some o) (hw : Region.wanted o (yielded ops T) = true) (hd : b.roundOf = none ∨ ∀ c, o.op ≠ .defer c)
    (hr : (Go.execOp (evT T) o).run P w = .halt (.panic v) w') :
    step P (lone (on b T ds (.inRegion ops (i :: rest) :: k)) cs w) = .next (lone { on b T ds (.inRegion ops (i :: rest) :: k) with mode := .panicking [{ v, recovered := false }] } cs w') := by
  refine step_go ?_
  rw [stepG_on ho hw hd]
  simp [stepG.apply, hr, gor, on, Frame.raise]

theorem step_unwanted (h : ((ops[i]?).map (Region.wanted · (yielded ops T))).getD false = false) (ho : ops[i]? = some o) :
    step P (lone (on b T ds (.inRegion ops (i :: rest) :: k)) cs w) = .next (lone (on b (putV T o.dst undef) ds (.inRegion ops rest :: k)) cs w) := by
  refine step_go ?_
  rw [← on_finish b T ds ops i rest k o ho undef]
  have h' := h
  simp only [on] at *
  simp [gor, stepG, stepG.exec, h']

end steps
end Go.Dt
namespace Go.Dt

/-- who waits for a frame: a normal caller, or the frame that unwinds through it -/
inductive Ctx where
  | norm (cs : List Frame)
  | dfr (c : Frame) (rest : List Frame)

def panMode (ι : Nat → Loc) : Pan → FrameMode
  | none => .returning
  | some (v, r) => .panicking [{ v := conc ι v, recovered := r }]

def Ctx.cs (X : Ctx) (ι : Nat → Loc) (pan : Pan) : List Frame :=
  match X with
  | .norm cs => cs
  | .dfr c rest => { c with mode := panMode ι pan } :: rest
def Ctx.kind : Ctx → CallKind
  | .norm _ => .normal
  | .dfr _ _ => .deferred
def Ctx.fits (X : Ctx) (pan : Pan) : Prop :=
  match X with
  | .norm _ => pan = none
  | .dfr _ _ => True

def idsPan (ι : Nat → Loc) (A : Nat → Prop) : Pan → Prop
  | none => True
  | some (v, _) => ids ι A v

theorem idsPan_mono {ι ι' : Nat → Loc} {A B : Nat → Prop} (h : ∀ b, A b → B b ∧ ι' b = ι b) (p : Pan) (hp : idsPan ι A p) : idsPan ι' B p := by
  cases p with
  | none => trivial
  | some p => exact ids_mono h _ hp
theorem Ctx.agree {X : Ctx} {ι ι' : Nat → Loc} {A : Nat → Prop} (h : ∀ b, A b → ι' b = ι b) {p : Pan} (hp : idsPan ι A p) : X.cs ι' p = X.cs ι p := by
  cases X with
  | norm cs => rfl
  | dfr c rest =>
    cases p with
    | none => rfl
    | some p => simp [Ctx.cs, panMode, conc_agree h _ hp]

def idsDs (ι : Nat → Loc) (A : Nat → Prop) (ds : List ADef) : Prop := ∀ d, d ∈ ds → idsDef ι A d
theorem idsDs_mono {ι ι' : Nat → Loc} {A B : Nat → Prop} (h : ∀ b, A b → B b ∧ ι' b = ι b) {ds : List ADef} (hd : idsDs ι A ds) : idsDs ι' B ds :=
  fun d hm => idsDef_mono h d (hd d hm)
theorem concDs_agree {ι ι' : Nat → Loc} {A : Nat → Prop} (h : ∀ b, A b → ι' b = ι b) {ds : List ADef} (hd : idsDs ι A ds) : ds.map (concDef ι') = ds.map (concDef ι) :=
  List.map_congr_left fun d hm => concDef_agree h d (hd d hm)

def concEnd (ι : Nat → Loc) : AEnd → Ending
  | .ret v => .returned (conc ι v)
  | .panic v => .panicked [{ v := conc ι v, recovered := false }]
def idsEnd (ι : Nat → Loc) (A : Nat → Prop) : AEnd → Prop
  | .ret v => ids ι A v
  | .panic v => ids ι A v

def after (c : Frame) : Ending → Frame
  | .returned v => c.finish v
  | .panicked chain => c.raise chain
  | .outgrown => c

def CallOK (D : Tab) (P : Program) (call : CallT) : Prop :=
  ∀ f args σ e σ', call f args σ = .ok (e, σ') → ∀ ι w, Rep D ι σ w → idsL ι (· < σ.n) args →
    Calls P f (concL ι args).toArray w fun en w' => ∃ ι', en = concEnd ι' e ∧ Rep D ι' σ' w' ∧ Ext ι σ w ι' σ' w' ∧ idsEnd ι' (· < σ'.n) e

def RoundOK (D : Tab) (P : Program) (round : RoundT) : Prop :=
  ∀ l args σ e σ', round l args σ = .ok (e, σ') → ∀ ι w, Rep D ι σ w → idsL ι (· < σ.n) args → l < σ.n →
    ∃ fn tmps assign body, (Instr.yield (ι l).block (concL ι args).toArray).run P w = .ok (.round (ι l).block fn tmps assign body) w ∧
      ∀ (c : Frame) (cs : List Frame), ∃ ι' w', Steps P (lone (Frame.round (ι l).block fn tmps assign body .normal) (c :: cs) w) (lone (after c (concEnd ι' e)) cs w') ∧
        Rep D ι' σ' w' ∧ Ext ι σ w ι' σ' w' ∧ idsEnd ι' (· < σ'.n) e

section
variable {D : Tab} {P : Program} {ι : Nat → Loc} {σ : St} {w : World}

theorem getD_conc (ι : Nat → Loc) (T : List AV) (t : Nat) : (concL ι T).toArray.getD t undef = conc ι (T.getD t .undef) := by
  simp only [Array.getD_eq_getD_getElem?, List.getElem?_toArray, concL_getElem?, List.getD_eq_getElem?_getD]
  cases T[t]? <;> simp

theorem evalO_conc (R : Rep D ι σ w) (T : List AV) (x : Operand) : evT (concL ι T).toArray x = conc ι (evalO D T x) := by
  cases x with
  | tmp t => simp only [evT, evalO]; exact getD_conc ι T t
  | const v => simp [evT, evalO]
  | global g =>
    simp only [evT, evalO]
    split
    · rename_i hg
      have := R.gloc g hg
      simp [conc, Loc.at, this.1, this.2]
    · simp [conc]
  | func f => simp [evT, evalO, conc, concL]

theorem evT_eq (R : Rep D ι σ w) (T : List AV) : evT (concL ι T).toArray = fun x => conc ι (evalO D T x) := by
  funext x; exact evalO_conc R T x

theorem evalO_ids (_ : Rep D ι σ w) {A : Nat → Prop} (hA : ∀ g, g < D.nglob → A g) {T : List AV} (hT : idsL ι A T) (x : Operand) : ids ι A (evalO D T x) := by
  cases x with
  | tmp t =>
    simp only [evalO, List.getD_eq_getElem?_getD]
    cases h : T[t]? with
    | none => simpa using ids_undef ι A
    | some v => simpa using idsL_get hT h
  | const v => exact ids_ofConst ι A v
  | global g =>
    simp only [evalO]
    split
    · rename_i hg; exact hA g hg
    · trivial
  | func f => simp [evalO, ids, idsL]

theorem putV_conc (ι : Nat → Loc) (T : List AV) (dst : Option Tmp) (v : AV) : putV (concL ι T).toArray dst (conc ι v) = (concL ι (put T dst v)).toArray := by
  cases dst with
  | none => rfl
  | some d =>
    simp only [putV, put]
    apply Array.ext'
    simp [concL_eq, List.map_set]

theorem Rep.glob_lt (R : Rep D ι σ w) : ∀ g, g < D.nglob → g < σ.n := fun _ hg => Nat.lt_of_lt_of_le hg R.glob

theorem putV_agree {ι' : Nat → Loc} {σ' : St} {w' : World} (E : Ext ι σ w ι' σ' w') {T : List AV} (hT : idsL ι (· < σ.n) T) {dst : Option Tmp} {v : AV} :
    putV (concL ι T).toArray dst (conc ι' v) = (concL ι' (put T dst v)).toArray := by
  rw [← concL_agree E.agree T hT, putV_conc]

theorem put_ids {A : Nat → Prop} {T : List AV} {v : AV} (hT : idsL ι A T) (hv : ids ι A v) (dst : Option Tmp) : idsL ι A (put T dst v) := by
  cases dst with
  | none => exact hT
  | some d => exact idsL_set hT hv d

theorem conc_bool {v : AV} {b : Bool} (h : conc ι v = .bool b) : v = .base (.bool b) := by
  cases v with
  | base v => simp only [conc] at h; rw [h]
  | slice b o len cap sz => cases cap <;> simp [conc] at h
  | sliceZ b o l sz => simp only [conc] at h; split at h <;> cases h
  | _ => simp [conc] at h

theorem yielded_conc (ι : Nat → Loc) (ops : Array Oper) (T : List AV) (j : Nat) : yielded ops (concL ι T).toArray j = yieldedA ops T j := by
  unfold yielded yieldedA
  cases h : (ops[j]?).bind (·.dst) with
  | none => simp
  | some t =>
    simp only [Option.bind_some, List.getElem?_toArray, concL_getElem?]
    cases ht : T[t]? with
    | none => simp
    | some v =>
      simp only [Option.map_some]
      cases v with
      | base v => simp only [conc]; cases v <;> rfl
      | slice b o len cap sz => cases cap <;> simp [conc]
      | sliceZ b o l sz => obtain ⟨a, c, hc⟩ := conc_sliceZ ι b o l sz; rw [hc]
      | _ => simp [conc]

theorem wanted_conc (ι : Nat → Loc) (ops : Array Oper) (T : List AV) (o : Oper) : Region.wanted o (yielded ops (concL ι T).toArray) = wantedA ops o T := by
  have : yielded ops (concL ι T).toArray = yieldedA ops T := funext fun j => yielded_conc ι ops T j
  rw [this]
  unfold Region.wanted wantedA
  cases o.guard with
  | none => rfl
  | some p => rfl

/-- the abstract operation and the model's -/
theorem execOp_run (F : Fits D P) (R : Rep D ι σ w) {e : Operand → AV} {o : Oper} {nx : ANext} {σ' : St} (h : execOp D e σ o.op = .ok (nx, σ'))
    (hid : ∀ x, x ∈ o.op.operands → ids ι (· < σ.n) (e x)) :
    ∃ ι' w', Comes' P ι' nx (Go.execOp (fun x => conc ι (e x)) o) w w' ∧ Rep D ι' σ' w' ∧ Ext ι σ w ι' σ' w' ∧ idsNext ι' (· < σ'.n) nx := by
  unfold execOp at h
  split at h
  · simp only [bind_ok, pure_ok, Prod.mk.injEq] at h
    obtain ⟨v, h, rfl, rfl⟩ := h
    obtain ⟨h1, h2⟩ := pureOp_run F w h hid
    exact ⟨ι, w, ⟨_, rfl, h1⟩, R, Ext.refl _ _ _, h2⟩
  · simp only [bind_ok, pure_ok, Prod.mk.injEq] at h
    obtain ⟨v, h, rfl, rfl⟩ := h
    obtain ⟨h1, h2⟩ := readOp_run F R h
    exact ⟨ι, w, ⟨_, rfl, h1⟩, R, Ext.refl _ _ _, h2⟩
  · simp only [bind_ok, pure_ok, Prod.mk.injEq] at h
    obtain ⟨⟨v, ob⟩, h, rfl, rfl⟩ := h
    obtain ⟨obj, L, h1, h2, h3, h4⟩ := (allocOp_run F w (by simp) h hid).out
    have hk : ∀ b, (b < σ.n ∨ b = σ.n) → b < σ.n + 1 ∧ upd ι σ.n L b = upd ι σ.n L b := fun b hb => ⟨by omega, rfl⟩
    have hp := R.push h2 (h3.mono hk)
    exact ⟨_, _, ⟨_, rfl, h1⟩, hp.1, hp.2, ids_mono hk _ h4⟩
  · exact actOp_run F R h hid

end
end Go.Dt
namespace Go.Dt

section
variable {D : Tab} {P : Program}

theorem after_on {b : Frame} {M : Array Value} {ds : List Deferred} {ops : Array Oper} {i : Nat} {rest : List Nat} {k : List Item} {o : Oper} (ho : ops[i]? = some o) (ι : Nat → Loc) (e : AEnd) :
    after (on b M ds (.inRegion ops (i :: rest) :: k)) (concEnd ι e) =
      match e with
      | .ret v => on b (putV M o.dst (conc ι v)) ds (.inRegion ops rest :: k)
      | .panic v => { on b M ds (.inRegion ops (i :: rest) :: k) with mode := .panicking [{ v := conc ι v, recovered := false }] } := by
  cases e with
  | ret v => simp only [after, concEnd]; exact on_finish b M ds ops i rest k o ho _
  | panic v => simp [after, concEnd, Frame.raise, on]

/-- the call of a function under a waiting frame -/
theorem call_steps {f : FuncId} {args : Array Value} {w : World} {Q : Ending → World → Prop} (h : Calls P f args w Q) (hQ : ∀ w', ¬ Q .outgrown w') (c : Frame) (cs : List Frame) :
    ∃ e w', Q e w' ∧ Steps P (lone (Frame.enter P f args .normal) (c :: cs) w) (lone (after c e) cs w') := by
  obtain ⟨e, w', fr, hq, hc, _, hl⟩ := h (c :: cs)
  refine ⟨e, w', hq, ?_⟩
  cases e with
  | returned v => exact Steps.trans hc (.one (step_leave_returned hl))
  | panicked chain => exact Steps.trans hc (.one (step_leave_panicked hl))
  | outgrown => exact (hQ _ hq).elim

theorem concEnd_ne (ι : Nat → Loc) (e : AEnd) : concEnd ι e ≠ .outgrown := by cases e <;> simp [concEnd]

theorem not_defer {e : Operand → AV} {σ σ' : St} {op : Op} {nx : ANext} (h : execOp D e σ op = .ok (nx, σ')) (hn : ∀ d, nx ≠ .defer d) : ∀ c, op ≠ .defer c := by
  rintro c rfl
  simp only [execOp, clsD, clsOf, actOp] at h
  split at h
  · split at h
    · simp only [Except.ok.injEq, Prod.mk.injEq] at h; exact hn _ h.1.symm
    · simp at h
  · simp at h

theorem tryRecover_some {X : Ctx} {ι : Nat → Loc} {v : AV} {fr : Frame} (hk : fr.kind = X.kind) (hfit : X.fits (some (v, false))) :
    tryRecover fr (X.cs ι (some (v, false))) = some (conc ι v, X.cs ι (some (v, true))) := by
  cases X with
  | norm cs => simp [Ctx.fits] at hfit
  | dfr c rest => simp [tryRecover, hk, Ctx.kind, Ctx.cs, panMode]

theorem tryRecover_none {X : Ctx} {ι : Nat → Loc} {pan : Pan} {fr : Frame} (hk : fr.kind = X.kind) (hp : ∀ v, pan ≠ some (v, false)) :
    tryRecover fr (X.cs ι pan) = none := by
  cases X with
  | norm cs => simp [tryRecover, hk, Ctx.kind]
  | dfr c rest =>
    cases pan with
    | none => simp [tryRecover, hk, Ctx.kind, Ctx.cs, panMode]
    | some p =>
      obtain ⟨v, r⟩ := p
      cases r with
      | false => exact (hp v rfl).elim
      | true => simp [tryRecover, hk, Ctx.kind, Ctx.cs, panMode]

section
variable {b : Frame} {T : Array Value} {ds : List Deferred} {k : List Item} {cs cs' : List Frame} {w w' : World} {ops : Array Oper} {i : Nat} {rest : List Nat} {o : Oper}

theorem step_recover_some {v : Value} (ho : ops[i]? = some o) (hw : Region.wanted o (yielded ops T) = true) (hr0 : b.roundOf = none)
    (hr : (Go.execOp (evT T) o).run P w = .ok .recover w') (ht : tryRecover (on b T ds (.inRegion ops (i :: rest) :: k)) cs = some (v, cs')) :
    step P (lone (on b T ds (.inRegion ops (i :: rest) :: k)) cs w) = .next (lone (on b (putV T o.dst v) ds (.inRegion ops rest :: k)) cs' w') := by
  refine step_go ?_
  rw [stepG_on ho hw (.inl hr0), ← on_finish b T ds ops i rest k o ho v]
  have : (on b T ds (.inRegion ops (i :: rest) :: k)).roundOf = none := hr0
  simp [stepG.apply, hr, gor, this, ht]

theorem step_recover_none (ho : ops[i]? = some o) (hw : Region.wanted o (yielded ops T) = true) (hr0 : b.roundOf = none)
    (hr : (Go.execOp (evT T) o).run P w = .ok .recover w') (ht : tryRecover (on b T ds (.inRegion ops (i :: rest) :: k)) cs = none) :
    step P (lone (on b T ds (.inRegion ops (i :: rest) :: k)) cs w) = .next (lone (on b (putV T o.dst .nilIface) ds (.inRegion ops rest :: k)) cs w') := by
  refine step_go ?_
  rw [stepG_on ho hw (.inl hr0), ← on_finish b T ds ops i rest k o ho .nilIface]
  have : (on b T ds (.inRegion ops (i :: rest) :: k)).roundOf = none := hr0
  simp [stepG.apply, hr, gor, this, ht]
end

/-- what an operation leaves -/
inductive OneEnd (P : Program) (X : Ctx) (b : Frame) (ops : Array Oper) (i : Nat) (rest : List Nat) (k : List Item) (o : Oper) (m : Machine) (M : Array Value) (T : List AV) (ds : List ADef) (pan : Pan) :
    OpEnd → (Nat → Loc) → St → World → Prop
  | go {ι' : Nat → Loc} {σ' : St} {w' : World} {v : AV} {ds' : List ADef} {pan' : Pan}
      (steps : Steps P m (lone (on b (putV M o.dst (conc ι' v)) (ds'.map (concDef ι')) (.inRegion ops rest :: k)) (X.cs ι' pan') w'))
      (hv : ids ι' (· < σ'.n) v) (hds : idsDs ι' (· < σ'.n) ds') (hpan : idsPan ι' (· < σ'.n) pan') (hfit : X.fits pan') :
      OneEnd P X b ops i rest k o m M T ds pan (.go (put T o.dst v) ds' pan' σ') ι' σ' w'
  | panic {ι' : Nat → Loc} {σ' : St} {w' : World} {v : AV}
      (steps : Steps P m (lone { on b M (ds.map (concDef ι')) (.inRegion ops (i :: rest) :: k) with mode := .panicking [{ v := conc ι' v, recovered := false }] } (X.cs ι' pan) w'))
      (hv : ids ι' (· < σ'.n) v) : OneEnd P X b ops i rest k o m M T ds pan (.panic v T ds pan σ') ι' σ' w'

theorem runOne_ok (F : Fits D P) {call : CallT} {round : RoundT} (HC : CallOK D P call) (HR : RoundOK D P round) {isRound : Bool} {X : Ctx} {b : Frame} (hk : b.kind = X.kind)
    (hround : b.roundOf = none ↔ isRound = false) {ι : Nat → Loc} {σ : St} {w : World} (R : Rep D ι σ w) {ops : Array Oper} {i : Nat} {rest : List Nat} {k : List Item} {o : Oper}
    (ho : ops[i]? = some o) {M : Array Value} {T : List AV} {ds : List ADef} {pan : Pan} {r : OpEnd}
    (hw : Region.wanted o (yielded ops M) = true) (hop : Go.execOp (evT M) o = Go.execOp (fun x => conc ι (evalO D T x)) o)
    (hid : ∀ x, x ∈ o.op.operands → ids ι (· < σ.n) (evalO D T x))
    (hds : idsDs ι (· < σ.n) ds) (hpan : idsPan ι (· < σ.n) pan) (hfit : X.fits pan)
    (h : runOne D call round isRound o T ds pan σ = .ok r) :
    ∃ ι' σ' w', OneEnd P X b ops i rest k o (lone (on b M (ds.map (concDef ι)) (.inRegion ops (i :: rest) :: k)) (X.cs ι pan) w) M T ds pan r ι' σ' w' ∧
      Rep D ι' σ' w' ∧ Ext ι σ w ι' σ' w' := by
  simp only [runOne, bind_ok] at h
  obtain ⟨⟨nx, σ1⟩, hx, h⟩ := h
  obtain ⟨ι1, w1, hc, R1, E1, hids⟩ := execOp_run F R hx hid
  rw [← hop] at hc
  have hds1 := idsDs_mono E1.k hds
  have hpan1 := idsPan_mono E1.k pan hpan
  have hcs : X.cs ι1 pan = X.cs ι pan := X.agree E1.agree hpan
  have hdsc : ds.map (concDef ι1) = ds.map (concDef ι) := concDs_agree E1.agree hds
  have hnd : (∀ d, nx ≠ .defer d) → (b.roundOf = none ∨ ∀ c, o.op ≠ .defer c) := fun hn => .inr (not_defer hx hn)
  cases nx with
  | value v =>
    simp at h; subst h
    obtain ⟨x, hx', hrun⟩ := hc
    simp only [concNext, Option.some.injEq] at hx'; subst hx'
    refine ⟨ι1, σ1, w1, .go (v := v) ?_ hids hds1 hpan1 hfit, R1, E1⟩
    rw [hcs, hdsc]
    exact .one (step_value ho hw (hnd (by simp)) hrun)
  | skip =>
    simp at h; subst h
    obtain ⟨x, hx', hrun⟩ := hc
    simp only [concNext, Option.some.injEq] at hx'; subst hx'
    refine ⟨ι1, σ1, w1, .go (v := .undef) ?_ (ids_undef _ _) hds1 hpan1 hfit, R1, E1⟩
    rw [hcs, hdsc, conc_undef]
    exact .one (step_skip' ho hw (hnd (by simp)) hrun)
  | defer d =>
    simp only at h
    split at h
    · simp at h
    · rename_i hR
      simp at h; subst h
      obtain ⟨x, hx', hrun⟩ := hc
      simp only [concNext, Option.some.injEq] at hx'; subst hx'
      refine ⟨ι1, σ1, w1, .go (v := .undef) ?_ (ids_undef _ _) ?_ hpan1 hfit, R1, E1⟩
      · rw [hcs, List.map_cons, hdsc, conc_undef]
        exact .one (step_deferOp ho hw (hround.2 (by simpa using hR)) hrun)
      · intro d' hd'
        rcases List.mem_cons.1 hd' with h1 | h1
        · exact h1 ▸ hids
        · exact hds1 d' h1
  | recover =>
    simp only at h
    split at h
    · simp at h
    · rename_i hR
      have hb0 := hround.2 (by simpa using hR)
      obtain ⟨x, hx', hrun⟩ := hc
      simp only [concNext, Option.some.injEq] at hx'; subst hx'
      split at h
      · rename_i v
        simp at h; subst h
        refine ⟨ι1, σ1, w1, .go (v := v) ?_ hpan1 hds1 hpan1 ?_, R1, E1⟩
        · rw [hdsc]
          refine .one (step_recover_some ho hw hb0 hrun ?_)
          rw [← hcs]
          exact tryRecover_some hk hfit
        · cases X with
          | norm cs => simp [Ctx.fits] at hfit
          | dfr c rest => trivial
      · rename_i hne
        simp at h; subst h
        refine ⟨ι1, σ1, w1, .go (v := .base .nilIface) ?_ (by trivial) hds1 hpan1 hfit, R1, E1⟩
        rw [hcs, hdsc, conc]
        exact .one (step_recover_none ho hw hb0 hrun (tryRecover_none hk fun v hv => hne v hv))
  | panic v =>
    simp at h; subst h
    refine ⟨ι1, σ1, w1, .panic ?_ hids, R1, E1⟩
    rw [hcs, hdsc]
    exact .one (step_panicOp ho hw (hnd (by simp)) hc)
  | enter f args =>
    simp only [bind_ok] at h
    obtain ⟨⟨e, σ2⟩, hcall, h⟩ := h
    obtain ⟨x, hx', hrun⟩ := hc
    simp only [concNext, Option.some.injEq] at hx'; subst hx'
    obtain ⟨en, w2, ⟨ι2, rfl, R2, E2, he⟩, hs⟩ := call_steps (HC _ _ _ _ _ hcall ι1 w1 R1 hids) (fun w' ⟨ι', h', _⟩ => concEnd_ne ι' e h'.symm)
      (on b M (ds.map (concDef ι)) (.inRegion ops (i :: rest) :: k)) (X.cs ι pan)
    have E := E1.trans E2
    have hs' := Steps.trans (.one (step_enter (P := P) (b := b) (ds := ds.map (concDef ι)) (k := k) (cs := X.cs ι pan) (rest := rest) ho hw (hnd (by simp)) hrun)) hs
    rw [after_on ho] at hs'
    have hcs2 : X.cs ι2 pan = X.cs ι pan := X.agree E.agree hpan
    have hdsc2 : ds.map (concDef ι2) = ds.map (concDef ι) := concDs_agree E.agree hds
    cases e with
    | ret v =>
      simp at h; subst h
      refine ⟨ι2, σ2, w2, .go (v := v) ?_ he (idsDs_mono E.k hds) (idsPan_mono E.k pan hpan) hfit, R2, E⟩
      rw [hcs2, hdsc2]; exact hs'
    | panic v =>
      simp at h; subst h
      refine ⟨ι2, σ2, w2, .panic ?_ he, R2, E⟩
      rw [hcs2, hdsc2]; exact hs'
  | round l args =>
    simp only [bind_ok] at h
    obtain ⟨⟨e, σ2⟩, hcall, h⟩ := h
    obtain ⟨hrun, rfl⟩ := hc
    obtain ⟨fn, tmps, assign, body, hy, hsteps⟩ := HR _ _ _ _ _ hcall ι1 w1 R1 hids.2 hids.1
    obtain ⟨ι2, w2, hs, R2, E2, he⟩ := hsteps (on b M (ds.map (concDef ι)) (.inRegion ops (i :: rest) :: k)) (X.cs ι pan)
    have E := E1.trans E2
    have hs' := Steps.trans (.one (step_roundOp (P := P) (b := b) (ds := ds.map (concDef ι)) (k := k) (cs := X.cs ι pan) (rest := rest) ho hw (hnd (by simp)) (hrun.trans hy))) hs
    rw [after_on ho] at hs'
    have hcs2 : X.cs ι2 pan = X.cs ι pan := X.agree E.agree hpan
    have hdsc2 : ds.map (concDef ι2) = ds.map (concDef ι) := concDs_agree E.agree hds
    cases e with
    | ret v =>
      simp at h; subst h
      refine ⟨ι2, σ2, w2, .go (v := v) ?_ he (idsDs_mono E.k hds) (idsPan_mono E.k pan hpan) hfit, R2, E⟩
      rw [hcs2, hdsc2]; exact hs'
    | panic v =>
      simp at h; subst h
      refine ⟨ι2, σ2, w2, .panic ?_ he, R2, E⟩
      rw [hcs2, hdsc2]; exact hs'

end
end Go.Dt
namespace Go.Dt

section
variable {D : Tab} {P : Program}

structure IdsF (ι : Nat → Loc) (A : Nat → Prop) (X : Ctx) (T : List AV) (ds : List ADef) (pan : Pan) : Prop where
  fit : X.fits pan
  T : idsL ι A T
  ds : idsDs ι A ds
  pan : idsPan ι A pan

/-- a running frame -/
def mach (X : Ctx) (b : Frame) (ι : Nat → Loc) (T : List AV) (ds : List ADef) (pan : Pan) (todo : List Item) (w : World) : Machine :=
  lone (on b (concL ι T).toArray (ds.map (concDef ι)) todo) (X.cs ι pan) w

/-- a frame that begins to unwind -/
def machP (X : Ctx) (b : Frame) (ι : Nat → Loc) (T : List AV) (ds : List ADef) (pan : Pan) (todo : List Item) (v : AV) (w : World) : Machine :=
  lone { on b (concL ι T).toArray (ds.map (concDef ι)) todo with mode := .panicking [{ v := conc ι v, recovered := false }] } (X.cs ι pan) w

theorem mach_agree {X : Ctx} {b : Frame} {ι ι' : Nat → Loc} {σ σ' : St} {w w' w0 : World} {T : List AV} {ds : List ADef} {pan : Pan} {todo : List Item} (I : IdsF ι (· < σ.n) X T ds pan)
    (E : Ext ι σ w ι' σ' w') : mach X b ι' T ds pan todo w0 = mach X b ι T ds pan todo w0 := by
  unfold mach
  rw [concL_agree E.agree T I.T, concDs_agree E.agree I.ds, X.agree E.agree I.pan]

theorem IdsF.ext {X : Ctx} {ι ι' : Nat → Loc} {σ σ' : St} {w w' : World} {T : List AV} {ds : List ADef} {pan : Pan} (I : IdsF ι (· < σ.n) X T ds pan)
    (E : Ext ι σ w ι' σ' w') : IdsF ι' (· < σ'.n) X T ds pan :=
  ⟨I.fit, idsL_mono E.k T I.T, idsDs_mono E.k I.ds, idsPan_mono E.k pan I.pan⟩

inductive RegEnd (P : Program) (X : Ctx) (b : Frame) (ops : Array Oper) (k : List Item) (m : Machine) : OpEnd → (Nat → Loc) → St → World → Prop
  | go {ι' : Nat → Loc} {σ' : St} {w' : World} {T : List AV} {ds : List ADef} {pan : Pan}
      (steps : Steps P m (mach X b ι' T ds pan (.inRegion ops [] :: k) w')) (ids : IdsF ι' (· < σ'.n) X T ds pan) :
      RegEnd P X b ops k m (.go T ds pan σ') ι' σ' w'
  | panic {ι' : Nat → Loc} {σ' : St} {w' : World} {T : List AV} {ds : List ADef} {pan : Pan} {v : AV} (todo : List Item)
      (steps : Steps P m (machP X b ι' T ds pan todo v w')) (ids : IdsF ι' (· < σ'.n) X T ds pan) (hv : Dt.ids ι' (· < σ'.n) v) :
      RegEnd P X b ops k m (.panic v T ds pan σ') ι' σ' w'

theorem RegEnd.of_steps {X : Ctx} {b : Frame} {ops : Array Oper} {k : List Item} {m m1 : Machine} {r : OpEnd} {ι' : Nat → Loc} {σ' : St} {w' : World} (h : Steps P m m1)
    (h' : RegEnd P X b ops k m1 r ι' σ' w') : RegEnd P X b ops k m r ι' σ' w' := by
  cases h' with
  | go s i => exact .go (Steps.trans h s) i
  | panic t s i hv => exact .panic t (Steps.trans h s) i hv

theorem runSeq_ok (F : Fits D P) {call : CallT} {round : RoundT} (HC : CallOK D P call) (HR : RoundOK D P round) {isRound : Bool} {X : Ctx} {b : Frame} (hk : b.kind = X.kind)
    (hround : b.roundOf = none ↔ isRound = false) {ops : Array Oper} {k : List Item} : ∀ (l : List Oper) (i : Nat), ops.toList.drop i = l →
    ∀ {ι : Nat → Loc} {σ : St} {w : World} {T : List AV} {ds : List ADef} {pan : Pan} {r : OpEnd}, Rep D ι σ w → IdsF ι (· < σ.n) X T ds pan →
    runSeq D call round isRound ops l T ds pan σ = .ok r →
    ∃ ι' σ' w', RegEnd P X b ops k (mach X b ι T ds pan (.inRegion ops (List.range' i l.length) :: k) w) r ι' σ' w' ∧ Rep D ι' σ' w' ∧ Ext ι σ w ι' σ' w' := by
  intro l
  induction l with
  | nil =>
    intro i _ ι σ w T ds pan r R I h
    simp [runSeq] at h
    subst h
    exact ⟨ι, σ, w, .go (Steps.refl _ _) I, R, Ext.refl _ _ _⟩
  | cons o l ih =>
    intro i hd ι σ w T ds pan r R I h
    have ho : ops[i]? = some o := by
      have h1 : ops.toList[i]? = some o := by
        have : (ops.toList.drop i)[0]? = some o := by rw [hd]; rfl
        rwa [List.getElem?_drop, Nat.add_zero] at this
      simpa using h1
    have hd' : ops.toList.drop (i + 1) = l := by
      rw [← List.tail_drop, hd, List.tail_cons]
    have hrange : List.range' i (o :: l).length = i :: List.range' (i + 1) l.length := by simp [List.range'_succ]
    rw [hrange]
    simp only [runSeq] at h
    split at h
    · rename_i hwant
      simp only [bind_ok] at h
      obtain ⟨r1, h1, h⟩ := h
      have hw : Region.wanted o (yielded ops (concL ι T).toArray) = true := by rw [wanted_conc]; exact hwant
      obtain ⟨ι1, σ1, w1, h2, R1, E1⟩ := runOne_ok F HC HR hk hround R ho hw (rest := List.range' (i + 1) l.length) (k := k) (by rw [evT_eq R]) (fun x _ => evalO_ids R R.glob_lt I.T x) I.ds I.pan I.fit h1
      cases h2 with
      | go steps hv hds hpan hfit =>
        simp only at h
        rw [putV_agree E1 I.T] at steps
        have I1 : IdsF ι1 (· < σ1.n) X _ _ _ := ⟨hfit, put_ids (idsL_mono E1.k T I.T) hv o.dst, hds, hpan⟩
        obtain ⟨ι2, σ2, w2, h3, R2, E2⟩ := ih (i + 1) hd' R1 I1 h
        exact ⟨ι2, σ2, w2, .of_steps steps h3, R2, E1.trans E2⟩
      | panic steps hv =>
        simp at h
        subst h
        refine ⟨ι1, σ1, w1, .panic (.inRegion ops (i :: List.range' (i + 1) l.length) :: k) ?_ (I.ext E1) hv, R1, E1⟩
        unfold mach machP
        rw [concL_agree E1.agree T I.T]
        exact steps
    · rename_i hwant
      have I1 : IdsF ι (· < σ.n) X (put T o.dst .undef) ds pan := ⟨I.fit, put_ids I.T (ids_undef _ _) o.dst, I.ds, I.pan⟩
      obtain ⟨ι2, σ2, w2, h3, R2, E2⟩ := ih (i + 1) hd' R I1 h
      refine ⟨ι2, σ2, w2, .of_steps (.one ?_) h3, R2, E2⟩
      have := step_unwanted (P := P) (b := b) (ds := ds.map (concDef ι)) (k := k) (cs := X.cs ι pan) (w := w) (T := (concL ι T).toArray) (ops := ops) (i := i) (rest := List.range' (i + 1) l.length) (o := o)
        (by simp [ho, wanted_conc, hwant]) ho
      unfold mach
      rw [this, ← conc_undef ι, putV_conc]

end
end Go.Dt
