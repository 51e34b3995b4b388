/-
  Operations that read memory. No statement of this seat stands here.
-/
import Derived.Laws.BytesString
import Derived.Test.YtolakgfoodndpaaGreatDoorDtRep
import Derived.Laws.Cells
namespace Go.Dt
section
variable {D : Tab} {P : Program} (F : Fits D P) {ι : Nat → Loc} {σ : St} {w : World}

theorem cellsOf_ok {b : Nat} {cs : List AV} (h : cellsOf σ b = .ok cs) : b < σ.n ∧ ∃ elem own sz, σ.getO b = .cells cs elem own sz := by
  unfold cellsOf at h
  split at h
  · rename_i hb
    split at h
    · rename_i cs' e o s heq
      simp at h; subst h
      exact ⟨hb, e, o, s, heq⟩
    · simp at h
  · simp at h

theorem Rep.cell (R : Rep D ι σ w) {b i : Nat} {cs : List AV} {elem : TypeId} {own : Bool} {sz : Nat} {v : AV} (hb : b < σ.n)
    (ho : σ.getO b = .cells cs elem own sz) (hv : cs[i]? = some v) : w.cell? ((ι b).at i) = some (conc ι v) ∧ ids ι (· < σ.n) v := by
  have := R.obj b hb
  rw [ho] at this
  obtain ⟨h1, h2, arr, fz, h3, h4, h5⟩ := this
  refine ⟨?_, idsL_get h1 hv⟩
  simp only [World.cell?, Loc.at, h3]
  simpa using h4 i v hv

theorem takeN_ok {cs l : List AV} {o n : Nat} (h : takeN cs o n = .ok l) : l = (cs.drop o).take n ∧ l.length = n := by
  unfold takeN at h
  split at h
  · rename_i hl
    simp at h; subst h; exact ⟨rfl, hl⟩
  · simp at h

theorem Rep.loadCells (R : Rep D ι σ w) {b o n : Nat} {cs l : List AV} {elem : TypeId} {own : Bool} {sz : Nat} (hb : b < σ.n)
    (ho : σ.getO b = .cells cs elem own sz) (hl : takeN cs o n = .ok l) :
    (Go.loadCells ((ι b).at o) n).run P w = .ok (concL ι l).toArray w ∧ idsL ι (· < σ.n) l := by
  obtain ⟨h1, h2⟩ := takeN_ok hl
  have hids : idsL ι (· < σ.n) cs := by
    have := R.obj b hb
    rw [ho] at this
    exact this.1
  refine ⟨?_, by rw [h1]; exact idsL_take (idsL_drop hids _) _⟩
  have := run_loadCells_list (P := P) w ((ι b).at o) (concL ι l) (fun j v hj => by
    rw [at_add]
    simp only [concL_getElem?, Option.map_eq_some_iff] at hj
    obtain ⟨x, hx, rfl⟩ := hj
    refine (R.cell hb ho ?_).1
    rw [h1] at hx
    rw [List.getElem?_take] at hx
    split at hx
    · simpa using hx
    · simp at hx)
  simpa [h2] using this

include F
theorem run_loadV (R : Rep D ι σ w) {t : Nat} {a v : AV} (h : loadV D σ t a = .ok v) :
    (Instr.loadAt t (conc ι a)).run P w = .ok (conc ι v) w ∧ ids ι (· < σ.n) v := by
  unfold loadV at h
  split at h
  · rename_i b o
    simp only [bind_ok] at h
    obtain ⟨cs, hcs, d, hd, h⟩ := h
    obtain ⟨hb, elem, own, sz, ho⟩ := cellsOf_ok hcs
    simp only [Instr.loadAt, conc, Instr.sureAddr, Sem.run_bind, Sem.run_pure, Result.andThen_ok, loadVar, run_isAgg F w hd, Sem.run_ite]
    split at h
    · rename_i hagg
      simp only [bind_ok, pure_ok] at h
      obtain ⟨n, hn, l, hl, rfl⟩ := h
      have := R.loadCells (P := P) hb ho hl
      rw [if_pos hagg]
      simp only [Sem.run_bind, run_size F w hn, Result.andThen_ok, this.1, Sem.run_pure, conc]
      exact ⟨trivial, this.2⟩
    · rename_i hagg
      rw [if_neg hagg]
      split at h
      · rename_i x hx
        simp at h; subst h
        have := R.cell hb ho hx
        exact ⟨by simp [this.1], this.2⟩
      · simp at h
  · simp at h

/- maps -/

omit F in
theorem mapOf_ok (R : Rep D ι σ w) {x : AV} {es : List (AV × AV × Nat)} {clock : Nat} (h : mapOf σ x = .ok (es, clock)) :
    (∀ e, e ∈ es → ids ι (· < σ.n) e.1 ∧ ids ι (· < σ.n) e.2.1) ∧
    ((x = .base (.map none) ∧ es = []) ∨ ∃ b, x = .mapv b ∧ b < σ.n ∧ σ.getO b = .map es clock ∧ (ι b).shift = 0 ∧ w.heap[(ι b).block]? = some (.map (es.map (concEntry ι)).toArray clock)) := by
  unfold mapOf at h
  split at h
  · simp at h; obtain ⟨rfl, rfl⟩ := h; simp
  · rename_i b
    split at h
    · rename_i hb
      split at h
      · rename_i es' cl heq
        simp at h
        obtain ⟨rfl, rfl⟩ := h
        have := R.obj b hb
        rw [heq] at this
        exact ⟨this.2.2, .inr ⟨b, rfl, hb, heq, this.1, this.2.1⟩⟩
      · simp at h
    · simp at h
  · simp at h

theorem run_checkFields {d n : Nat} {emp : Bool} {rec_ : Nat → AV → AV → R Bool}
    (hrec : ∀ t x, plainKey D d t = true → rec_ t x x = .ok true → (Instr.checkKey emp n t (conc ι x)).run P w = .ok () w) {xs : List AV} :
    ∀ (fs : List Field), plainFields (plainKey D d) fs = true → eqFields D rec_ xs xs fs = .ok true →
      ((forIn fs PUnit.unit fun f _ =>
          if f.name ≠ "_" then do
            let a ← Go.part f.type (concL ι xs).toArray f.offset
            Instr.checkKey emp n f.type a
            pure (ForInStep.yield PUnit.unit)
          else pure (ForInStep.yield PUnit.unit)) : Sem PUnit).run P w = .ok PUnit.unit w := by
  intro fs
  induction fs with
  | nil => intro _ _; simp
  | cons f fs ih =>
    intro hp h
    simp only [plainFields, Bool.and_eq_true, bne_iff_ne] at hp
    obtain ⟨⟨hn, hf⟩, hfs⟩ := hp
    simp only [eqFields] at h
    rw [if_neg hn] at h
    simp only [bind_ok] at h
    obtain ⟨x, hx, y, hy, r, hr, h⟩ := h
    have hxy : x = y := by rw [hx] at hy; simpa using hy
    subst hxy
    cases r with
    | false => simp at h
    | true =>
      have h' : eqFields D rec_ xs xs fs = .ok true := by simpa using h
      have := hrec _ _ hf hr
      simp only [List.forIn_cons, Sem.run_bind, Sem.run_ite, hn, ne_eq, not_false_eq_true, if_true, run_part F w hx, Result.andThen_ok, this, Sem.run_pure]
      exact ih hfs h'

theorem run_checkElems {d n : Nat} {emp : Bool} {rec_ : Nat → AV → AV → R Bool} {elem sz : Nat} (hp : plainKey D d elem = true) (hsz : size D elem = .ok sz)
    (hrec : ∀ t x, plainKey D d t = true → rec_ t x x = .ok true → (Instr.checkKey emp n t (conc ι x)).run P w = .ok () w) {xs : List AV} :
    ∀ (m i : Nat), eqElems D rec_ elem sz xs xs m i = .ok true →
      ((forIn (List.range' i m) PUnit.unit fun i _ => do
          let s ← sizeOf elem
          let a ← Go.part elem (concL ι xs).toArray (i * s)
          Instr.checkKey emp n elem a
          pure (ForInStep.yield PUnit.unit)) : Sem PUnit).run P w = .ok PUnit.unit w := by
  intro m
  induction m with
  | zero => intro i _; simp
  | succ m ih =>
    intro i h
    simp only [eqElems, bind_ok] at h
    obtain ⟨x, hx, y, hy, r, hr, h⟩ := h
    have hxy : x = y := by rw [hx] at hy; simpa using hy
    subst hxy
    cases r with
    | false => simp at h
    | true =>
      have h' : eqElems D rec_ elem sz xs xs m (i + 1) = .ok true := by simpa using h
      have := hrec _ _ hp hr
      simp only [List.range'_succ, List.forIn_cons, Sem.run_bind, run_size F w hsz, run_part F w hx, Result.andThen_ok, this, Sem.run_pure]
      exact ih _ h'

theorem run_checkKey {emp : Bool} : ∀ (d n t : Nat) (x : AV) (k : Nat), plainKey D d t = true → eqV D k t x x = .ok true → d ≤ n →
    (Instr.checkKey emp n t (conc ι x)).run P w = .ok () w := by
  intro d
  induction d with
  | zero => intro n t x k h; simp [plainKey] at h
  | succ d ih =>
    intro n t x k h hk hn
    obtain ⟨n, rfl⟩ : ∃ j, n = j + 1 := ⟨n - 1, by omega⟩
    obtain ⟨k, rfl⟩ : ∃ j, k = j + 1 := ⟨k - 1, by cases k with | zero => simp [eqV] at hk | succ k => simp⟩
    unfold plainKey at h
    simp only [eqV, bind_ok] at hk
    obtain ⟨ty, hty, hk⟩ := hk
    rw [hty] at h
    simp only [Instr.checkKey, Sem.run_bind, run_und F w hty, Result.andThen_ok]
    split at h
    · rename_i heq; cases heq; simp
    · rename_i heq; cases heq; simp
    · rename_i heq; cases heq; simp
    · rename_i fs heq
      cases heq
      cases x with
      | agg xs =>
        simp only at hk
        split at hk
        · simp only [conc]
          have := run_checkFields F (emp := emp) (n := n) (w := w) (ι := ι) (fun t x hp he => ih n t x k hp he (by omega)) _ h hk
          simp only [Sem.run_bind, ← Array.forIn_toList, this, Result.andThen_ok, Sem.run_pure]
        · simp at hk
      | _ => simp [eqLeaf] at hk
    · rename_i len elem heq
      cases heq
      cases x with
      | agg xs =>
        simp only [bind_ok] at hk
        obtain ⟨sz, hsz, hk⟩ := hk
        simp only [conc]
        have := run_checkElems F (emp := emp) (n := n) (w := w) (ι := ι) h hsz (fun t x hp he => ih n t x k hp he (by omega)) _ _ hk
        simp only [Std.Legacy.Range.forIn_eq_forIn_range', Std.Legacy.Range.size, Nat.sub_zero, Nat.add_one_sub_one, Nat.div_one]
        simp only [Sem.run_bind, this, Result.andThen_ok, Sem.run_pure]
      | _ => simp [eqLeaf] at hk
    · simp at h

omit F in
theorem run_sameNow {d t : Nat} {kind : TypeDesc} {x y : Value} {b : Bool} (ht : P.underlying t = some kind) (h : Instr.sameNow kind x y = some b) :
    (Op.equalIn (d + 1) t x y).run P w = .ok b w := by
  unfold Instr.sameNow at h
  split at h
  · split at h
    · rename_i hk
      subst hk
      simp at h; subst h
      simp [Op.equalIn, run_underlying ht]
    · simp at h
  · simp at h; subst h
    simp [Op.equalIn, run_underlying ht]
  · simp at h; subst h
    simp [Op.equalIn, run_underlying ht]
  · simp at h

theorem run_findKey {t : Nat} {k : AV} {kind : TypeDesc} (ht : und D t = .ok kind) : ∀ (es : List (AV × AV × Nat)) (i : Nat) (r : Option (Nat × AV)), findKey D t k es i = .ok r →
    (∀ r', Instr.findNow kind (conc ι k) (es.map (concEntry ι)) i = some r' → r' = r.map fun p => (p.1, conc ι p.2)) ∧
    (Instr.findAsking t (conc ι k) (es.map (concEntry ι)) i).run P w = .ok (r.map fun p => (p.1, conc ι p.2)) w := by
  intro es
  induction es with
  | nil => intro i r h; simp [findKey] at h; subst h; simp [Instr.findNow, Instr.findAsking]
  | cons e es ih =>
    obtain ⟨k', v, s⟩ := e
    intro i r h
    simp only [findKey, bind_ok] at h
    obtain ⟨b, hb, h⟩ := h
    have heq := run_eqV F (ι := ι) w 10 t k k' b hb 10000 (by omega)
    refine ⟨fun r' hr' => ?_, ?_⟩
    · simp only [List.map_cons, Instr.findNow, concEntry] at hr'
      cases hs : Instr.sameNow kind (conc ι k) (conc ι k') with
      | none => rw [hs] at hr'; simp at hr'
      | some c =>
        have hc : b = c := by
          have h1 := run_sameNow (d := 9999) (w := w) (und_ok F ht) hs
          rw [heq] at h1
          simpa using h1
        subst hc
        rw [hs] at hr'
        cases b with
        | true => simp at hr' h; subst hr'; subst h; rfl
        | false => exact (ih (i + 1) r (by simpa using h)).1 r' hr'
    · simp only [List.map_cons, Instr.findAsking, Sem.run_bind, concEntry, Op.equal, Op.maxDepth, heq, Result.andThen_ok, Sem.run_ite]
      cases b with
      | true => simp at h; subst h; simp
      | false => simpa using (ih (i + 1) r (by simpa using h)).2

theorem run_findKey' {t : Nat} {k : AV} {kind : TypeDesc} (ht : und D t = .ok kind) {es : List (AV × AV × Nat)} {r : Option (Nat × AV)} (h : findKey D t k es 0 = .ok r) :
    (Instr.findKey t (conc ι k) (es.map (concEntry ι))).run P w = .ok (r.map fun p => (p.1, conc ι p.2)) w := by
  obtain ⟨h1, h2⟩ := run_findKey F (ι := ι) (w := w) ht es 0 r h
  simp only [Instr.findKey, Sem.run_bind, run_und F w ht, Result.andThen_ok]
  split
  · rename_i r' hr'
    rw [h1 r' hr']; simp
  · exact h2

omit F in
theorem findKey_mem {t : Nat} {k : AV} : ∀ (es : List (AV × AV × Nat)) (i : Nat) (j : Nat) (v : AV), findKey D t k es i = .ok (some (j, v)) →
    ∃ e, es[j - i]? = some e ∧ i ≤ j ∧ e.2.1 = v ∧ eqV D 10 t k e.1 = .ok true := by
  intro es
  induction es with
  | nil => intro i j v h; simp [findKey] at h
  | cons e es ih =>
    obtain ⟨k', v', s⟩ := e
    intro i j v h
    simp only [findKey, bind_ok] at h
    obtain ⟨b, hb, h⟩ := h
    cases b with
    | true => simp at h; obtain ⟨rfl, rfl⟩ := h; exact ⟨(k', v', s), by simp, Nat.le_refl _, rfl, hb⟩
    | false =>
      obtain ⟨e, h1, h2, h3, h4⟩ := ih (i + 1) j v (by simpa using h)
      refine ⟨e, ?_, by omega, h3, h4⟩
      have : j - i = (j - (i + 1)) + 1 := by omega
      rw [this]; simpa using h1

omit F in
theorem plainKey_und {d t : Nat} (h : plainKey D d t = true) : ∃ ty, und D t = .ok ty := by
  cases d with
  | zero => simp [plainKey] at h
  | succ d =>
    unfold plainKey at h
    split at h <;> first | exact ⟨_, ‹_›⟩ | (simp at h)

theorem run_lookupV (R : Rep D ι σ w) {t : Nat} {x ix v : AV} {ok : Bool} (h : lookupV D σ t x ix ok = .ok v) :
    (Instr.lookup t (conc ι x) (conc ι ix) ok).run P w = .ok (conc ι v) w ∧ ids ι (· < σ.n) v := by
  simp only [lookupV, bind_ok] at h
  obtain ⟨d, hd, h⟩ := h
  split at h
  · rename_i key elem
    split at h
    · rename_i hpk
      simp only [bind_ok] at h
      obtain ⟨⟨es, clock⟩, hm, b, hb, h⟩ := h
      cases b with
      | false => simp at h
      | true =>
        simp only [Bool.not_true, Bool.false_eq_true, if_false, bind_ok] at h
        obtain ⟨r, hr, h⟩ := h
        obtain ⟨hids, hx⟩ := mapOf_ok R hm
        obtain ⟨kd, hkd⟩ := plainKey_und hpk
        have hfk := run_findKey' F (ι := ι) (w := w) hkd hr
        have hck : ∀ emp, (Instr.checkKey emp 10000 key (conc ι ix)).run P w = .ok () w := fun emp => run_checkKey F 10 10000 key ix 10 hpk hb (by omega)
        have hids' : ids ι (· < σ.n) v := by
          cases r with
          | none =>
            simp only [bind_ok, pure_ok] at h
            obtain ⟨z, hz, rfl⟩ := h
            cases ok <;> simp [ids, idsL, boolV, zero_ids hz]
          | some p =>
            obtain ⟨j, y⟩ := p
            simp at h; subst h
            obtain ⟨e, h1, _, h3, _⟩ := findKey_mem _ _ _ _ hr
            have hy : ids ι (· < σ.n) y := h3 ▸ (hids e (List.mem_of_getElem? h1)).2
            cases ok <;> simp [ids, idsL, boolV, hy]
        refine ⟨?_, hids'⟩
        simp only [Instr.lookup, Sem.run_bind, run_und F w hd, Result.andThen_ok]
        rcases hx with ⟨rfl, rfl⟩ | ⟨bb, rfl, hbb, _, _, hheap⟩
        · simp only [conc, Sem.run_bind, Sem.run_pure, Result.andThen_ok, hck]
          have hfk0 : (Instr.findKey key (conc ι ix) []).run P w = .ok (r.map fun p => (p.1, conc ι p.2)) w := by simpa using hfk
          simp only [hfk0, Result.andThen_ok]
          cases r with
          | none =>
            simp only [bind_ok, pure_ok] at h
            obtain ⟨z, hz, rfl⟩ := h
            simp only [Option.map_none, Sem.run_bind, run_zero F (ι := ι) w hz, Result.andThen_ok, Sem.run_pure]
            cases ok <;> simp [conc, concL, boolV]
          | some p =>
            obtain ⟨j, y⟩ := p
            simp at h; subst h
            simp only [Option.map_some, Sem.run_bind, Sem.run_pure, Result.andThen_ok]
            cases ok <;> simp [conc, concL, boolV]
        · have hg : (getObj (ι bb).block).run P w = .ok (.map (es.map (concEntry ι)).toArray clock) w := by
            simp [getObj, Sem.run, hheap]
          simp only [conc, Sem.run_bind, hg, Result.andThen_ok, Sem.run_pure, hck, hfk]
          cases r with
          | none =>
            simp only [bind_ok, pure_ok] at h
            obtain ⟨z, hz, rfl⟩ := h
            simp only [Option.map_none, Sem.run_bind, run_zero F (ι := ι) w hz, Result.andThen_ok, Sem.run_pure]
            cases ok <;> simp [conc, concL, boolV]
          | some p =>
            obtain ⟨j, y⟩ := p
            simp at h; subst h
            simp only [Option.map_some, Sem.run_bind, Sem.run_pure, Result.andThen_ok]
            cases ok <;> simp [conc, concL, boolV]
    · simp at h
  · simp at h

omit F in
theorem bytesL_ok (ι : Nat → Loc) : ∀ {l : List AV} {r : List UInt8}, bytesL l = .ok r → ∃ ns : List Int, concL ι l = ns.map (Value.int .u8) ∧ r = ns.map fun n => UInt8.ofNat n.toNat
  | [], r, h => by
    simp [bytesL] at h
    subst h
    exact ⟨[], rfl, rfl⟩
  | x :: l, r, h => by
    unfold bytesL at h
    split at h
    · rename_i heq; cases heq
    · rename_i n l' heq
      simp only [List.cons.injEq] at heq
      obtain ⟨rfl, rfl⟩ := heq
      simp only [bind_ok, pure_ok] at h
      obtain ⟨r', h1, rfl⟩ := h
      obtain ⟨ns, h2, h3⟩ := bytesL_ok ι h1
      exact ⟨n :: ns, by simp [concL, conc, h2], by simp [h3]⟩
    · simp at h

omit F in
theorem foldl_push : ∀ (ns : List Int) (a : ByteArray), ns.foldl (fun r n => r.push (UInt8.ofNat n.toNat)) a = ⟨⟨a.data.toList ++ ns.map fun n => UInt8.ofNat n.toNat⟩⟩
  | [], a => by simp
  | n :: ns, a => by
    simp only [List.foldl_cons]
    rw [foldl_push ns]
    simp [ByteArray.push]

theorem run_convR (R : Rep D ι σ w) {s d : Nat} {x v : AV} (h : convR D σ s d x = .ok v) : (Go.convert s d (conc ι x)).run P w = .ok (conc ι v) w ∧ ids ι (· < σ.n) v := by
  unfold convR at h
  split at h
  · rename_i v' hv
    simp at h; subst h
    refine ⟨run_convertV F (ι := ι) w hv, ?_⟩
    simp only [convertV, bind_ok] at hv
    obtain ⟨_, _, _, _, hv⟩ := hv
    split at hv <;> simp at hv <;> subst hv <;> trivial
  · simp only [bytesV, bind_ok] at h
    obtain ⟨st, hst, dt, hdt, h⟩ := h
    split at h
    · rename_i el
      simp only [bind_ok] at h
      obtain ⟨et, het, h⟩ := h
      split at h
      · simp at h; subst h
        refine ⟨?_, trivial⟩
        simp only [Go.convert, Sem.run_bind, run_und F w hst, run_und F w hdt, run_und F w het, Result.andThen_ok, conc, Conv.bytesToString, Sem.run_pure, str]
        rfl
      · simp only [bind_ok, pure_ok] at h
        obtain ⟨cs, hcs, l, hl, r, hr, rfl⟩ := h
        obtain ⟨hbn, elem, own, sz', ho⟩ := cellsOf_ok hcs
        obtain ⟨h1, h2⟩ := R.loadCells (P := P) hbn ho hl
        obtain ⟨ns, h3, rfl⟩ := bytesL_ok ι hr
        refine ⟨?_, trivial⟩
        rw [h3] at h1
        generalize hc : conc ι (AV.slice _ _ _ _ _) = cv
        obtain ⟨c, hc'⟩ := conc_slice ι _ _ _ _ _
        rw [hc'] at hc
        subst hc
        simp only [Go.convert, Sem.run_bind, run_und F w hst, run_und F w hdt, run_und F w het, Result.andThen_ok, run_bytesToString w _ _ c ns h1, conc, str, foldl_push]
        rfl
      · simp at h
    · simp at h

theorem readOp_run (R : Rep D ι σ w) {e : Operand → AV} {o : Oper} {v : AV} (h : readOp D σ e o.op = .ok v) :
    (Go.execOp (fun x => conc ι (e x)) o).run P w = .ok (.value (conc ι v)) w ∧ ids ι (· < σ.n) v := by
  unfold Go.execOp
  generalize o.op = op at h
  unfold readOp at h
  split at h
  · have := run_loadV F R h
    exact ⟨by simp [this.1], this.2⟩
  · have := run_lookupV F R h
    exact ⟨by simp [this.1], this.2⟩
  · have := run_convR F R h
    exact ⟨by simp [this.1], this.2⟩
  · simp at h

end
end Go.Dt
