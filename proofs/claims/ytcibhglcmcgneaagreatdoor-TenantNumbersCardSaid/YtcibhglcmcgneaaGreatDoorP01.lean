/-
  Operations that read memory. No statement of this seat stands here.
-/
import Derived.Laws.BytesString
import Derived.Test.YtcibhglcmcgneaaGreatDoorP00
import Derived.Laws.Cells
import Derived.IntWalk
namespace Go.Dt
section
variable {D : Tab} {P : Program} (F : Fits D P) {ι : Nat → Loc} {σ : St} {w : World}

theorem cellsOf_ok {b : Nat} {cs : List AV} (h : cellsOf σ b = .ok cs) : b < σ.n ∧ ∃ elem own sz, σ.getO b = .cells cs elem own sz := by
  unfold cellsOf at h
  split at h
  · rename_i hb
    split at h
    · rename_i cs' e o s heq
      simp at h; subst h
      exact ⟨hb, e, o, s, heq⟩
    · simp at h
  · simp at h

theorem Rep.cell (R : Rep D ι σ w) {b i : Nat} {cs : List AV} {elem : TypeId} {own : Bool} {sz : Nat} {v : AV} (hb : b < σ.n)
    (ho : σ.getO b = .cells cs elem own sz) (hv : cs[i]? = some v) : w.cell? ((ι b).at i) = some (conc ι v) ∧ ids ι (· < σ.n) v := by
  have := R.obj b hb
  rw [ho] at this
  obtain ⟨h1, h2, arr, fz, h3, h4, h5⟩ := this
  refine ⟨?_, idsL_get h1 hv⟩
  simp only [World.cell?, Loc.at, h3]
  simpa using h4 i v hv

theorem takeN_ok {cs l : List AV} {o n : Nat} (h : takeN cs o n = .ok l) : l = (cs.drop o).take n ∧ l.length = n := by
  unfold takeN at h
  split at h
  · rename_i hl
    simp at h; subst h; exact ⟨rfl, hl⟩
  · simp at h

theorem Rep.loadCells (R : Rep D ι σ w) {b o n : Nat} {cs l : List AV} {elem : TypeId} {own : Bool} {sz : Nat} (hb : b < σ.n)
    (ho : σ.getO b = .cells cs elem own sz) (hl : takeN cs o n = .ok l) :
    (Go.loadCells ((ι b).at o) n).run P w = .ok (concL ι l).toArray w ∧ idsL ι (· < σ.n) l := by
  obtain ⟨h1, h2⟩ := takeN_ok hl
  have hids : idsL ι (· < σ.n) cs := by
    have := R.obj b hb
    rw [ho] at this
    exact this.1
  refine ⟨?_, by rw [h1]; exact idsL_take (idsL_drop hids _) _⟩
  have := run_loadCells_list (P := P) w ((ι b).at o) (concL ι l) (fun j v hj => by
    rw [at_add]
    simp only [concL_getElem?, Option.map_eq_some_iff] at hj
    obtain ⟨x, hx, rfl⟩ := hj
    refine (R.cell hb ho ?_).1
    rw [h1] at hx
    rw [List.getElem?_take] at hx
    split at hx
    · simpa using hx
    · simp at hx)
  simpa [h2] using this

include F
theorem run_loadV (R : Rep D ι σ w) {t : Nat} {a v : AV} (h : loadV D σ t a = .ok v) :
    (Instr.loadAt t (conc ι a)).run P w = .ok (conc ι v) w ∧ ids ι (· < σ.n) v := by
  unfold loadV at h
  split at h
  · rename_i b o
    simp only [bind_ok] at h
    obtain ⟨cs, hcs, d, hd, h⟩ := h
    obtain ⟨hb, elem, own, sz, ho⟩ := cellsOf_ok hcs
    simp only [Instr.loadAt, conc, Instr.sureAddr, Sem.run_bind, Sem.run_pure, Result.andThen_ok, loadVar, run_isAgg F w hd, Sem.run_ite]
    split at h
    · rename_i hagg
      simp only [bind_ok, pure_ok] at h
      obtain ⟨n, hn, l, hl, rfl⟩ := h
      have := R.loadCells (P := P) hb ho hl
      rw [if_pos hagg]
      simp only [run_size F w hn, Result.andThen_ok, this.1, conc]
      exact ⟨trivial, this.2⟩
    · rename_i hagg
      rw [if_neg hagg]
      split at h
      · rename_i x hx
        simp at h; subst h
        have := R.cell hb ho hx
        exact ⟨by simp [this.1], this.2⟩
      · simp at h
  · simp at h

/- maps -/

omit F in
theorem mapOf_ok (R : Rep D ι σ w) {x : AV} {es : List (AV × AV × Nat)} {clock : Nat} (h : mapOf σ x = .ok (es, clock)) :
    (∀ e, e ∈ es → ids ι (· < σ.n) e.1 ∧ ids ι (· < σ.n) e.2.1) ∧
    ((x = .base (.map none) ∧ es = []) ∨ ∃ b, x = .mapv b ∧ b < σ.n ∧ σ.getO b = .map es clock ∧ (ι b).shift = 0 ∧ w.heap[(ι b).block]? = some (.map (es.map (concEntry ι)).toArray clock)) := by
  unfold mapOf at h
  split at h
  · simp at h; obtain ⟨rfl, rfl⟩ := h; simp
  · rename_i b
    split at h
    · rename_i hb
      split at h
      · rename_i es' cl heq
        simp at h
        obtain ⟨rfl, rfl⟩ := h
        have := R.obj b hb
        rw [heq] at this
        exact ⟨this.2.2, .inr ⟨b, rfl, hb, heq, this.1, this.2.1⟩⟩
      · simp at h
    · simp at h
  · simp at h

theorem run_checkFields {d n : Nat} {emp : Bool} {rec_ : Nat → AV → AV → R Bool}
    (hrec : ∀ t x, plainKey D d t = true → rec_ t x x = .ok true → (Instr.checkKey emp n t (conc ι x)).run P w = .ok () w) {xs : List AV} :
    ∀ (fs : List Field), plainFields (plainKey D d) fs = true → eqFields D rec_ xs xs fs = .ok true →
      ((forIn fs PUnit.unit fun f _ =>
          if f.name ≠ "_" then do
            let a ← Go.part f.type (concL ι xs).toArray f.offset
            Instr.checkKey emp n f.type a
            pure (ForInStep.yield PUnit.unit)
          else pure (ForInStep.yield PUnit.unit)) : Sem PUnit).run P w = .ok PUnit.unit w := by
  intro fs
  induction fs with
  | nil => intro _ _; simp
  | cons f fs ih =>
    intro hp h
    simp only [plainFields, Bool.and_eq_true, bne_iff_ne] at hp
    obtain ⟨⟨hn, hf⟩, hfs⟩ := hp
    simp only [eqFields] at h
    rw [if_neg hn] at h
    simp only [bind_ok] at h
    obtain ⟨x, hx, y, hy, r, hr, h⟩ := h
    have hxy : x = y := by rw [hx] at hy; simpa using hy
    subst hxy
    cases r with
    | false => simp at h
    | true =>
      have h' : eqFields D rec_ xs xs fs = .ok true := by simpa using h
      have := hrec _ _ hf hr
      simp only [List.forIn_cons, Sem.run_bind, hn, ne_eq, not_false_eq_true, if_true, run_part F w hx, Result.andThen_ok, this, Sem.run_pure]
      exact ih hfs h'

theorem run_checkElems {d n : Nat} {emp : Bool} {rec_ : Nat → AV → AV → R Bool} {elem sz : Nat} (hp : plainKey D d elem = true) (hsz : size D elem = .ok sz)
    (hrec : ∀ t x, plainKey D d t = true → rec_ t x x = .ok true → (Instr.checkKey emp n t (conc ι x)).run P w = .ok () w) {xs : List AV} :
    ∀ (m i : Nat), eqElems D rec_ elem sz xs xs m i = .ok true →
      ((forIn (List.range' i m) PUnit.unit fun i _ => do
          let s ← sizeOf elem
          let a ← Go.part elem (concL ι xs).toArray (i * s)
          Instr.checkKey emp n elem a
          pure (ForInStep.yield PUnit.unit)) : Sem PUnit).run P w = .ok PUnit.unit w := by
  intro m
  induction m with
  | zero => intro i _; simp
  | succ m ih =>
    intro i h
    simp only [eqElems, bind_ok] at h
    obtain ⟨x, hx, y, hy, r, hr, h⟩ := h
    have hxy : x = y := by rw [hx] at hy; simpa using hy
    subst hxy
    cases r with
    | false => simp at h
    | true =>
      have h' : eqElems D rec_ elem sz xs xs m (i + 1) = .ok true := by simpa using h
      have := hrec _ _ hp hr
      simp only [List.range'_succ, List.forIn_cons, Sem.run_bind, run_size F w hsz, run_part F w hx, Result.andThen_ok, this, Sem.run_pure]
      exact ih _ h'

theorem run_checkKey {emp : Bool} : ∀ (d n t : Nat) (x : AV) (k : Nat), plainKey D d t = true → eqV D k t x x = .ok true → d ≤ n →
    (Instr.checkKey emp n t (conc ι x)).run P w = .ok () w := by
  intro d
  induction d with
  | zero => intro n t x k h; simp [plainKey] at h
  | succ d ih =>
    intro n t x k h hk hn
    obtain ⟨n, rfl⟩ : ∃ j, n = j + 1 := ⟨n - 1, by omega⟩
    obtain ⟨k, rfl⟩ : ∃ j, k = j + 1 := ⟨k - 1, by cases k with | zero => simp [eqV] at hk | succ k => simp⟩
    unfold plainKey at h
    simp only [eqV, bind_ok] at hk
    obtain ⟨ty, hty, hk⟩ := hk
    rw [hty] at h
    simp only [Instr.checkKey, Sem.run_bind, run_und F w hty, Result.andThen_ok]
    split at h
    · rename_i heq; cases heq; simp
    · rename_i heq; cases heq; simp
    · rename_i heq; cases heq; simp
    · rename_i fs heq
      cases heq
      cases x with
      | agg xs =>
        simp only at hk
        split at hk
        · simp only [conc]
          have := run_checkFields F (emp := emp) (n := n) (w := w) (ι := ι) (fun t x hp he => ih n t x k hp he (by omega)) _ h hk
          simp only [Sem.run_bind, ← Array.forIn_toList, this, Result.andThen_ok, Sem.run_pure]
        · simp at hk
      | _ => simp [eqLeaf] at hk
    · rename_i len elem heq
      cases heq
      cases x with
      | agg xs =>
        simp only [bind_ok] at hk
        obtain ⟨sz, hsz, hk⟩ := hk
        simp only [conc]
        have := run_checkElems F (emp := emp) (n := n) (w := w) (ι := ι) h hsz (fun t x hp he => ih n t x k hp he (by omega)) _ _ hk
        simp only [Std.Legacy.Range.forIn_eq_forIn_range', Std.Legacy.Range.size, Nat.sub_zero, Nat.add_one_sub_one, Nat.div_one]
        simp only [Sem.run_bind, this, Result.andThen_ok, Sem.run_pure]
      | _ => simp [eqLeaf] at hk
    · simp at h

omit F in
theorem run_sameNow {d t : Nat} {kind : TypeDesc} {x y : Value} {b : Bool} (ht : P.underlying t = some kind) (h : Instr.sameNow kind x y = some b) :
    (Op.equalIn (d + 1) t x y).run P w = .ok b w := by
  unfold Instr.sameNow at h
  split at h
  · split at h
    · rename_i hk
      subst hk
      simp at h; subst h
      simp [Op.equalIn, run_underlying ht]
    · simp at h
  · simp at h; subst h
    simp [Op.equalIn, run_underlying ht]
  · simp at h; subst h
    simp [Op.equalIn, run_underlying ht]
  · simp at h

theorem run_findKey {t : Nat} {k : AV} {kind : TypeDesc} (ht : und D t = .ok kind) : ∀ (es : List (AV × AV × Nat)) (i : Nat) (r : Option (Nat × AV)), findKey D t k es i = .ok r →
    (∀ r', Instr.findNow kind (conc ι k) (es.map (concEntry ι)) i = some r' → r' = r.map fun p => (p.1, conc ι p.2)) ∧
    (Instr.findAsking t (conc ι k) (es.map (concEntry ι)) i).run P w = .ok (r.map fun p => (p.1, conc ι p.2)) w := by
  intro es
  induction es with
  | nil => intro i r h; simp [findKey] at h; subst h; simp [Instr.findNow, Instr.findAsking]
  | cons e es ih =>
    obtain ⟨k', v, s⟩ := e
    intro i r h
    simp only [findKey, bind_ok] at h
    obtain ⟨b, hb, h⟩ := h
    have heq := run_eqV F (ι := ι) w 10 t k k' b hb 10000 (by omega)
    refine ⟨fun r' hr' => ?_, ?_⟩
    · simp only [List.map_cons, Instr.findNow, concEntry] at hr'
      cases hs : Instr.sameNow kind (conc ι k) (conc ι k') with
      | none => rw [hs] at hr'; simp at hr'
      | some c =>
        have hc : b = c := by
          have h1 := run_sameNow (d := 9999) (w := w) (und_ok F ht) hs
          rw [heq] at h1
          simpa using h1
        subst hc
        rw [hs] at hr'
        cases b with
        | true => simp at hr' h; subst hr'; subst h; rfl
        | false => exact (ih (i + 1) r (by simpa using h)).1 r' hr'
    · simp only [List.map_cons, Instr.findAsking, Sem.run_bind, concEntry, Op.equal, Op.maxDepth, heq, Result.andThen_ok, Sem.run_ite]
      cases b with
      | true => simp at h; subst h; simp
      | false => simpa using (ih (i + 1) r (by simpa using h)).2

theorem run_findKey' {t : Nat} {k : AV} {kind : TypeDesc} (ht : und D t = .ok kind) {es : List (AV × AV × Nat)} {r : Option (Nat × AV)} (h : findKey D t k es 0 = .ok r) :
    (Instr.findKey t (conc ι k) (es.map (concEntry ι))).run P w = .ok (r.map fun p => (p.1, conc ι p.2)) w := by
  obtain ⟨h1, h2⟩ := run_findKey F (ι := ι) (w := w) ht es 0 r h
  simp only [Instr.findKey, Sem.run_bind, run_und F w ht, Result.andThen_ok]
  split
  · rename_i r' hr'
    rw [h1 r' hr']; simp
  · exact h2

omit F in
theorem findKey_mem {t : Nat} {k : AV} : ∀ (es : List (AV × AV × Nat)) (i : Nat) (j : Nat) (v : AV), findKey D t k es i = .ok (some (j, v)) →
    ∃ e, es[j - i]? = some e ∧ i ≤ j ∧ e.2.1 = v ∧ eqV D 10 t k e.1 = .ok true := by
  intro es
  induction es with
  | nil => intro i j v h; simp [findKey] at h
  | cons e es ih =>
    obtain ⟨k', v', s⟩ := e
    intro i j v h
    simp only [findKey, bind_ok] at h
    obtain ⟨b, hb, h⟩ := h
    cases b with
    | true => simp at h; obtain ⟨rfl, rfl⟩ := h; exact ⟨(k', v', s), by simp, Nat.le_refl _, rfl, hb⟩
    | false =>
      obtain ⟨e, h1, h2, h3, h4⟩ := ih (i + 1) j v (by simpa using h)
      refine ⟨e, ?_, by omega, h3, h4⟩
      have : j - i = (j - (i + 1)) + 1 := by omega
      rw [this]; simpa using h1

omit F in
theorem plainKey_und {d t : Nat} (h : plainKey D d t = true) : ∃ ty, und D t = .ok ty := by
  cases d with
  | zero => simp [plainKey] at h
  | succ d =>
    unfold plainKey at h
    split at h <;> first | exact ⟨_, ‹_›⟩ | (simp at h)

theorem run_lookupV (R : Rep D ι σ w) {t : Nat} {x ix v : AV} {ok : Bool} (h : lookupV D σ t x ix ok = .ok v) :
    (Instr.lookup t (conc ι x) (conc ι ix) ok).run P w = .ok (conc ι v) w ∧ ids ι (· < σ.n) v := by
  simp only [lookupV, bind_ok] at h
  obtain ⟨d, hd, h⟩ := h
  split at h
  · rename_i key elem
    split at h
    · rename_i hpk
      simp only [bind_ok] at h
      obtain ⟨⟨es, clock⟩, hm, b, hb, h⟩ := h
      cases b with
      | false => simp at h
      | true =>
        simp only [Bool.not_true, Bool.false_eq_true, if_false, bind_ok] at h
        obtain ⟨r, hr, h⟩ := h
        obtain ⟨hids, hx⟩ := mapOf_ok R hm
        obtain ⟨kd, hkd⟩ := plainKey_und hpk
        have hfk := run_findKey' F (ι := ι) (w := w) hkd hr
        have hck : ∀ emp, (Instr.checkKey emp 10000 key (conc ι ix)).run P w = .ok () w := fun emp => run_checkKey F 10 10000 key ix 10 hpk hb (by omega)
        have hids' : ids ι (· < σ.n) v := by
          cases r with
          | none =>
            simp only [bind_ok, pure_ok] at h
            obtain ⟨z, hz, rfl⟩ := h
            cases ok <;> simp [ids, idsL, boolV, zero_ids hz]
          | some p =>
            obtain ⟨j, y⟩ := p
            simp at h; subst h
            obtain ⟨e, h1, _, h3, _⟩ := findKey_mem _ _ _ _ hr
            have hy : ids ι (· < σ.n) y := h3 ▸ (hids e (List.mem_of_getElem? h1)).2
            cases ok <;> simp [ids, idsL, boolV, hy]
        refine ⟨?_, hids'⟩
        simp only [Instr.lookup, Sem.run_bind, run_und F w hd, Result.andThen_ok]
        rcases hx with ⟨rfl, rfl⟩ | ⟨bb, rfl, hbb, _, _, hheap⟩
        · simp only [conc, Sem.run_bind, Sem.run_pure, Result.andThen_ok, hck]
          have hfk0 : (Instr.findKey key (conc ι ix) []).run P w = .ok (r.map fun p => (p.1, conc ι p.2)) w := by simpa using hfk
          simp only [hfk0, Result.andThen_ok]
          cases r with
          | none =>
            simp only [bind_ok, pure_ok] at h
            obtain ⟨z, hz, rfl⟩ := h
            simp only [Option.map_none, Sem.run_bind, run_zero F (ι := ι) w hz, Result.andThen_ok, Sem.run_pure]
            cases ok <;> simp [conc, concL, boolV]
          | some p =>
            obtain ⟨j, y⟩ := p
            simp at h; subst h
            simp only [Option.map_some, Sem.run_bind, Sem.run_pure, Result.andThen_ok]
            cases ok <;> simp [conc, concL, boolV]
        · have hg : (getObj (ι bb).block).run P w = .ok (.map (es.map (concEntry ι)).toArray clock) w := by
            simp [getObj, Sem.run, hheap]
          simp only [conc, Sem.run_bind, hg, Result.andThen_ok, Sem.run_pure, hck, hfk]
          cases r with
          | none =>
            simp only [bind_ok, pure_ok] at h
            obtain ⟨z, hz, rfl⟩ := h
            simp only [Option.map_none, Sem.run_bind, run_zero F (ι := ι) w hz, Result.andThen_ok, Sem.run_pure]
            cases ok <;> simp [conc, concL, boolV]
          | some p =>
            obtain ⟨j, y⟩ := p
            simp at h; subst h
            simp only [Option.map_some, Sem.run_bind, Sem.run_pure, Result.andThen_ok]
            cases ok <;> simp [conc, concL, boolV]
    · simp at h
  · simp at h

omit F in
theorem bytesL_ok (ι : Nat → Loc) : ∀ {l : List AV} {r : List UInt8}, bytesL l = .ok r → ∃ ns : List Int, concL ι l = ns.map (Value.int .u8) ∧ r = ns.map fun n => UInt8.ofNat n.toNat
  | [], r, h => by
    simp [bytesL] at h
    subst h
    exact ⟨[], rfl, rfl⟩
  | x :: l, r, h => by
    unfold bytesL at h
    split at h
    · rename_i heq; cases heq
    · rename_i n l' heq
      simp only [List.cons.injEq] at heq
      obtain ⟨rfl, rfl⟩ := heq
      simp only [bind_ok, pure_ok] at h
      obtain ⟨r', h1, rfl⟩ := h
      obtain ⟨ns, h2, h3⟩ := bytesL_ok ι h1
      exact ⟨n :: ns, by simp [concL, conc, h2], by simp [h3]⟩
    · simp at h

omit F in
theorem foldl_push : ∀ (ns : List Int) (a : ByteArray), ns.foldl (fun r n => r.push (UInt8.ofNat n.toNat)) a = ⟨⟨a.data.toList ++ ns.map fun n => UInt8.ofNat n.toNat⟩⟩
  | [], a => by simp
  | n :: ns, a => by
    simp only [List.foldl_cons]
    rw [foldl_push ns]
    simp [ByteArray.push]

theorem run_bytesV (R : Rep D ι σ w) {s d : Nat} {x v : AV} (h : bytesV D σ s d x = .ok v) : (Go.convert s d (conc ι x)).run P w = .ok (conc ι v) w ∧ ids ι (· < σ.n) v := by
  simp only [bytesV, bind_ok] at h
  obtain ⟨st, hst, dt, hdt, h⟩ := h
  split at h
  · rename_i el
    simp only [bind_ok] at h
    obtain ⟨et, het, h⟩ := h
    split at h
    · simp at h; subst h
      refine ⟨?_, trivial⟩
      simp only [Go.convert, Sem.run_bind, run_und F w hst, run_und F w hdt, run_und F w het, Result.andThen_ok, conc, Conv.bytesToString, Sem.run_pure, str]
      rfl
    · simp only [bind_ok, pure_ok] at h
      obtain ⟨cs, hcs, l, hl, r, hr, rfl⟩ := h
      obtain ⟨hbn, elem, own, sz', ho⟩ := cellsOf_ok hcs
      obtain ⟨h1, h2⟩ := R.loadCells (P := P) hbn ho hl
      obtain ⟨ns, h3, rfl⟩ := bytesL_ok ι hr
      refine ⟨?_, trivial⟩
      rw [h3] at h1
      generalize hc : conc ι (AV.slice _ _ _ _ _) = cv
      obtain ⟨c, hc'⟩ := conc_slice ι _ _ _ _ _
      rw [hc'] at hc
      subst hc
      simp only [Go.convert, Sem.run_bind, run_und F w hst, run_und F w hdt, run_und F w het, Result.andThen_ok, run_bytesToString w _ _ c ns h1, conc, str, foldl_push]
      rfl
    · simp at h
  · simp at h


theorem run_variablesAt {a : Addr} {u : TypeId} {sz cnt : Nat} (hsh : w.shape? a.block = some (u, cnt)) (hsz : size D u = .ok sz) (h0 : 0 < sz) (ha : sz ∣ a.off) {n : Nat} (hn : a.off + n * sz ≤ cnt) :
    (variablesAt a u n).run P w = .ok true w := by
  obtain ⟨i, hi, rfl⟩ := size_ok F hsz
  have hc : P.cellsOf u = i.size := by simp [Program.cellsOf, hi]
  obtain ⟨dp, hdp⟩ : ∃ j, P.depth = j + 1 := ⟨P.depth - 1, by have := F.depth; omega⟩
  simp only [variablesAt, Sem.run_bind, run_program, Result.andThen_ok]
  have h1 : (shape a.block).run P w = .ok (w.shape? a.block) w := by simp [shape, Sem.run]
  rw [h1, hsh]
  simp only [Result.andThen_ok, Sem.run_pure, Result.ok.injEq, and_true]
  obtain ⟨k, hk⟩ := ha
  have hq : a.off / i.size = k := by rw [hk, Nat.mul_comm]; exact Nat.mul_div_cancel _ h0
  have hr : a.off % i.size = 0 := by rw [hk]; exact Nat.mul_mod_right _ _
  have hle : k + n ≤ cnt / i.size := by
    rw [Nat.le_div_iff_mul_le h0, Nat.add_mul, Nat.mul_comm k, ← hk]
    exact hn
  have hsl : sameLayout P P.depth u u = true := by rw [hdp]; simp [sameLayout]
  have : rowAt P (sameLayout P P.depth · u) P.depth u (cnt / P.cellsOf u) a.off n = true := by
    rw [hc]
    rw [hdp, ← hdp]
    conv => lhs; rw [hdp]
    unfold rowAt
    rw [← hdp]
    simp only [hc]
    rw [if_neg (by omega)]
    simp [hq, hr, hle, hsl]
  rw [hdp, ← hdp]
  conv => lhs; rw [hdp]
  unfold liesAt
  simp [this]

theorem run_ptrV (R : Rep D ι σ w) {s d : Nat} {x v : AV} (h : ptrV D σ s d x = .ok v) : (Go.convert s d (conc ι x)).run P w = .ok (conc ι v) w ∧ ids ι (· < σ.n) v := by
  simp only [ptrV, bind_ok] at h
  obtain ⟨st, hst, dt, hdt, h⟩ := h
  split at h
  · rename_i t b o
    simp only [bind_ok] at h
    obtain ⟨cs, hcs, n, hn, h⟩ := h
    obtain ⟨hb, elem, own, sz, ho⟩ := cellsOf_ok hcs
    split at h
    · rename_i hc
      simp at h; subst h
      have hob := R.obj b hb
      rw [ho] at hob
      obtain ⟨h1, h2, arr, fz, h3, h4, h5⟩ := hob
      refine ⟨?_, hb⟩
      obtain ⟨y, hy⟩ : ∃ y, cs[o]? = some y := ⟨cs[o], List.getElem?_eq_getElem hc.2⟩
      have hlt : (ι b).shift + o < arr.size := (Array.getElem?_eq_some_iff.1 (h4 o y hy)).1
      have hsh : w.shape? (ι b).block = some (elem, arr.size) := by simp [World.shape?, h3]
      have hs1 : (shape (ι b).block).run P w = .ok (some (elem, arr.size)) w := by simp [shape, Sem.run, hsh]
      have hv : (viewAt (ι b).block).run P w = .ok none w := by simp [viewAt, hs1]
      have hci : (cellsIn (ι b).block).run P w = .ok (some arr.size) w := by simp [cellsIn, hs1]
      simp only [Go.convert, Sem.run_bind, run_und F w hst, run_und F w hdt, Result.andThen_ok, conc, Conv.unsafePointer, Conv.seenAt, Loc.at, hv, Sem.run_pure, run_size F w hn, hci]
      have h6 : ¬ (n = 0) := by omega
      have h7 : ¬ ((ι b).shift + o ≥ arr.size) := by omega
      simp [h6, h7]
    · simp at h
  · rename_i u b o
    simp only [bind_ok] at h
    obtain ⟨sz, hsz, h⟩ := h
    split at h
    · rename_i hb
      split at h
      · rename_i cs elem own szb ho
        split at h
        · rename_i hc
          simp at h; subst h
          simp only [Bool.and_eq_true, beq_iff_eq, decide_eq_true_eq] at hc
          obtain ⟨⟨⟨⟨⟨hown, rfl⟩, rfl⟩, h0⟩, hmod⟩, hle⟩ := hc
          have hob := R.obj b hb
          rw [ho] at hob
          obtain ⟨h1, h2, arr, fz, h3, h4, h5⟩ := hob
          obtain ⟨_, _, hdv⟩ := h5 hown
          refine ⟨?_, hb⟩
          have hlen : (ι b).shift + cs.length ≤ arr.size := by
            obtain ⟨y, hy⟩ : ∃ y, cs[cs.length - 1]? = some y := ⟨cs[cs.length - 1]'(by omega), List.getElem?_eq_getElem (by omega)⟩
            have := (Array.getElem?_eq_some_iff.1 (h4 _ y hy)).1
            omega
          have hsh : w.shape? (ι b).block = some (elem, arr.size) := by simp [World.shape?, h3]
          have hs1 : (shape (ι b).block).run P w = .ok (some (elem, arr.size)) w := by simp [shape, Sem.run, hsh]
          have hv : (viewAt (ι b).block).run P w = .ok none w := by simp [viewAt, hs1]
          have hva : (variablesAt ⟨(ι b).block, (ι b).shift + o, none⟩ elem 1).run P w = .ok true w :=
            run_variablesAt F (a := ⟨(ι b).block, (ι b).shift + o, none⟩) hsh hsz h0 ((Nat.dvd_add_right hdv).2 (Nat.dvd_of_mod_eq_zero hmod)) (by simp; omega)
          simp only [Go.convert, Sem.run_bind, run_und F w hst, run_und F w hdt, Result.andThen_ok, conc, Conv.unsafePointer, Conv.seenAt, Loc.at, hv, Sem.run_pure, run_size F w hsz]
          have h6 : ¬ (szb = 0) := by omega
          simp [h6, hva]
        · simp at h
      · simp at h
    · simp at h
  · simp at h

theorem run_convR (R : Rep D ι σ w) {s d : Nat} {x v : AV} (h : convR D σ s d x = .ok v) : (Go.convert s d (conc ι x)).run P w = .ok (conc ι v) w ∧ ids ι (· < σ.n) v := by
  unfold convR at h
  split at h
  · rename_i v' hv
    simp at h; subst h
    refine ⟨run_convertV F (ι := ι) w hv, ?_⟩
    simp only [convertV, bind_ok] at hv
    obtain ⟨_, _, _, _, hv⟩ := hv
    split at hv <;> simp at hv <;> subst hv <;> trivial
  · split at h
    · rename_i v' hv
      simp at h; subst h
      exact run_bytesV F R hv
    · exact run_ptrV F R h

theorem readOp_run (R : Rep D ι σ w) {e : Operand → AV} {o : Oper} {v : AV} (h : readOp D σ e o.op = .ok v) :
    (Go.execOp (fun x => conc ι (e x)) o).run P w = .ok (.value (conc ι v)) w ∧ ids ι (· < σ.n) v := by
  unfold Go.execOp
  generalize o.op = op at h
  unfold readOp at h
  split at h
  · have := run_loadV F R h
    exact ⟨by simp [this.1], this.2⟩
  · have := run_lookupV F R h
    exact ⟨by simp [this.1], this.2⟩
  · have := run_convR F R h
    exact ⟨by simp [this.1], this.2⟩
  · simp at h

end
end Go.Dt
namespace Go.Dt

theorem repeatL_length (z : List AV) : ∀ n, (repeatL z n).length = n * z.length := by
  intro n
  induction n with
  | zero => simp [repeatL]
  | succ n ih => simp [repeatL, ih, Nat.succ_mul, Nat.add_comm]

theorem repeatL_get (z : List AV) (_ : 0 < z.length) : ∀ n i, i < n * z.length → (repeatL z n)[i]? = z[i % z.length]? := by
  intro n
  induction n with
  | zero => intro i h; simp at h
  | succ n ih =>
    intro i h
    simp only [repeatL]
    by_cases hi : i < z.length
    · rw [List.getElem?_append_left hi, Nat.mod_eq_of_lt hi]
    · rw [List.getElem?_append_right (by omega), ih _ (by rw [Nat.succ_mul] at h; omega)]
      congr 1
      exact (Nat.mod_eq_sub_mod (by omega)).symm

theorem idsL_repeat {ι : Nat → Loc} {A : Nat → Prop} {z : List AV} (h : idsL ι A z) : ∀ n, idsL ι A (repeatL z n) := by
  intro n
  induction n with
  | zero => simp [repeatL, idsL]
  | succ n ih => simp only [repeatL]; exact idsL_append.2 ⟨h, ih⟩

theorem range_map_repeat (ι : Nat → Loc) (z : List AV) (n : Nat) :
    ((Array.range (n * z.length)).map ((concL ι z).toArray[· % (concL ι z).toArray.size]!)) = (concL ι (repeatL z n)).toArray := by
  apply Array.ext_getElem?
  intro i
  simp only [Array.getElem?_map, List.getElem?_toArray, concL_getElem?, List.size_toArray, concL_length]
  by_cases hi : i < n * z.length
  · have hz : 0 < z.length := by
      rcases Nat.eq_zero_or_pos z.length with h | h
      · rw [h] at hi; simp at hi
      · exact h
    rw [repeatL_get z hz n i hi, Array.getElem?_range]
    have hm : i % z.length < z.length := Nat.mod_lt _ hz
    simp [hi, concL_eq, hm]
  · have h1 : (repeatL z n)[i]? = none := List.getElem?_eq_none (by rw [repeatL_length]; omega)
    rw [h1, Array.getElem?_range]
    simp [hi]

theorem range0 (f : Nat → Value) : (Array.range 0).map f = #[] := by apply Array.ext'; simp

section
variable {D : Tab} {P : Program} (F : Fits D P) {ι : Nat → Loc} {A : Nat → Prop} (w : World)

theorem run_newRow (elem : TypeId) (cells : Array Value) : (Go.newRow elem cells).run P w = .ok ⟨w.heap.size, 0, none⟩ (w.alloc (.cells cells elem)) := by
  simp [Go.newRow]

/-- what an operation that makes a block comes to -/
structure Makes (P : Program) (ι : Nat → Loc) (A : Nat → Prop) (w : World) (b : Nat) (v : AV) (o : AO) (s : Sem Next) : Prop where
  out : ∃ ob L, s.run P w = .ok (.value (conc (upd ι b L) v)) (w.alloc ob) ∧ L.block = w.heap.size ∧
    ORep (upd ι b L) (fun x => A x ∨ x = b) o L (w.alloc ob) ∧ ids (upd ι b L) (fun x => A x ∨ x = b) v

theorem kupd {b : Nat} {L : Loc} (hb : ¬ A b) : ∀ x, A x → (A x ∨ x = b) ∧ upd ι b L x = ι x :=
  fun _ hx => ⟨.inl hx, upd_old fun e => hb (e ▸ hx)⟩

theorem heap_alloc_new (ob : Obj) : (w.alloc ob).heap[w.heap.size]? = some ob := by
  show (w.heap.push ob)[w.heap.size]? = _
  simp

theorem orep_cells {b : Nat} {cs : List AV} {elem sz : Nat} (hb : ¬ A b) (hc : idsL ι A cs) :
    ORep (upd ι b ⟨w.heap.size, 0, 0, sz⟩) (fun x => A x ∨ x = b) (.cells cs elem true sz) ⟨w.heap.size, 0, 0, sz⟩ (w.alloc (.cells (concL ι cs).toArray elem)) := by
  refine ⟨idsL_mono (kupd hb) cs hc, rfl, (concL ι cs).toArray, (0, 0), heap_alloc_new w _, fun i v hv => ?_, fun _ => ⟨rfl, by show 0 + 0 * sz ≤ _; rw [Nat.zero_mul]; exact Nat.zero_le _, Nat.dvd_zero _⟩⟩
  rw [conc_agree (fun x hx => (kupd hb x hx).2) v (idsL_get hc hv)]
  simp [hv]

include F
omit F in
theorem zeroRow_ok {elem n : Nat} {cs : List AV} (h : zeroRow D elem n = .ok cs) :
    ∃ s, size D elem = .ok s ∧ cs.length = n * s ∧ idsL ι A cs ∧
      ((n * s = 0 ∧ cs = []) ∨ (n * s ≠ 0 ∧ ∃ z, zero D elem = .ok z ∧ ((Array.range (n * s)).map ((conc ι z).cells[· % (conc ι z).cells.size]!)) = (concL ι cs).toArray)) := by
  simp only [zeroRow, bind_ok] at h
  obtain ⟨s, hs, h⟩ := h
  refine ⟨s, hs, ?_⟩
  split at h
  · rename_i h0
    simp at h; subst h
    exact ⟨by simp [h0], by simp [idsL], .inl ⟨h0, rfl⟩⟩
  · rename_i h0
    simp only [bind_ok] at h
    obtain ⟨z, hz, h⟩ := h
    split at h
    · rename_i hl
      simp at h; subst h
      refine ⟨by rw [repeatL_length, hl], idsL_repeat (ids_cells (zero_ids hz A)) _, .inr ⟨h0, z, hz, ?_⟩⟩
      rw [conc_cells, ← hl, range_map_repeat]
    · simp at h

omit F in
theorem sliceElem_ok {t elem : Nat} (h : sliceElem D t = .ok elem) : und D t = .ok (.slice elem) := by
  simp only [sliceElem, bind_ok] at h
  obtain ⟨d, hd, h⟩ := h
  split at h
  · simp at h; subst h; exact hd
  · simp at h

theorem allocOp_run {e : Operand → AV} {o : Oper} {v : AV} {ob : AO} {b : Nat} (hb : ¬ A b) (h : allocOp D e o.op b = .ok (v, ob))
    (hid : ∀ x, x ∈ o.op.operands → ids ι A (e x)) : Makes P ι A w b v ob (Go.execOp (fun x => conc ι (e x)) o) := by
  unfold Go.execOp
  generalize o.op = op at h hid
  unfold allocOp at h
  split at h
  · rename_i elem
    simp only [bind_ok, pure_ok, Prod.mk.injEq] at h
    obtain ⟨z, hz, s, hs, rfl, rfl⟩ := h
    refine ⟨.cells (concL ι z.cells).toArray elem, ⟨w.heap.size, 0, 0, s⟩, ?_, rfl, orep_cells w hb (ids_cells (zero_ids hz A)), by simp [ids]⟩
    simp only [Instr.alloc, Sem.run_bind, run_zero F (ι := ι) w hz, Result.andThen_ok, newVar, run_newRow, Sem.run_pure, conc_cells]
    simp [conc, upd_new, Loc.at]
  · rename_i elem x
    simp only [bind_ok, pure_ok, Prod.mk.injEq] at h
    obtain ⟨s, hs, rfl, rfl⟩ := h
    refine ⟨.cells (concL ι (e x).cells).toArray elem, ⟨w.heap.size, 0, 0, s⟩, ?_, rfl, orep_cells w hb (ids_cells (hid x (by simp [Op.operands]))), by simp [ids]⟩
    simp only [Instr.box, Sem.run_bind, Result.andThen_ok, newVar, run_newRow, Sem.run_pure, conc_cells]
    simp [conc, upd_new, Loc.at]
  · rename_i t len parts
    simp only [bind_ok] at h
    obtain ⟨elem, hel, s, hs, h⟩ := h
    split at h
    · simp at h
    · rename_i hbig
      simp only [bind_ok, pure_ok, Prod.mk.injEq] at h
      obtain ⟨z, hz, cs, hcs, rfl, rfl⟩ := h
      have hd := sliceElem_ok hel
      obtain ⟨s', hs', hl, hzi, hrun⟩ := zeroRow_ok (ι := ι) (A := A) hz
      have : s' = s := by rw [hs] at hs'; simpa using hs'.symm
      subst this
      have hp : ∀ p, p ∈ (parts.toList.map fun p => (p.1, e p.2)) → ids ι A p.2 := by
        intro p hp
        simp only [List.mem_map] at hp
        obtain ⟨q, hq, rfl⟩ := hp
        refine hid q.2 ?_
        simp only [Op.operands, List.mem_toArray, List.mem_map]
        exact ⟨q, hq, rfl⟩
      refine ⟨.cells (concL ι cs).toArray elem, ⟨w.heap.size, 0, 0, s'⟩, ?_, rfl, orep_cells w hb (fill_ids _ _ _ hcs hzi hp), by simp [ids]⟩
      have e1 : (parts.map fun p => (p.1, conc ι (e p.2))) = ((parts.toList.map fun p => (p.1, e p.2)).map fun p => (p.1, conc ι p.2)).toArray := by
        apply Array.ext'; simp
      have h2 := run_fill (ι := ι) _ _ _ hcs
      show (do let v ← Instr.buildSlice t len (parts.map fun p => (p.1, conc ι (e p.2))); pure (Next.value v) : Sem Next).run P w = _
      rw [e1]
      simp only [Instr.buildSlice, Sem.run_bind, run_und F w hd, Result.andThen_ok, run_size F w hs, if_neg hbig]
      rcases hrun with ⟨h0, rfl⟩ | ⟨h0, zv, hzv, hzz⟩
      · simp only [if_pos h0, Sem.run_bind, Sem.run_pure, Result.andThen_ok]
        simp only [h0, range0]
        have h2' := h2
        simp only [concL] at h2'
        simp only [h2', Sem.run_bind, run_newRow, Result.andThen_ok, Sem.run_pure]
        simp [conc, upd_new, Loc.at]
      · simp only [if_neg h0, Sem.run_bind, run_zero F (ι := ι) w hzv, Sem.run_pure, Result.andThen_ok, hzz]
        simp only [h2, Sem.run_bind, run_newRow, Result.andThen_ok, Sem.run_pure]
        simp [conc, upd_new, Loc.at]
  · rename_i t r
    have main : Makes P ι A w b (.mapv b) (.map [] 0) (do pure (.value (.map (some (← newObj (.map #[] 0)))))) := by
      refine ⟨.map #[] 0, ⟨w.heap.size, 0, 0, 0⟩, ?_, rfl, ⟨rfl, heap_alloc_new w _, by simp⟩, by simp [ids]⟩
      simp [conc, upd_new]
    split at h
    · simp at h
      obtain ⟨rfl, rfl⟩ := h
      obtain ⟨ob, L, h1, h2⟩ := main.out
      refine ⟨ob, L, ?_, h2⟩
      rw [← h1]
      simp [Instr.makeMap]
    · rename_i hh
      simp only [bind_ok] at h
      obtain ⟨d, hd, ⟨k, i⟩, hi, h⟩ := h
      split at h
      · simp at h
        obtain ⟨rfl, rfl⟩ := h
        obtain ⟨ob, L, h1, h2⟩ := main.out
        refine ⟨ob, L, ?_, h2⟩
        rw [← h1]
        simp [Instr.makeMap, run_und F w hd, run_asI (ι := ι) hi, asInt, asIntOf]
      · simp at h
  · rename_i t l c
    simp only [bind_ok] at h
    obtain ⟨elem, hel, ⟨kl, il⟩, hl, ⟨kc, ic⟩, hc, i, hi, h⟩ := h
    split at h
    · rename_i hcond
      obtain ⟨c1, c2, c3, c4⟩ := hcond
      simp only [bind_ok, pure_ok, Prod.mk.injEq] at h
      obtain ⟨s, hs, z, hz, rfl, rfl⟩ := h
      have hd := sliceElem_ok hel
      obtain ⟨s', hs', hlen, hzi, hrun⟩ := zeroRow_ok (ι := ι) (A := A) hz
      have : s' = s := by rw [hs] at hs'; simpa using hs'.symm
      subst this
      refine ⟨.cells (concL ι z).toArray elem, ⟨w.heap.size, 0, 0, s'⟩, ?_, rfl, orep_cells w hb hzi, by simp [ids]⟩
      have wl : IntKind.i64.wrap il = il := IntWalk.i64_in _ (by omega)
      have wc : IntKind.i64.wrap ic = ic := IntWalk.i64_in _ (by omega)
      have hbytes : ¬ ((i.bytes : Int) * ic > 2 ^ 48) := by
        have h1 : (i.bytes : Int) * ic ≤ 2 ^ 16 * 2 ^ 30 := Int.mul_le_mul (by omega) (by omega) (by omega) (by omega)
        have : (2 : Int) ^ 16 * 2 ^ 30 ≤ 2 ^ 48 := by decide
        omega
      show (do let v ← Instr.makeSlice t (conc ι (e l)) (conc ι (e c)); pure (Next.value v) : Sem Next).run P w = _
      simp only [Instr.makeSlice, Sem.run_bind, run_und F w hd, Result.andThen_ok, run_asI (ι := ι) hl, run_asI (ι := ι) hc, asInt, asIntOf, Sem.run_pure, run_inf F w hi, wl, wc]
      have hcond : (decide (ic < 0) || decide ((i.bytes : Int) * ic > 2 ^ 48) || decide (il < 0) || decide (il > ic)) = false := by
        simp only [Bool.or_eq_false_iff, decide_eq_false_iff_not]
        exact ⟨⟨⟨by omega, hbytes⟩, by omega⟩, by omega⟩
      rw [if_neg (by rw [hcond]; simp)]
      simp only [Sem.run_bind, run_askRoom, Result.andThen_ok, run_size F w hs]
      rcases hrun with ⟨h0, rfl⟩ | ⟨h0, zv, hzv, hzz⟩
      · simp only [if_pos h0, Sem.run_bind, Sem.run_pure, Result.andThen_ok]
        simp only [h0, range0, run_newRow, Result.andThen_ok]
        simp [conc, upd_new, Loc.at, concL]
      · simp only [if_neg h0, Sem.run_bind, run_zero F (ι := ι) w hzv, Sem.run_pure, Result.andThen_ok, hzz, run_newRow]
        simp [conc, upd_new, Loc.at]
    · simp at h
  · simp at h
end
end Go.Dt
namespace Go.Dt

theorem conc_oneCell' {ι : Nat → Loc} {v : AV} (h : v.oneCell = true) : (conc ι v).oneCell' = true := by
  have := conc_oneCell (ι := ι) h
  cases hv : conc ι v with
  | agg cs => exact ((this cs).1 hv).elim
  | tuple cs => exact ((this cs).2 hv).elim
  | _ => rfl

/-- only block g differs -/
structure Only (g : Nat) (w w' : World) : Prop where
  size : w'.heap.size = w.heap.size
  other : ∀ r, r ≠ g → w'.heap[r]? = w.heap[r]?
  os : w'.os = w.os ∧ w'.tape = w.tape ∧ w'.output = w.output

theorem Only.refl (g : Nat) (w : World) : Only g w w := ⟨rfl, fun _ _ => rfl, rfl, rfl, rfl⟩
theorem Only.trans {g : Nat} {a b c : World} (h : Only g a b) (k : Only g b c) : Only g a c :=
  ⟨k.size.trans h.size, fun r hr => (k.other r hr).trans (h.other r hr), k.os.1.trans h.os.1, k.os.2.1.trans h.os.2.1, k.os.2.2.trans h.os.2.2⟩

theorem only_setCell (w : World) (g o : Nat) (v : Value) : Only g w (w.setCell ⟨g, o, none⟩ v) :=
  ⟨by simp, fun r hr => by simp only [World.setCell, Array.getElem?_modify]; rw [if_neg (by omega)], rfl, rfl, rfl⟩

theorem only_setIf (w : World) (g : Nat) (o : Obj) : Only g w { w with heap := w.heap.setIfInBounds g o } :=
  ⟨by simp, fun r hr => by simp only [Array.getElem?_setIfInBounds]; rw [if_neg (by omega)], rfl, rfl, rfl⟩

theorem run_storeCells (P : Program) (g o : Nat) (e : TypeId) : ∀ (vs : List Value) (i : Nat) (arr : Array Value) (w : World), w.heap[g]? = some (.cells arr e (0, 0)) →
    o + i + vs.length ≤ arr.size → (∀ v, v ∈ vs → v.oneCell' = true) →
    ∃ w' arr', (Go.storeCells ⟨g, o, none⟩ vs i).run P w = .ok () w' ∧ Only g w w' ∧ w'.heap[g]? = some (.cells arr' e (0, 0)) ∧ arr'.size = arr.size ∧
      ∀ j, arr'[j]? = if o + i ≤ j ∧ j < o + i + vs.length then vs[j - (o + i)]? else arr[j]? := by
  intro vs
  induction vs with
  | nil =>
    intro i arr w hg _ _
    exact ⟨w, arr, by simp [Go.storeCells], Only.refl g w, hg, rfl, fun j => by rw [if_neg (by simp only [List.length_nil]; omega)]⟩
  | cons v vs ih =>
    intro i arr w hg hfit hone
    simp only [List.length_cons] at hfit
    have hadd : (⟨g, o, none⟩ : Addr).add i = ⟨g, o + i, none⟩ := by
      unfold Addr.add; split
      · rename_i h; simp [h]
      · rfl
    have hlt : o + i < arr.size := by omega
    have hcell : w.cell? ⟨g, o + i, none⟩ = some arr[o + i] := by simp [World.cell?, hg, hlt]
    have hfr : w.frozen? ⟨g, o + i, none⟩ = false := by simp [World.frozen?, hg]
    have hg' : (w.setCell ⟨g, o + i, none⟩ v).heap[g]? = some (.cells (arr.setIfInBounds (o + i) v) e (0, 0)) := by
      simp [World.setCell, Array.getElem?_modify, hg]
    obtain ⟨w', arr', h1, h2, h3, h4, h5⟩ := ih (i + 1) _ _ hg' (by simp; omega) (fun x hx => hone x (by simp [hx]))
    refine ⟨w', arr', ?_, (only_setCell w g (o + i) v).trans h2, h3, by simp [h4], fun j => ?_⟩
    · simp only [Go.storeCells, Sem.run_bind, hadd, run_store P w _ v _ (hone v (by simp)), hcell, hfr, Bool.false_eq_true, if_false, Result.andThen_ok]
      exact h1
    · rw [h5 j]
      simp only [List.length_cons]
      by_cases hc : o + (i + 1) ≤ j ∧ j < o + (i + 1) + vs.length
      · rw [if_pos hc, if_pos (by omega)]
        have : j - (o + i) = (j - (o + (i + 1))) + 1 := by omega
        rw [this]; simp
      · rw [if_neg hc]
        by_cases hj : j = o + i
        · subst hj
          rw [if_pos (by omega)]
          simp [hlt]
        · rw [if_neg (by omega), Array.getElem?_setIfInBounds_ne (by omega)]

section
variable {D : Tab} {P : Program} (F : Fits D P) {ι : Nat → Loc} {σ : St} {w : World}

/-- a store into a block of one's own -/
theorem run_store_own (R : Rep D ι σ w) {b o : Nat} {l : List AV} {σ' : St} (h : storeCells σ b o l = .ok σ') (hl : idsL ι (· < σ.n) l) :
    ∃ w', (Go.storeCells ((ι b).at o) (concL ι l)).run P w = .ok () w' ∧ Rep D ι σ' w' ∧ Ext ι σ w ι σ' w' := by
  unfold storeCells at h
  split at h
  · simp at h; subst h
    exact ⟨w, by simp [Go.storeCells, concL], R, Ext.refl ι σ w⟩
  · split at h
    · rename_i hb
      split at h
      · rename_i cs elem own sz heq
        split at h
        · rename_i hc
          simp only [Bool.and_eq_true, decide_eq_true_eq] at hc
          obtain ⟨⟨rfl, hfit⟩, hone⟩ := hc
          simp at h; subst h
          have hr := R.obj b hb
          rw [heq] at hr
          obtain ⟨h1, h2, arr, fz, h3, h4, h5⟩ := hr
          obtain ⟨rfl, h6⟩ := h5 rfl
          have harr : ∀ i, i < cs.length → (ι b).shift + i < arr.size := fun i hi => by
            have := h4 i _ (List.getElem?_eq_getElem hi)
            exact (Array.getElem?_eq_some_iff.1 this).1
          have hfit' : (ι b).shift + o + 0 + (concL ι l).length ≤ arr.size := by
            rw [concL_length]
            rcases Nat.eq_zero_or_pos l.length with h0 | h0
            · rw [h0] at hfit ⊢
              rcases Nat.eq_zero_or_pos cs.length with h7 | h7
              · have : l = [] := List.eq_nil_of_length_eq_zero h0
                exact absurd this ‹_›
              · have : l = [] := List.eq_nil_of_length_eq_zero h0
                exact absurd this ‹_›
            · have := harr (o + l.length - 1) (by omega)
              omega
          obtain ⟨w', arr', r1, r2, r3, r4, r5⟩ := run_storeCells P (ι b).block ((ι b).shift + o) elem (concL ι l) 0 arr w h3 hfit' (fun v hv => by
            rw [concL_eq, List.mem_map] at hv
            obtain ⟨x, hx, rfl⟩ := hv
            exact conc_oneCell' (List.all_eq_true.1 hone x hx))
          refine ⟨w', r1, ?_⟩
          refine R.set hb (by rw [heq]; rfl) r2.size r2.other r2.os ⟨idsL_splice hfit h1 hl, h2, arr', (0, 0), r3, fun i v hv => ?_, fun _ => ⟨rfl, by omega⟩⟩
          rw [splice_get _ _ _ _ hfit] at hv
          rw [r5, concL_length]
          split at hv
          · rename_i hc
            rw [if_pos (by omega)]
            have : (ι b).shift + i - ((ι b).shift + o + 0) = i - o := by omega
            rw [this, concL_getElem?, hv]; rfl
          · rename_i hc
            rw [if_neg (by omega)]
            exact h4 i v hv
        · simp at h
      · simp at h
    · simp at h

include F
theorem run_storeV (R : Rep D ι σ w) {t : Nat} {a x : AV} {σ' : St} (h : storeV D σ t a x = .ok σ') (hx : ids ι (· < σ.n) x) :
    ∃ w', (Instr.storeAt t (conc ι a) (conc ι x)).run P w = .ok () w' ∧ Rep D ι σ' w' ∧ Ext ι σ w ι σ' w' := by
  unfold storeV at h
  split at h
  · rename_i b o
    simp only [bind_ok] at h
    obtain ⟨n, hn, h⟩ := h
    split at h
    · rename_i hlen
      obtain ⟨w', h1, h2, h3⟩ := run_store_own (P := P) R h (ids_cells hx)
      refine ⟨w', ?_, h2, h3⟩
      simp only [Instr.storeAt, conc, Instr.sureAddr, Sem.run_bind, Sem.run_pure, Result.andThen_ok, storeVar, run_size F w hn, conc_cells]
      rw [if_neg (by simp [hlen])]
      simpa using h1
    · simp at h
  · simp at h

omit F in
theorem run_setObj (P : Program) (w : World) (r : Nat) (o o' : Obj) (h : w.heap[r]? = some o) (hc : ∀ a b c, o ≠ .cells a b c) :
    (setObj r o').run P w = .ok () { w with heap := w.heap.setIfInBounds r o' } := by
  simp only [setObj, Sem.run, h]
omit F in
theorem run_getObj (P : Program) (w : World) (r : Nat) (o : Obj) (h : w.heap[r]? = some o) (hc : ∀ a b c, o ≠ .cells a b c) :
    (getObj r).run P w = .ok o w := by
  simp only [getObj, Sem.run, h]

omit F in
theorem heap_setIf (w : World) (r : Nat) (o' : Obj) (h : r < w.heap.size) : ({ w with heap := w.heap.setIfInBounds r o' } : World).heap[r]? = some o' := by
  simp [h]

omit F in
theorem beqBase_ok {a b : Value} (h : beqBase a b = true) : a = b := by
  unfold beqBase at h
  split at h <;> simp_all

omit F in
theorem beqFn_ok {a b : Fn} (h : beqFn a b = true) : a = b := by
  unfold beqFn at h
  split at h <;> simp_all

omit F in
mutual
theorem beqA_ok : ∀ (a b : AV), beqA a b = true → a = b
  | .base a, .base b, h => by simp only [beqA] at h; rw [beqBase_ok h]
  | .ptr .., .ptr .., h => by simp [beqA] at h; simp [h]
  | .slice .., .slice .., h => by simp [beqA] at h; simp [h]
  | .sliceZ .., .sliceZ .., h => by simp [beqA] at h; simp [h]
  | .mapv _, .mapv _, h => by simp [beqA] at h; simp [h]
  | .func f a b, .func g a' b', h => by
    simp only [beqA, Bool.and_eq_true] at h
    rw [beqFn_ok h.1.1, beqL_ok a a' h.1.2, beqL_ok b b' h.2]
  | .yield _, .yield _, h => by simp [beqA] at h; simp [h]
  | .iface t v, .iface t' v', h => by
    simp only [beqA, Bool.and_eq_true, beq_iff_eq] at h
    rw [h.1, beqA_ok v v' h.2]
  | .agg l, .agg l', h => by simp only [beqA] at h; rw [beqL_ok l l' h]
  | .tuple l, .tuple l', h => by simp only [beqA] at h; rw [beqL_ok l l' h]
theorem beqL_ok : ∀ (a b : List AV), beqL a b = true → a = b
  | [], [], _ => rfl
  | x :: xs, y :: ys, h => by
    simp only [beqL, Bool.and_eq_true] at h
    rw [beqA_ok x y h.1, beqL_ok xs ys h.2]
end

omit F in
theorem sameBits_plainBase {v : AV} (h : plainBase v = true) (n : Nat) : Instr.sameBits n (conc ι v) (conc ι v) = true := by
  unfold plainBase at h
  split at h
  · cases n <;> simp [conc, Instr.sameBits]
  · cases n <;> simp [conc, Instr.sameBits]
  · cases n <;> simp [conc, Instr.sameBits, Go.beq_toListBytes]
  · simp at h

omit F in
theorem sameBits_plain {v : AV} (h : plainVal v = true) (n : Nat) : Instr.sameBits (n + 1) (conc ι v) (conc ι v) = true := by
  unfold plainVal at h
  split at h
  · rename_i cs
    simp only [conc, Instr.sameBits, Bool.and_eq_true, beq_self_eq_true, true_and]
    have hall : ∀ v, v ∈ cs → plainBase v = true := by simpa using h
    clear h
    induction cs with
    | nil => simp [concL]
    | cons c cs ih =>
      have := ih (fun v hv => hall v (by simp [hv]))
      simp only [concL]
      simp only [List.zip_cons_cons, List.all_cons, Bool.and_eq_true]
      exact ⟨sameBits_plainBase (hall c (by simp)) n, this⟩
  · exact sameBits_plainBase h _

theorem run_mapUpdate (R : Rep D ι σ w) {t : Nat} {m k v : AV} {σ' : St} (h : mapUpdate D σ t m k v = .ok σ') (hk : ids ι (· < σ.n) k) (hv : ids ι (· < σ.n) v) :
    ∃ w', (Instr.mapUpdate t (conc ι m) (conc ι k) (conc ι v)).run P w = .ok () w' ∧ Rep D ι σ' w' ∧ Ext ι σ w ι σ' w' := by
  simp only [mapUpdate, bind_ok] at h
  obtain ⟨d, hd, h⟩ := h
  split at h
  · rename_i key elem b
    split at h
    · rename_i hpk
      simp only [bind_ok] at h
      obtain ⟨⟨es, clock⟩, hm, r0, hr0, h⟩ := h
      cases r0 with
      | false => simp at h
      | true =>
        simp only [Bool.not_true, Bool.false_eq_true, if_false, bind_ok] at h
        obtain ⟨r, hr, h⟩ := h
        obtain ⟨hids, hx⟩ := mapOf_ok R hm
        rcases hx with ⟨hx, _⟩ | ⟨b', hx, hb, heq, hshift, hheap⟩
        · cases hx
        · cases hx
          obtain ⟨kd, hkd⟩ := plainKey_und hpk
          have hfk := run_findKey' F (ι := ι) (w := w) hkd hr
          have hck : ∀ emp, (Instr.checkKey emp 10000 key (conc ι k)).run P w = .ok () w := fun emp => run_checkKey F 10 10000 key k 10 hpk hr0 (by omega)
          have hlt : (ι b).block < w.heap.size := (Array.getElem?_eq_some_iff.1 hheap).1
          have hg := run_getObj P w (ι b).block _ hheap (by simp)
          have hso := fun o' => run_setObj P w (ι b).block _ o' hheap (by simp)
          have hmut : (σ.getO b).isMut = true := by rw [heq]; rfl
          cases r with
          | none =>
            simp at h; subst h
            refine ⟨{ w with heap := w.heap.setIfInBounds (ι b).block (.map ((es.map (concEntry ι)).toArray.push { key := conc ι k, val := conc ι v, born := clock }) (clock + 1)) }, ?_, ?_⟩
            · simp only [Instr.mapUpdate, Sem.run_bind, run_und F w hd, Result.andThen_ok, conc, hg, hck]
              simp only [hfk, Result.andThen_ok, Option.map_none]
              exact hso _
            · have := only_setIf w (ι b).block (.map ((es.map (concEntry ι)).toArray.push { key := conc ι k, val := conc ι v, born := clock }) (clock + 1))
              refine R.set hb hmut this.size this.other this.os ⟨hshift, ?_, ?_⟩
              · rw [heap_setIf w _ _ hlt]
                simp [concEntry]
              · intro e he
                rcases List.mem_append.1 he with he | he
                · exact hids e he
                · simp at he; subst he; exact ⟨hk, hv⟩
          | some p =>
            obtain ⟨i, y⟩ := p
            simp only at h
            obtain ⟨e, he1, _, he3, he4⟩ := findKey_mem _ _ _ _ hr
            simp only [Nat.sub_zero] at he1
            rw [he1] at h
            simp only at h
            split at h
            · rename_i hcc
              simp only [Bool.and_eq_true] at hcc
              have hek : e.1 = k := beqA_ok _ _ hcc.2
              simp at h; subst h
              have hilt : i < es.length := (List.getElem?_eq_some_iff.1 he1).1
              have hes : (es.map (concEntry ι)).toArray[i]? = some (concEntry ι e) := by simp [he1]
              refine ⟨{ w with heap := w.heap.setIfInBounds (ι b).block (.map ((es.map (concEntry ι)).toArray.modify i fun e => { e with key := conc ι k, val := conc ι v }) clock) }, ?_, ?_⟩
              · have hkt : (Instr.keyThatStays (((es.map (concEntry ι)).toArray[i]?.map (·.key)).getD (conc ι k)) (conc ι k)).run P w = .ok (conc ι k) w := by
                  rw [hes]
                  simp only [Option.map_some, Option.getD_some, concEntry, hek, Instr.keyThatStays]
                  rw [if_pos (sameBits_plain hcc.1 9999)]
                  simp
                simp only [Instr.mapUpdate, Sem.run_bind, run_und F w hd, Result.andThen_ok, conc, hg, hck]
                simp only [hfk, Result.andThen_ok, Option.map_some]
                simp only [Sem.run_bind, hkt, Result.andThen_ok]
                exact hso _
              · have := only_setIf w (ι b).block (.map ((es.map (concEntry ι)).toArray.modify i fun e => { e with key := conc ι k, val := conc ι v }) clock)
                refine R.set hb hmut this.size this.other this.os ⟨hshift, ?_, ?_⟩
                · rw [heap_setIf w _ _ hlt]
                  congr 2
                  apply Array.ext'
                  rw [Array.toList_modify]
                  clear hes hfk hck hr hm hheap hg hso heq this hids
                  clear hilt
                  induction es generalizing i with
                  | nil => simp at he1
                  | cons x es ih =>
                    obtain ⟨a, b', c⟩ := x
                    cases i with
                    | zero => simp at he1; subst he1; simp [setVal, concEntry]; exact congrArg _ hek.symm
                    | succ i => simpa [setVal] using ih i (by simpa using he1)
                · intro e' he'
                  have : ∀ (l : List (AV × AV × Nat)) (j : Nat), (∀ e, e ∈ l → ids ι (· < σ.n) e.1 ∧ ids ι (· < σ.n) e.2.1) → ∀ e, e ∈ setVal v j l → ids ι (· < σ.n) e.1 ∧ ids ι (· < σ.n) e.2.1 := by
                    intro l
                    induction l with
                    | nil => intro j _ e he; simp [setVal] at he
                    | cons x l ih =>
                      obtain ⟨a, b', c⟩ := x
                      intro j hl e he
                      cases j with
                      | zero =>
                        simp only [setVal, List.mem_cons] at he
                        rcases he with rfl | he
                        · exact ⟨(hl (a, b', c) (by simp)).1, hv⟩
                        · exact hl e (by simp [he])
                      | succ j =>
                        simp only [setVal, List.mem_cons] at he
                        rcases he with rfl | he
                        · exact hl _ (by simp)
                        · exact ih j (fun e he => hl e (by simp [he])) e he
                  exact this _ _ hids e' he'
            · simp at h
    · simp at h
  · simp at h
end
end Go.Dt
namespace Go.Dt
section
variable {D : Tab} {P : Program} (F : Fits D P) {ι : Nat → Loc} {σ : St} {w : World}

theorem kor {n : Nat} {ι ι' : Nat → Loc} {A : Nat → Prop} (h : ∀ b, A b → b < n) (e : ∀ b, A b → ι' b = ι b) : ∀ b, A b → b < n ∧ ι' b = ι b := fun b hb => ⟨h b hb, e b hb⟩

/-- a new block that is no cells -/
theorem push_obj (R : Rep D ι σ w) {o : AO} {ob : Obj}
    (ho : ORep (upd ι σ.n ⟨w.heap.size, 0, 0, 0⟩) (· < σ.n + 1) o ⟨w.heap.size, 0, 0, 0⟩ (w.alloc ob)) :
    ∃ ι' w', (newObj ob).run P w = .ok w.heap.size w' ∧ Rep D ι' (σ.push o) w' ∧ Ext ι σ w ι' (σ.push o) w' ∧ ι' σ.n = ⟨w.heap.size, 0, 0, 0⟩ := by
  have := R.push (L := ⟨w.heap.size, 0, 0, 0⟩) rfl ho
  exact ⟨_, _, rfl, this.1, this.2, upd_new _ _ _⟩

include F
theorem run_rangeV (R : Rep D ι σ w) {t : Nat} {x v : AV} {σ' : St} (h : rangeV D σ t x = .ok (v, σ')) :
    ∃ ι' w', (Instr.range t (conc ι x)).run P w = .ok (conc ι' v) w' ∧ Rep D ι' σ' w' ∧ Ext ι σ w ι' σ' w' ∧ ids ι' (· < σ'.n) v := by
  simp only [rangeV, bind_ok] at h
  obtain ⟨d, hd, h⟩ := h
  split at h
  · rename_i s
    simp at h
    obtain ⟨rfl, rfl⟩ := h
    obtain ⟨ι', w', h1, h2, h3, h4⟩ := push_obj (P := P) R (o := .striter s 0) (ob := .stringIter ⟨⟨s⟩⟩ 0) ⟨rfl, heap_alloc_new w _⟩
    refine ⟨ι', w', ?_, h2, h3, by simp [ids, St.push]⟩
    simp only [Instr.range, Sem.run_bind, run_und F w hd, Result.andThen_ok, conc, Sem.run_pure, h1]
    simp [h4, Loc.at]
  · simp at h
    obtain ⟨rfl, rfl⟩ := h
    obtain ⟨ι', w', h1, h2, h3, h4⟩ := push_obj (P := P) R (o := .mapiter none 0 [] 0) (ob := .mapIter none 0 #[] 0) ⟨rfl, heap_alloc_new w _, by simp⟩
    refine ⟨ι', w', ?_, h2, h3, by simp [ids, St.push]⟩
    simp only [Instr.range, Sem.run_bind, run_und F w hd, Result.andThen_ok, conc, Sem.run_pure, h1]
    simp [h4, Loc.at]
  · rename_i m
    simp only [bind_ok] at h
    obtain ⟨⟨es, clock⟩, hm, h⟩ := h
    simp at h
    obtain ⟨rfl, rfl⟩ := h
    obtain ⟨_, hx⟩ := mapOf_ok R hm
    rcases hx with ⟨hx, _⟩ | ⟨b', hx, hb, heq, hshift, hheap⟩
    · cases hx
    · cases hx
      have hg := run_getObj P w (ι m).block _ hheap (by simp)
      obtain ⟨ι', w', h1, h2, h3, h4⟩ := push_obj (P := P) R (o := .mapiter (some m) clock [] clock) (ob := .mapIter (some (ι m).block) clock #[] clock)
        ⟨rfl, by rw [heap_alloc_new]; simp [upd_old (Nat.ne_of_lt hb)], by rintro b hb'; cases hb'; exact Nat.lt_succ_of_lt hb⟩
      refine ⟨ι', w', ?_, h2, h3, by simp [ids, St.push]⟩
      simp only [Instr.range, Sem.run_bind, run_und F w hd, Result.andThen_ok, conc, Sem.run_pure, hg, h1]
      simp [h4, Loc.at]
  · simp at h

omit F in
theorem get_ok {b : Nat} {o : AO} (h : σ.get b = .ok o) : b < σ.n ∧ σ.getO b = o := by
  unfold St.get at h
  split at h
  · rename_i hb
    simp at h
    exact ⟨hb, h⟩
  · simp at h

omit F in
theorem filter_conc (ι : Nat → Loc) (es : List (AV × AV × Nat)) (f : Nat → Bool) :
    ((es.map (concEntry ι)).toArray.filter fun e => f e.born) = ((es.filter fun e => f e.2.2).map (concEntry ι)).toArray := by
  apply Array.ext'
  simp only [Array.toList_filter]
  induction es with
  | nil => simp
  | cons e es ih =>
    simp only [List.map_cons, List.filter_cons, concEntry] at ih ⊢
    split <;> simp_all [concEntry]

omit F in
theorem run_nextV (R : Rep D ι σ w) {it v : AV} {b : Bool} {ty : TypeId} {σ' : St} (h : nextV σ it b = .ok (v, σ')) :
    ∃ w', (Instr.next (conc ι it) b ty).run P w = .ok (conc ι v) w' ∧ Rep D ι σ' w' ∧ Ext ι σ w ι σ' w' ∧ ids ι (· < σ'.n) v := by
  unfold nextV at h
  split at h
  · rename_i r
    simp only [bind_ok] at h
    obtain ⟨o, ho, h⟩ := h
    obtain ⟨hr, heq⟩ := get_ok ho
    have hrep := R.obj r hr
    rw [heq] at hrep
    split at h
    · rename_i s pos
      obtain ⟨hs, hheap⟩ := hrep
      have hg := run_getObj P w (ι r).block _ hheap (by simp)
      have hat : (ι r).at 0 = ⟨(ι r).block, 0, none⟩ := by simp [Loc.at, hs]
      have hlt : (ι r).block < w.heap.size := (Array.getElem?_eq_some_iff.1 hheap).1
      have hsz : (⟨⟨s⟩⟩ : ByteArray).size = s.length := rfl
      split at h
      · rename_i hpos
        simp at h
        obtain ⟨rfl, rfl⟩ := h
        have hso := run_setObj P w (ι r).block _ (.stringIter ⟨⟨s⟩⟩ (pos + (Utf8.decode ⟨⟨s⟩⟩ pos).2)) hheap (by simp)
        have ho := only_setIf w (ι r).block (.stringIter ⟨⟨s⟩⟩ (pos + (Utf8.decode ⟨⟨s⟩⟩ pos).2))
        have hset := R.set (o := .striter s (pos + (Utf8.decode ⟨⟨s⟩⟩ pos).2)) hr (by rw [heq]; rfl) ho.size ho.other ho.os ⟨hs, heap_setIf w _ _ hlt⟩
        refine ⟨_, ?_, hset.1, hset.2, by simp [ids, idsL, boolV, goI, intV]⟩
        simp only [Instr.next, conc, hat, Sem.run_bind, hg, Result.andThen_ok, hsz, Sem.run_ite]
        rw [if_pos hpos]
        simp only [hso, Result.andThen_ok, Sem.run_pure]
        simp [conc, concL, boolV, goI, intV, goInt]
      · rename_i hpos
        simp at h
        obtain ⟨rfl, rfl⟩ := h
        refine ⟨w, ?_, R, Ext.refl _ _ _, by simp [ids, idsL, boolV]⟩
        simp only [Instr.next, conc, hat, Sem.run_bind, hg, Result.andThen_ok, hsz, Sem.run_ite]
        rw [if_neg hpos]
        simp [conc, concL, boolV]
    · rename_i since seen stepped
      obtain ⟨hs, hheap, _⟩ := hrep
      have hg := run_getObj P w (ι r).block _ hheap (by simp)
      have hat : (ι r).at 0 = ⟨(ι r).block, 0, none⟩ := by simp [Loc.at, hs]
      simp at h
      obtain ⟨rfl, rfl⟩ := h
      refine ⟨w, ?_, R, Ext.refl _ _ _, by simp [ids, idsL, boolV]⟩
      simp only [Instr.next, conc, hat, Sem.run_bind, hg, Result.andThen_ok]
      simp [conc, concL, boolV]
    · rename_i m since seen last
      obtain ⟨hs, hheap, hm'⟩ := hrep
      have hg := run_getObj P w (ι r).block _ hheap (by simp)
      have hat : (ι r).at 0 = ⟨(ι r).block, 0, none⟩ := by simp [Loc.at, hs]
      have hlt : (ι r).block < w.heap.size := (Array.getElem?_eq_some_iff.1 hheap).1
      simp only [bind_ok] at h
      obtain ⟨⟨es, clock⟩, hm, h⟩ := h
      obtain ⟨hids, hx⟩ := mapOf_ok R hm
      rcases hx with ⟨hx, _⟩ | ⟨b', hx, hb, heqm, hshift, hheapm⟩
      · cases hx
      · cases hx
        have hgm := run_getObj P w (ι m).block _ hheapm (by simp)
        split at h
        · simp at h
        · rename_i hgone
          have hgone' : (!seen.toArray.isEmpty && !(es.map (concEntry ι)).toArray.isEmpty && (es.map (concEntry ι)).toArray.all fun x => decide (x.born ≥ last)) = false := by
            simp only [Bool.not_eq_true] at hgone
            rw [← hgone]
            simp only [List.isEmpty_toArray, List.isEmpty_map, List.all_toArray, List.all_map]
            rfl
          have hleft : (es.map (concEntry ι)).toArray.filter (fun e => !seen.toArray.contains e.born) = ((es.filter fun e => !seen.contains e.2.2).map (concEntry ι)).toArray := by
            have := filter_conc ι es (fun n => !seen.contains n)
            simpa using this
          have hold := filter_conc ι (es.filter fun e => !seen.contains e.2.2) (fun n => decide (n < since))
          have hnew := filter_conc ι (es.filter fun e => !seen.contains e.2.2) (fun n => decide (n ≥ since))
          have hstart : (Instr.next (conc ι (.ptr r 0)) false ty).run P w = ((do
              let candidates := (if (((es.filter fun e => !seen.contains e.2.2).filter fun e => decide (e.2.2 < since)).map (concEntry ι)).toArray.isEmpty then #[none] else #[]) ++
                ((((es.filter fun e => !seen.contains e.2.2).filter fun e => decide (e.2.2 < since)).map (concEntry ι)).toArray ++ (((es.filter fun e => !seen.contains e.2.2).filter fun e => decide (e.2.2 ≥ since)).map (concEntry ι)).toArray).map some
              match candidates[← choose (.mapNext candidates.size)]? with
              | some (some e) =>
                setObj (ι r).block (.mapIter (some (ι m).block) since (seen.toArray.push e.born) clock)
                pure (.tuple #[.bool true, e.key, e.val])
              | some none => pure (.tuple #[.bool false])
              | none => stuck "Next: no such candidate" : Sem Value)).run P w := by
            simp only [Instr.next, conc, hat, Sem.run_bind, hg, Result.andThen_ok, Option.map_some, hgm]
            rw [if_neg (by rw [hgone']; simp)]
            simp only [hleft, hold, hnew, Sem.run_bind]
            rfl
          rw [hstart]
          split at h
          · rename_i h1 h2
            simp at h
            obtain ⟨rfl, rfl⟩ := h
            refine ⟨w, ?_, R, Ext.refl _ _ _, by simp [ids, idsL, boolV]⟩
            simp only [h1, h2]
            simp [Question.forced, conc, concL, boolV]
          · rename_i e h1 h2
            simp at h
            obtain ⟨rfl, rfl⟩ := h
            have hmem : e ∈ es := by
              have : e ∈ ((es.filter fun e => !seen.contains e.2.2).filter fun e => decide (e.2.2 < since)) := by rw [h1]; simp
              exact (List.mem_filter.1 (List.mem_filter.1 this).1).1
            have hso := run_setObj P w (ι r).block _ (.mapIter (some (ι m).block) since (seen ++ [e.2.2]).toArray clock) hheap (by simp)
            have ho := only_setIf w (ι r).block (.mapIter (some (ι m).block) since (seen ++ [e.2.2]).toArray clock)
            have hset := R.set (o := .mapiter (some m) since (seen ++ [e.2.2]) clock) hr (by rw [heq]; rfl) ho.size ho.other ho.os
              ⟨hs, by rw [heap_setIf w _ _ hlt]; simp, by rintro b hb'; cases hb'; exact hb⟩
            refine ⟨_, ?_, hset.1, hset.2, by simp [ids, idsL, boolV]; exact hids e hmem⟩
            simp only [h1, h2]
            simp [Question.forced, concEntry]
            rw [hso]
            simp [conc, concL, boolV]
          · simp at h
    · simp at h
  · simp at h

omit F in
theorem run_entryV (R : Rep D ι σ w) {it v : AV} (h : entryV σ it = .ok v) :
    (Instr.entry (conc ι it)).run P w = .ok (conc ι v) w ∧ ids ι (· < σ.n) v := by
  unfold entryV at h
  split at h
  · rename_i r
    simp only [bind_ok] at h
    obtain ⟨o, ho, h⟩ := h
    obtain ⟨hr, heq⟩ := get_ok ho
    have hrep := R.obj r hr
    rw [heq] at hrep
    split at h
    · rename_i m since seen stepped
      obtain ⟨hs, hheap, hm'⟩ := hrep
      have hg := run_getObj P w (ι r).block _ hheap (by simp)
      have hat : (ι r).at 0 = ⟨(ι r).block, 0, none⟩ := by simp [Loc.at, hs]
      simp only [bind_ok] at h
      obtain ⟨⟨es, clock⟩, hm, h⟩ := h
      obtain ⟨hids, hx⟩ := mapOf_ok R hm
      rcases hx with ⟨hx, _⟩ | ⟨b', hx, hb, heqm, hshift, hheapm⟩
      · cases hx
      · cases hx
        have hgm := run_getObj P w (ι m).block _ hheapm (by simp)
        split at h
        · rename_i hcl
          split at h
          · rename_i stamp hst
            split at h
            · rename_i x hx
              simp at h; subst h
              have hmem : x ∈ es := List.mem_of_find?_eq_some hx
              refine ⟨?_, by simp [ids, idsL, hids x hmem]⟩
              have hback : seen.toArray.back? = some stamp := by simpa using hst
              have hfind : (es.map (concEntry ι)).toArray.find? (fun e => e.born == stamp) = some (concEntry ι x) := by
                rw [List.find?_toArray, List.find?_map]
                have : ((fun e : MapEntry => e.born == stamp) ∘ concEntry ι) = fun e => e.2.2 == stamp := rfl
                rw [this, hx]; rfl
              simp only [Instr.entry, conc, hat, Sem.run_bind, hg, Result.andThen_ok, Option.map_some, hback, hgm]
              rw [if_neg (by simp; exact hcl)]
              simp [hfind, concEntry, concL]
            · simp at h
          · simp at h
        · simp at h
    · simp at h
  · simp at h
end
end Go.Dt
namespace Go.Dt
section
variable {D : Tab} {P : Program} (F : Fits D P) {ι : Nat → Loc} {σ : St} {w : World}

theorem concL_bytes (ι : Nat → Loc) (l : List UInt8) : concL ι (l.map fun c => intV .u8 c.toNat) = l.map fun c => Value.int .u8 c.toNat := by
  induction l with
  | nil => simp [concL]
  | cons c l ih =>
    simp only [List.map_cons, concL, ih]
    simp [intV, conc]

/-- the source of an append or a copy: its length, and its first cells -/
theorem run_srcCells (R : Rep D ι σ w) {sz n : Nat} {x : AV} {new : List AV} (h : srcCells σ sz x = .ok (new, n)) :
    (Builtin.lenOf (conc ι x)).run P w = .ok n w ∧ idsL ι (· < σ.n) new ∧ new.length = n * sz ∧
    (∀ m, m ≤ n → (Builtin.firstCells sz m (conc ι x)).run P w = .ok (concL ι (new.take (m * sz))).toArray w) := by
  unfold srcCells at h
  split at h
  · simp at h
    obtain ⟨rfl, rfl⟩ := h
    refine ⟨by simp [Builtin.lenOf, conc], by simp [idsL], by simp, fun m hm => ?_⟩
    have : m = 0 := by omega
    subst this
    simp [Builtin.firstCells, conc, concL]
  · rename_i b o l s
    simp at h
    obtain ⟨rfl, rfl⟩ := h
    obtain ⟨a, c, hc⟩ := conc_sliceZ ι b o l s
    rw [hc]
    refine ⟨by simp [Builtin.lenOf], by simp [idsL], by simp, fun m hm => ?_⟩
    have : m = 0 := by omega
    subst this
    simp [Builtin.firstCells, Go.loadCells, loadCellsFrom, concL]
  · rename_i l
    split at h
    · rename_i h1
      subst h1
      simp at h
      obtain ⟨rfl, rfl⟩ := h
      refine ⟨by simp [Builtin.lenOf, conc, ByteArray.size], ?_, by simp, fun m hm => ?_⟩
      · exact idsL_iff.2 fun v hv => by
          simp only [List.mem_map] at hv
          obtain ⟨c, _, rfl⟩ := hv
          simp [intV, ids]
      · simp only [Builtin.firstCells, conc, Sem.run_pure, extract_bytes, Nat.mul_one]
        congr 1
        apply Array.ext'
        simp [concL_bytes, ← List.map_take]
    · simp at h
  · rename_i b o len cap s
    simp only [bind_ok, pure_ok, Prod.mk.injEq] at h
    obtain ⟨cs, hcs, l, hl, rfl, rfl⟩ := h
    obtain ⟨hb, elem, own, sz', ho⟩ := cellsOf_ok hcs
    obtain ⟨c, hc⟩ := conc_slice ι b o len cap s
    obtain ⟨h1, h2⟩ := takeN_ok hl
    have := R.loadCells (P := P) hb ho hl
    rw [hc]
    refine ⟨by simp [Builtin.lenOf], this.2, h2, fun m hm => ?_⟩
    have hm' : m * sz ≤ len * sz := Nat.mul_le_mul_right _ hm
    have htake : takeN cs o (m * sz) = .ok (l.take (m * sz)) := by
      have e : l.take (m * sz) = (cs.drop o).take (m * sz) := by rw [h1, List.take_take, Nat.min_eq_left hm']
      unfold takeN
      rw [← e, if_pos (by rw [List.length_take, h2]; omega)]
    have := R.loadCells (P := P) hb ho htake
    simp only [Builtin.firstCells]
    exact this.1
  · simp at h

theorem run_nextslicecap (need c : Nat) (h : c < need) : Builtin.nextslicecap need c ≤ 2 * need + 1000 := by
  unfold Builtin.nextslicecap
  split
  · omega
  · split
    · omega
    · have : ∀ (r x : Nat), x ≤ 2 * need + 1000 → Builtin.growBy need r x ≤ 2 * need + 1000 := by
        intro r
        induction r with
        | zero => intro x hx; simpa [Builtin.growBy] using hx
        | succ r ih =>
          intro x hx
          simp only [Builtin.growBy]
          split
          · exact hx
          · exact ih _ (by omega)
      exact this _ _ (by omega)

/-- a block of one's own is taken over under a new name -/
theorem Rep.reuse (R : Rep D ι σ w) {b : Nat} {o : AO} {L : Loc} {w' : World} (hb : b < σ.n) (hm : (σ.getO b).isMut = true)
    (hL : L.block = (ι b).block) (hw : Only (ι b).block w w') (ho : ORep (upd ι σ.n L) (· < σ.n + 1) o L w') :
    Rep D (upd ι σ.n L) ((σ.set b .gone).push o) w' ∧ Ext ι σ w (upd ι σ.n L) ((σ.set b .gone).push o) w' := by
  have hlen : (σ.set b .gone).l.length = (σ.set b .gone).n := by simp [St.set, R.len]
  have hn : (σ.set b .gone).n = σ.n := rfl
  have hmb : σ.getO b ≠ .gone := by intro e; rw [e] at hm; simp [AO.isMut] at hm
  have hold : ∀ b', b' < σ.n → ((σ.set b .gone).push o).getO b' = if b = b' then .gone else σ.getO b' := fun b' hb' => by
    rw [getO_push_old (by rw [hn]; exact hb')]
    split
    · rename_i e; subst e; exact getO_set_same R.len hb
    · rename_i e; exact getO_set_other hb e
  have hnew : ((σ.set b .gone).push o).getO σ.n = o := by
    have := getO_push_new (σ := σ.set b .gone) (o := o)
    rwa [hn] at this
  refine ⟨⟨by simp [St.push, St.set, R.len], Nat.le_succ_of_le R.glob, fun g hg => ?_, fun b' hb' => ?_, fun b1 b2 hb1 hb2 hne hm1 hg2 => ?_, R.mem⟩, ?_⟩
  · rw [upd_old (by have := R.glob; omega)]; exact R.gloc g hg
  · change b' < σ.n + 1 at hb'
    by_cases he : b' = σ.n
    · subst he; rw [hnew, upd_new]; exact ho
    · have hb1 : b' < σ.n := by omega
      rw [hold b' hb1, upd_old he]
      split
      · trivial
      · rename_i hne
        by_cases hg : σ.getO b' = .gone
        · rw [hg]; trivial
        · exact ((R.obj b' hb1).mono kpush).congr (hw.other _ fun e => R.sep b b' hb hb1 hne hm hg e.symm)
  · change b1 < σ.n + 1 at hb1
    change b2 < σ.n + 1 at hb2
    by_cases he1 : b1 = σ.n
    · subst he1
      have hb2' : b2 < σ.n := by omega
      rw [hold b2 hb2'] at hg2
      rw [upd_new, upd_old (by omega), hL]
      split at hg2
      · exact (hg2 rfl).elim
      · rename_i hne2
        exact R.sep b b2 hb hb2' hne2 hm hg2
    · have hb1' : b1 < σ.n := by omega
      rw [hold b1 hb1'] at hm1
      split at hm1
      · simp [AO.isMut] at hm1
      · rename_i hne1
        by_cases he2 : b2 = σ.n
        · subst he2
          rw [upd_new, upd_old he1, hL]
          exact R.sep b1 b hb1' hb (fun e => hne1 e.symm) hm1 hmb
        · have hb2' : b2 < σ.n := by omega
          rw [hold b2 hb2'] at hg2
          rw [upd_old he1, upd_old he2]
          split at hg2
          · exact (hg2 rfl).elim
          · exact R.sep b1 b2 hb1' hb2' hne hm1 hg2
  · refine ⟨hw.os.1, hw.os.2.1, hw.os.2.2, by rw [hw.size]; exact Nat.le_refl _, by simp [St.push, St.set], fun b' hb' => upd_old (by omega), fun r hr hno => hw.other r fun e => hno b hb hm e.symm, fun b' hb' hm' => ?_⟩
    change b' < σ.n + 1 at hb'
    right
    by_cases he : b' = σ.n
    · subst he; exact ⟨b, hb, AO.isMut_ne hm, fun _ => hm, by rw [upd_new, hL]⟩
    · have hb1 : b' < σ.n := by omega
      rw [hold b' hb1] at hm' ⊢
      split at hm'
      · exact (hm' rfl).elim
      · rename_i hne
        exact ⟨b', hb1, hm', fun h => by rw [if_neg hne] at h; exact h, by rw [upd_old he]⟩

theorem zeroCells_size (z : Array Value) (n : Nat) : (Builtin.zeroCells z n).size = n * z.size := by simp [Builtin.zeroCells]

/-- what a growing append leaves: a new row that begins with the cells given -/
theorem grown_row (R : Rep D ι σ w) {elem sz k c : Nat} {cs : List AV} {rest : Array Value} (_ : 0 < sz) (hids : idsL ι (· < σ.n) cs) (hk : k ≤ c)
    (hcs : cs.length = k * sz) (hrest : rest.size = (c - k) * sz) :
    Rep D (upd ι σ.n ⟨w.heap.size, 0, c, sz⟩) (σ.push (.cells cs elem true sz)) (w.alloc (.cells ((concL ι cs).toArray ++ rest) elem)) ∧
    Ext ι σ w (upd ι σ.n ⟨w.heap.size, 0, c, sz⟩) (σ.push (.cells cs elem true sz)) (w.alloc (.cells ((concL ι cs).toArray ++ rest) elem)) := by
  refine R.push rfl ⟨idsL_mono kpush cs hids, rfl, _, (0, 0), heap_alloc_new w _, fun i v hv => ?_, fun _ => ⟨rfl, ?_, Nat.dvd_zero _⟩⟩
  · have hlt : i < cs.length := (List.getElem?_eq_some_iff.1 hv).1
    rw [conc_agree (fun x hx => (kpush x hx).2) v (idsL_get hids hv)]
    rw [Array.getElem?_append_left (by simp; omega)]
    simp [hv]
  · show 0 + c * sz ≤ _
    simp only [Array.size_append, List.size_toArray, concL_length, hcs, hrest]
    rw [← Nat.add_mul]
    have : k + (c - k) = c := by omega
    rw [this]; omega

theorem int_not {xd : TypeDesc} (h : isIntD xd = false) (k : IntKind) : xd = .int k → False := by
  rintro rfl; simp [isIntD] at h

include F
theorem run_appendV (R : Rep D ι σ w) {sT xT : Nat} {s x v : AV} {σ' : St} {ts : Array TypeId} {ty : TypeId} (h : appendV D σ sT xT s x = .ok (v, σ'))
    (hts : ts = #[sT, xT]) (hs : ids ι (· < σ.n) s) :
    ∃ ι' w', (Builtin.append_ ts ty #[conc ι s, conc ι x]).run P w = .ok (conc ι' v) w' ∧ Rep D ι' σ' w' ∧ Ext ι σ w ι' σ' w' ∧ ids ι' (· < σ'.n) v := by
  subst hts
  simp only [appendV, bind_ok] at h
  obtain ⟨elem, hel, sz, hsz, i, hi, xd, hxd, z, hz, ⟨new, n⟩, hsrc, h⟩ := h
  have hd := sliceElem_ok hel
  obtain ⟨hlen, hnew, hnl, hfirst⟩ := run_srcCells (P := P) R hsrc
  split at h
  · simp at h
  · rename_i hcond
    have hcond' : (decide (n < 2 ^ 30) && decide (0 < i.bytes ∧ i.bytes < 2 ^ 14 ∧ 0 < sz) && !isIntD xd && z.cells.length == sz) = true := by
      rw [Bool.not_eq_true', Bool.not_eq_false] at hcond
      exact hcond
    simp only [Bool.and_eq_true, decide_eq_true_eq, beq_iff_eq, Bool.not_eq_true'] at hcond'
    obtain ⟨⟨⟨hn30, hby, hby2, hszpos⟩, hxt⟩, hzl⟩ := hcond'
    have hnewAll : (Builtin.firstCells sz n (conc ι x)).run P w = .ok (concL ι new).toArray w := by
      have := hfirst n (Nat.le_refl _)
      rwa [List.take_of_length_le (by omega)] at this
    -- the growing arm, whatever the old slice
    have grow : ∀ (sv : AV) (base : Option Addr) (sLen sCap : Nat) (old : List AV), conc ι sv = .slice base sLen sCap → sLen + n < 2 ^ 30 → sCap < sLen + n →
        (∀ w', w'.heap = w.heap → (Builtin.firstCells sz sLen (conc ι sv)).run P w' = .ok (concL ι old).toArray w') → idsL ι (· < σ.n) old → old.length = sLen * sz →
        ∃ c, sLen + n ≤ c ∧ (Builtin.append_ #[sT, xT] ty #[conc ι sv, conc ι x]).run P w =
          .ok (.slice (some ⟨w.heap.size, 0, none⟩) (sLen + n) c) (w.drew.alloc (.cells ((concL ι (old ++ new)).toArray ++ Builtin.zeroCells (conc ι z).cells (c - (sLen + n))) elem)) := by
      intro sv base sLen sCap old hsv hneed hcap hold hoi hol
      have hns := run_nextslicecap (sLen + n) sCap hcap
      have hnb : ¬ (Builtin.nextslicecap (sLen + n) sCap * i.bytes > 2 ^ 48) := by
        have h1 : Builtin.nextslicecap (sLen + n) sCap * i.bytes ≤ (2 ^ 31 + 1000) * 2 ^ 14 := Nat.mul_le_mul (by omega) (by omega)
        have h2 : (2 ^ 31 + 1000) * 2 ^ 14 ≤ 2 ^ 48 := by decide
        omega
      refine ⟨(Question.appendCap (sLen + n) sCap elem).cut (w.tape w.drawn (.appendCap (sLen + n) sCap elem)), by simp [Question.cut], ?_⟩
      generalize hc : (Question.appendCap (sLen + n) sCap elem).cut (w.tape w.drawn (.appendCap (sLen + n) sCap elem)) = c
      simp only [Builtin.append_, List.getElem?_toArray, List.getElem?_cons_zero, List.getElem?_cons_succ, Sem.run_bind, run_und F w hd, Result.andThen_ok, hsv, run_size F w hsz, run_und F w hxd, Sem.run_pure]
      have hx := int_not hxt
      simp only [Bool.false_eq_true, if_false, hlen, Sem.run_bind, Result.andThen_ok]
      rw [if_neg (by omega)]
      simp only [Sem.run_bind, run_inf F w hi, Result.andThen_ok, false_or]
      rw [if_neg (by omega)]
      simp only [Sem.run_bind, run_inf F w hi, Result.andThen_ok]
      rw [if_neg hnb]
      have hq : (Question.appendCap (sLen + n) sCap elem).forced = false := rfl
      obtain ⟨_, _, _, hfirst'⟩ := run_srcCells (P := P) R.drew hsrc
      have hnewAll' : (Builtin.firstCells sz n (conc ι x)).run P w.drew = .ok (concL ι new).toArray w.drew := by
        have := hfirst' n (Nat.le_refl _)
        rwa [List.take_of_length_le (by omega)] at this
      have hold' := hold w.drew rfl
      rw [hsv] at hold'
      simp only [Sem.run_bind, run_choose, hq, Bool.false_eq_true, if_false, Result.andThen_ok, hc, World.drew_eq, run_inf F w.drew hi, run_askRoom, hold', Bool.not_false, if_true, hnewAll', run_zero F (ι := ι) w.drew hz, run_newRow, Sem.run_pure]
      simp []
    -- the new row's representation
    have grown : ∀ (ι0 : Nat → Loc) (σ0 : St) (w0 : World) (c k : Nat) (cs : List AV), Rep D ι0 σ0 w0 → idsL ι0 (· < σ0.n) cs → k ≤ c → cs.length = k * sz →
        Rep D (upd ι0 σ0.n ⟨w0.heap.size, 0, c, sz⟩) (σ0.push (.cells cs elem true sz)) (w0.alloc (.cells ((concL ι0 cs).toArray ++ Builtin.zeroCells (conc ι z).cells (c - k)) elem)) ∧
        Ext ι0 σ0 w0 (upd ι0 σ0.n ⟨w0.heap.size, 0, c, sz⟩) (σ0.push (.cells cs elem true sz)) (w0.alloc (.cells ((concL ι0 cs).toArray ++ Builtin.zeroCells (conc ι z).cells (c - k)) elem)) := by
      intro ι0 σ0 w0 c k cs R0 hids hk hcs
      refine grown_row R0 hszpos hids hk hcs ?_
      rw [zeroCells_size, conc_cells]
      simp [hzl]
    split at h
    · -- the nil slice
      split at h
      · rename_i hn0
        simp at h
        obtain ⟨rfl, rfl⟩ := h
        simp only at hn0
        subst hn0
        refine ⟨ι, w, ?_, R, Ext.refl _ _ _, by simp [ids]⟩
        have hx := int_not hxt
        simp only [Builtin.append_, List.getElem?_toArray, List.getElem?_cons_zero, List.getElem?_cons_succ, Sem.run_bind, run_und F w hd, Result.andThen_ok, conc, run_size F w hsz, run_und F w hxd, Sem.run_pure]
        simp only [Bool.false_eq_true, if_false, hlen, Sem.run_bind, Result.andThen_ok]
        rw [if_pos (by omega)]
        simp [hnewAll]
      · rename_i hn0
        simp at h
        obtain ⟨rfl, rfl⟩ := h
        obtain ⟨c, hc, hrun⟩ := grow (.base (.slice none 0 0)) none 0 0 [] (by simp [conc]) (by omega) (by simp only at hn0; omega) (fun w' _ => by simp [Builtin.firstCells, conc, concL]) (by simp [idsL]) (by simp)
        have hg := grown ι σ w.drew c n new R.drew hnew (by omega) hnl
        refine ⟨_, _, ?_, hg.1, (Ext.drew ι σ w).trans hg.2, ?_⟩
        · rw [hrun]
          simp [conc, upd_new, Loc.at]
        · refine ⟨by simp [St.push], by rw [upd_new], hszpos, ?_⟩
          rw [upd_new]; simp; omega
    · rename_i b o len cap sz'
      split at h
      · simp at h
      · rename_i hneed
        have hneed' : (decide (len + n < 2 ^ 30) && sz' == sz) = true := by
          rw [Bool.not_eq_true', Bool.not_eq_false] at hneed
          exact hneed
        simp only [Bool.and_eq_true, decide_eq_true_eq, beq_iff_eq] at hneed'
        obtain ⟨hneed2, rfl⟩ := hneed'
        simp only [bind_ok] at h
        obtain ⟨cs, hcs, old, hold, h⟩ := h
        obtain ⟨hb, elem', own, szb, ho⟩ := cellsOf_ok hcs
        obtain ⟨ho1, ho2⟩ := takeN_ok hold
        have hload := R.loadCells (P := P) hb ho hold
        have holdr : ∀ c w', w'.heap = w.heap → (Builtin.firstCells sz' len (.slice (some ((ι b).at o)) len c)).run P w' = .ok (concL ι old).toArray w' := by
          intro c w' hw'
          simp only [Builtin.firstCells]
          exact ((R.of_heap hw').loadCells (P := P) hb ho hold).1
        -- the arm in place, whatever the capacity
        have inplace : ∀ c, conc ι (.slice b o len cap sz') = .slice (some ((ι b).at o)) len c → len + n ≤ c →
            (Builtin.append_ #[sT, xT] ty #[conc ι (.slice b o len cap sz'), conc ι x]).run P w =
              ((Go.storeCells ((ι b).at (o + len * sz')) (concL ι new)).run P w).andThen fun _ w' => .ok (.slice (some ((ι b).at o)) (len + n) c) w' := by
          intro c hcv hle
          have hx := int_not hxt
          rw [hcv]
          simp only [Builtin.append_, List.getElem?_toArray, List.getElem?_cons_zero, List.getElem?_cons_succ, Sem.run_bind, run_und F w hd, Result.andThen_ok, run_size F w hsz, run_und F w hxd, Sem.run_pure]
          simp only [Bool.false_eq_true, if_false, hlen, Sem.run_bind, Result.andThen_ok]
          rw [if_pos hle]
          simp [hnewAll, at_add]
        split at h
        · -- the capacity is known
          rename_i c
          have hcv : conc ι (.slice b o len (some c) sz') = .slice (some ((ι b).at o)) len c := by simp [conc]
          split at h
          · rename_i hle
            simp only [bind_ok, pure_ok, Prod.mk.injEq] at h
            obtain ⟨σ1, hst, rfl, rfl⟩ := h
            obtain ⟨w', h1, h2, h3⟩ := run_store_own (P := P) R hst hnew
            refine ⟨ι, w', ?_, h2, h3, ?_⟩
            · rw [inplace c hcv hle, h1]
              simp [conc]
            · have := h3.n
              simp only [ids] at hs ⊢
              omega
          · rename_i hle
            simp at h
            obtain ⟨rfl, rfl⟩ := h
            obtain ⟨c', hc', hrun⟩ := grow (.slice b o len (some c) sz') _ len c old hcv hneed2 (by omega) (fun w' hw' => by rw [hcv]; exact holdr c w' hw') hload.2 ho2
            have hg := grown ι σ w.drew c' (len + n) (old ++ new) R.drew (idsL_append.2 ⟨hload.2, hnew⟩) hc' (by simp [ho2, hnl, Nat.add_mul])
            refine ⟨_, _, ?_, hg.1, (Ext.drew ι σ w).trans hg.2, ?_⟩
            · rw [hrun]
              simp [conc, upd_new, Loc.at]
            · refine ⟨by simp [St.push], by rw [upd_new], hszpos, ?_⟩
              rw [upd_new]; simp; omega
        · -- an open block
          split at h
          · rename_i cs2 elem2 own2 szb2 ho'
            rw [ho] at ho'
            cases ho'
            split at h
            · simp at h
            · rename_i hcc
              have hcc' : (elem' == elem && own && szb == sz' && o % sz' == 0) = true := by
                rw [Bool.not_eq_true', Bool.not_eq_false] at hcc
                exact hcc
              simp only [Bool.and_eq_true, beq_iff_eq] at hcc'
              obtain ⟨⟨⟨rfl, rfl⟩, rfl⟩, hmod⟩ := hcc'
              split at h
              · simp at h
              · rename_i hone
                have hone' : new.all AV.oneCell = true := by
                  rw [Bool.not_eq_true', Bool.not_eq_false] at hone
                  exact hone
                simp at h
                obtain ⟨rfl, rfl⟩ := h
                obtain ⟨hA, hL, _, hfit⟩ := hs
                have hcv : conc ι (.slice b o len none szb) = .slice (some ((ι b).at o)) len ((ι b).capz - o / szb) := by simp [conc, hL]
                have hmut : (σ.getO b).isMut = true := by rw [ho]; rfl
                by_cases hle : len + n ≤ (ι b).capz - o / szb
                · -- in place
                  have hr := R.obj b hb
                  rw [ho] at hr
                  obtain ⟨r1, r2, arr, fz, r3, r4, r5⟩ := hr
                  obtain ⟨rfl, r6, r7⟩ := r5 rfl
                  have hod : o / szb * szb = o := Nat.div_mul_cancel (Nat.dvd_of_mod_eq_zero hmod)
                  have hcap : o + (len + n) * szb ≤ (ι b).capz * szb := by
                    have : (o / szb + (len + n)) * szb ≤ (ι b).capz * szb := Nat.mul_le_mul_right _ (by omega)
                    rw [Nat.add_mul, hod] at this
                    exact this
                  have hfit2 : (ι b).shift + (o + len * szb) + 0 + (concL ι new).length ≤ arr.size := by
                    rw [concL_length, hnl]
                    rw [Nat.add_mul] at hcap
                    omega
                  obtain ⟨w', arr', s1, s2, s3, s4, s5⟩ := run_storeCells P (ι b).block ((ι b).shift + (o + len * szb)) elem' (concL ι new) 0 arr w r3 hfit2 (fun v hv => by
                    rw [concL_eq, List.mem_map] at hv
                    obtain ⟨y, hy, rfl⟩ := hv
                    exact conc_oneCell' (List.all_eq_true.1 hone' y hy))
                  have hcapz' : ((ι b).capz - o / szb) * szb = (ι b).capz * szb - o := by rw [Nat.sub_mul, hod]
                  have hu := R.reuse (o := .cells (old ++ new) elem' true szb) (L := ⟨(ι b).block, (ι b).shift + o, (ι b).capz - o / szb, szb⟩) hb hmut rfl s2
                    ⟨idsL_mono kpush _ (idsL_append.2 ⟨hload.2, hnew⟩), rfl, arr', (0, 0), s3, fun i v hv => by
                      have hi2 := idsL_get (idsL_append.2 ⟨hload.2, hnew⟩) hv
                      rw [conc_agree (fun x hx => (kpush x hx).2) v hi2, s5, concL_length, hnl]
                      show (if _ ≤ (ι b).shift + o + i ∧ (ι b).shift + o + i < _ then _ else _) = _
                      by_cases hi : i < old.length
                      · rw [List.getElem?_append_left hi] at hv
                        rw [if_neg (by rw [ho2] at hi; omega)]
                        have : cs[o + i]? = some v := by
                          rw [ho1, List.getElem?_take] at hv
                          split at hv
                          · simpa using hv
                          · simp at hv
                        have := r4 _ _ this
                        rw [← this]; congr 1
                        show (ι b).shift + o + i = _
                        omega
                      · have hlt : i < (old ++ new).length := (List.getElem?_eq_some_iff.1 hv).1
                        rw [List.getElem?_append_right (by omega)] at hv
                        rw [List.length_append, ho2, hnl] at hlt
                        rw [ho2] at hv hi
                        rw [if_pos (by omega)]
                        have : (ι b).shift + o + i - ((ι b).shift + (o + len * szb) + 0) = i - len * szb := by omega
                        rw [this, concL_getElem?, hv]; rfl, fun _ => ⟨rfl, by
                      show (ι b).shift + o + ((ι b).capz - o / szb) * szb ≤ arr'.size
                      rw [hcapz', s4]; omega, Nat.dvd_add r7 (Nat.dvd_of_mod_eq_zero hmod)⟩⟩
                  refine ⟨_, w', ?_, hu.1, hu.2, ?_⟩
                  · rw [inplace _ hcv hle]
                    have : (Go.storeCells ((ι b).at (o + len * szb)) (concL ι new)).run P w = .ok () w' := s1
                    rw [this]
                    simp [conc, upd_new, Loc.at]
                  · refine ⟨by simp [St.push, St.set], by rw [upd_new], hszpos, ?_⟩
                    rw [upd_new]; simp; omega
                · -- a new row
                  obtain ⟨c', hc', hrun⟩ := grow (.slice b o len none szb) _ len _ old hcv hneed2 (by omega) (fun w' hw' => by rw [hcv]; exact holdr _ w' hw') hload.2 ho2
                  have hg := grown ι (σ.set b .gone) w.drew c' (len + n) (old ++ new) (R.drew.forget hb) (idsL_append.2 ⟨hload.2, hnew⟩) hc' (by simp [ho2, hnl, Nat.add_mul])
                  have hfe : Ext ι σ w ι (σ.set b .gone) w.drew := by
                    refine ⟨rfl, rfl, rfl, Nat.le_refl _, Nat.le_refl _, fun _ _ => rfl, fun _ _ _ => rfl, fun b' hb' hm' => ?_⟩
                    change b' < σ.n at hb'
                    by_cases he : b = b'
                    · subst he; rw [getO_set_same R.len hb] at hm'; exact (hm' rfl).elim
                    · rw [getO_set_other hb he] at hm' ⊢
                      exact .inr ⟨b', hb', hm', id, rfl⟩
                  refine ⟨_, _, ?_, hg.1, hfe.trans hg.2, ?_⟩
                  · rw [hrun]
                    simp [conc, upd_new, Loc.at, St.set]
                  · refine ⟨by simp [St.push, St.set], by simp [St.set, upd_new], hszpos, ?_⟩
                    simp [St.set, upd_new]; omega
          · simp at h
    · simp at h

omit F in
theorem frozen_row (w : World) (cells : Array Value) (elem : TypeId) :
    (w.alloc (.cells cells elem)).freeze ⟨w.heap.size, cells.size, none⟩ 1 = w.alloc (.cells cells elem (cells.size, cells.size + 1)) := by
  simp only [World.freeze, World.alloc, Nat.one_ne_zero, if_false]
  congr 1
  apply Array.ext_getElem?
  intro i
  simp only [Array.getElem?_modify, Array.getElem?_push]
  by_cases h : w.heap.size = i
  · subst h; simp
  · simp [h, Ne.symm h]

theorem run_toBytesV (R : Rep D ι σ w) {s d : Nat} {x v : AV} {σ' : St} (h : toBytesV D σ s d x = .ok (v, σ')) :
    ∃ ι' w', (Go.convert s d (conc ι x)).run P w = .ok (conc ι' v) w' ∧ Rep D ι' σ' w' ∧ Ext ι σ w ι' σ' w' ∧ ids ι' (· < σ'.n) v := by
  simp only [toBytesV, bind_ok] at h
  obtain ⟨st, hst, dt, hdt, h⟩ := h
  split at h
  · rename_i el l
    simp only [bind_ok] at h
    obtain ⟨et, het, h⟩ := h
    split at h
    · simp only [pure_ok, Prod.mk.injEq] at h
      obtain ⟨rfl, rfl⟩ := h
      obtain ⟨c, hc0⟩ : ∃ c, (Question.appendCap l.length 0 el).cut (w.tape w.drawn (.appendCap l.length 0 el)) = c := ⟨_, rfl⟩
      have hc : l.length ≤ c := by rw [← hc0]; simp [Question.cut]
      obtain ⟨cells, hcells⟩ : ∃ cells : Array Value, cells = (concL ι (l.map fun c => intV .u8 c.toNat)).toArray ++ Array.replicate (c - l.length) (.int .u8 0) := ⟨_, rfl⟩
      have hsh : (w.drew.alloc (.cells cells el)).shape? w.heap.size = some (el, cells.size) := by
        simp [World.shape?, World.alloc, World.drew, -World.alloc_eq, -World.drew_eq]
      have hrun : (Go.convert s d (conc ι (.base (.string ⟨⟨l⟩⟩)))).run P w =
          .ok (.slice (some ⟨w.heap.size, 0, none⟩) l.length c) (w.drew.alloc (.cells cells el (cells.size, cells.size + 1))) := by
        have e1 : (Array.map (fun b => Value.int .u8 b.toNat) (⟨l⟩ : Array UInt8) : Array Value) = (concL ι (l.map fun c => intV .u8 c.toNat)).toArray := by
          apply Array.ext'; simp [concL_bytes]
        have hq : (Question.appendCap l.length 0 el).forced = false := rfl
        have hsz : (⟨⟨l⟩⟩ : ByteArray).size = l.length := rfl
        simp only [Go.convert, Sem.run_bind, run_und F w hst, run_und F w hdt, run_und F w het, Result.andThen_ok, conc, Conv.stringToBytes, hsz, run_choose, hq, Bool.false_eq_true, if_false, hc0, World.drew_eq, run_newRow, e1, ← hcells]
        have h2 : (markStringish ⟨w.heap.size, 0, none⟩).run P (w.drew.alloc (.cells cells el)) = .ok () (w.drew.alloc (.cells cells el (cells.size, cells.size + 1))) := by
          have := frozen_row w.drew cells el
          rw [← this]
          simp [markStringish, hsh, -World.alloc_eq, -World.drew_eq, Result.andThen]
        have h3 : w.drew.heap.size = w.heap.size := rfl
        rw [h3, h2]
        simp only [Result.andThen_ok, Sem.run_pure]
      have hp := R.drew.push (o := .cells (l.map fun c => intV .u8 c.toNat) el false 1) (ob := .cells cells el (cells.size, cells.size + 1)) (L := ⟨w.heap.size, 0, c, 1⟩) rfl
        ⟨idsL_iff.2 fun v hv => by
            simp only [List.mem_map] at hv
            obtain ⟨c, _, rfl⟩ := hv
            simp [intV, ids], rfl, cells, (cells.size, cells.size + 1), heap_alloc_new w.drew _, fun i v hv => by
            have hlt := (List.getElem?_eq_some_iff.1 hv).1
            rw [List.getElem?_map] at hv
            simp only [hcells, Nat.zero_add]
            rw [Array.getElem?_append_left (by simpa [concL_length] using hlt)]
            simp only [concL_bytes, List.getElem?_toArray, List.getElem?_map]
            cases hl : l[i]? with
            | none => rw [hl] at hv; simp at hv
            | some b => rw [hl] at hv; simp at hv; subst hv; simp [intV, conc], fun h => by cases h⟩
      refine ⟨_, _, hrun.trans ?_, hp.1, (Ext.drew ι σ w).trans hp.2, ?_⟩
      · simp [conc, upd_new, Loc.at]
      · refine ⟨by simp [St.push], by rw [upd_new], by omega, ?_⟩
        rw [upd_new]; simp; omega
    · simp at h
  · simp at h
end
end Go.Dt
namespace Go.Dt
section
variable {D : Tab} {P : Program} (F : Fits D P) {ι : Nat → Loc} {σ : St} {w : World}

include F
theorem run_copyV (R : Rep D ι σ w) {dT : Nat} {d x v : AV} {σ' : St} {ts : Array TypeId} {ty : TypeId} (h : copyV D σ dT d x = .ok (v, σ')) (hts : ts[0]? = some dT) :
    ∃ w', (Builtin.copy_ ts ty #[conc ι d, conc ι x]).run P w = .ok (conc ι v) w' ∧ Rep D ι σ' w' ∧ Ext ι σ w ι σ' w' ∧ ids ι (· < σ'.n) v := by
  simp only [copyV, bind_ok] at h
  obtain ⟨elem, hel, sz, hsz, h⟩ := h
  have hd := sliceElem_ok hel
  split at h
  · rename_i b o dlen cap sz'
    simp only [bind_ok, pure_ok, Prod.mk.injEq] at h
    obtain ⟨⟨new, n⟩, hsrc, σ1, hst, rfl, rfl⟩ := h
    obtain ⟨hlen, hnew, hnl, hfirst⟩ := run_srcCells (P := P) R hsrc
    obtain ⟨w', h1, h2, h3⟩ := run_store_own (P := P) R hst (idsL_take hnew _)
    obtain ⟨c, hc⟩ := conc_slice ι b o dlen cap sz'
    refine ⟨w', ?_, h2, h3, by simp [goI, ids]⟩
    have hf := hfirst (min n dlen) (Nat.min_le_left _ _)
    simp only [Builtin.copy_, hts, List.getElem?_toArray, List.getElem?_cons_zero, List.getElem?_cons_succ, Sem.run_bind, run_und F w hd, Result.andThen_ok, hc, hlen, run_size F w hsz]
    have hmin : Nat.min n dlen = min n dlen := rfl
    rw [hmin, hf]
    simp only [Result.andThen_ok, h1, Sem.run_pure]
    simp [goI, conc, goInt]
  · simp at h

theorem run_clearV (R : Rep D ι σ w) {t : Nat} {x v : AV} {σ' : St} {ts : Array TypeId} {ty : TypeId} (h : clearV D σ t x = .ok (v, σ')) (hts : ts[0]? = some t) :
    ∃ w', (Builtin.clear_ ts ty #[conc ι x]).run P w = .ok (conc ι v) w' ∧ Rep D ι σ' w' ∧ Ext ι σ w ι σ' w' ∧ ids ι (· < σ'.n) v := by
  simp only [clearV, bind_ok] at h
  obtain ⟨elem, hel, h⟩ := h
  have hd := sliceElem_ok hel
  split at h
  · simp at h
    obtain ⟨rfl, rfl⟩ := h
    refine ⟨w, ?_, R, Ext.refl _ _ _, ids_undef _ _⟩
    simp [Builtin.clear_, hts, run_und F w hd, conc, AV.undef, concL]
  · rename_i b o n cap sz'
    simp only [bind_ok, pure_ok, Prod.mk.injEq] at h
    obtain ⟨z, hz, σ1, hst, rfl, rfl⟩ := h
    obtain ⟨c, hc⟩ := conc_slice ι b o n cap sz'
    have hzc : Builtin.zeroCells (conc ι z).cells n = (concL ι (repeatL z.cells n)).toArray := by
      have := range_map_repeat ι z.cells n
      rw [← this]
      simp [Builtin.zeroCells, conc_cells]
    obtain ⟨w', h1, h2, h3⟩ := run_store_own (P := P) R hst (idsL_repeat (ids_cells (zero_ids hz _)) n)
    refine ⟨w', ?_, h2, h3, ids_undef _ _⟩
    simp only [Builtin.clear_, hts, List.getElem?_toArray, List.getElem?_cons_zero, Sem.run_bind, run_und F w hd, Result.andThen_ok, hc]
    cases n with
    | zero =>
      simp only [repeatL, concL, Go.storeCells] at h1
      simp at h1
      subst h1
      simp [AV.undef, conc, concL]
    | succ n =>
      simp only [Sem.run_bind, run_zero F (ι := ι) w hz, Result.andThen_ok, hzc, h1, Sem.run_pure]
      simp [AV.undef, conc, concL]
  · simp at h

/- calls -/

def concNext (ι : Nat → Loc) : ANext → Option Next
  | .value v => some (.value (conc ι v))
  | .skip => some .skip
  | .enter f args => some (.enter f (concL ι args).toArray)
  | .defer d => some (.defer (concDef ι d))
  | .recover => some .recover
  | .round _ _ | .panic _ => none

def idsNext (ι : Nat → Loc) (A : Nat → Prop) : ANext → Prop
  | .value v => ids ι A v
  | .skip => True
  | .enter _ args => idsL ι A args
  | .round l args => A l ∧ idsL ι A args
  | .defer d => idsDef ι A d
  | .recover => True
  | .panic v => ids ι A v

/-- what the model's operation comes to -/
def Comes' (P : Program) (ι : Nat → Loc) (nx : ANext) (s : Sem Next) (w w' : World) : Prop :=
  match nx with
  | .round l args => s.run P w = (Instr.yield (ι l).block (concL ι args).toArray).run P w ∧ w' = w
  | .panic v => s.run P w = .halt (.panic (conc ι v)) w'
  | nx => ∃ x, concNext ι nx = some x ∧ s.run P w = .ok x w'

omit F in
theorem callFn_ok (F : Fits D P) (w : World) {f : FuncId} {args : List AV} {nx : ANext} (h : callFn D f args = .ok nx) :
    nx = .enter f args ∧ (callFunc f (concL ι args).toArray).run P w = .ok (.enter f (concL ι args).toArray) w := by
  unfold callFn at h
  split at h
  · rename_i fn hfn
    split at h
    · simp at h
    · rename_i hname
      split at h
      · rename_i hbody
        simp at h
        subst h
        refine ⟨rfl, ?_⟩
        have hb : fn.body.isNone = false := by cases hx : fn.body <;> simp_all
        simp only [callFunc, Sem.run_bind, run_program, Result.andThen_ok, F.func _ _ hfn]
        rw [if_neg (by simpa using hname), if_neg (by simp [hb])]
        simp
      · simp at h
  · simp at h

theorem methodOf_ok (w : World) {t : Nat} {v r : AV} {name : String} {f : FuncId} (h : methodOf D t v name = .ok (f, r)) (fuel : Nat) :
    r = v ∧ (Go.method (fuel + 1) t (conc ι v) name).run P w = .ok (f, conc ι v) w := by
  simp only [methodOf, bind_ok] at h
  obtain ⟨i, hi, h⟩ := h
  split at h
  · simp at h
  · rename_i m hm
    split at h
    · simp at h
    · rename_i hp
      split at h
      · simp at h
      · rename_i f' pr hf
        simp only [bind_ok] at h
        obtain ⟨d, hd, h⟩ := h
        have hpath : m.path.toList = [] := by
          have : m.path.isEmpty = true := by simpa using hp
          simpa [Array.isEmpty_iff] using this
        have hmm : i.methods.find? (fun m => m.name == name) = some m := by rw [← Array.find?_toList]; exact hm
        have key : ∀ b, (und D t = .ok d) → pr = b → (∀ (e : TypeId), d = .pointer e → b = true) → ((∀ e : TypeId, d ≠ .pointer e) → b = false) →
            (Go.method (fuel + 1) t (conc ι v) name).run P w = .ok (f', conc ι v) w := by
          intro b _ hb h1 h2
          subst hb
          simp only [Go.method, Sem.run_bind, run_inf F w hi, Result.andThen_ok, hmm, hpath, follow, Sem.run_pure, hf, receiverAt, run_und F w hd]
          cases d with
          | pointer e =>
            have := h1 e rfl
            subst this
            simp [Place.get]
          | _ =>
            have := h2 (by simp)
            subst this
            simp [Place.get]
        split at h
        · simp at h
          obtain ⟨rfl, rfl⟩ := h
          exact ⟨rfl, key true hd rfl (fun _ _ => rfl) (fun hh => (hh _ rfl).elim)⟩
        · simp at h
        · rename_i hno _
          simp at h
          obtain ⟨rfl, rfl⟩ := h
          exact ⟨rfl, key false hd rfl (fun e he => by subst he; simp_all) (fun _ => rfl)⟩
        · simp at h

theorem methodOf_recv {t : Nat} {v r : AV} {name : String} {f : FuncId} (h : methodOf D t v name = .ok (f, r)) : r = v := (methodOf_ok F default (ι := fun _ => default) h 0).1

theorem callM_ok (w : World) {recv : AV} {name : String} {args : List AV} {nx : ANext} {A : Nat → Prop} (h : callM D recv name args = .ok nx) (hr : ids ι A recv) (ha : idsL ι A args) :
    ∃ f as, nx = .enter f as ∧ idsL ι A as ∧ (callMethod (conc ι recv) name (concL ι args).toArray).run P w = .ok (.enter f (concL ι as).toArray) w := by
  unfold callM at h
  split at h
  · rename_i t v
    simp only [bind_ok] at h
    obtain ⟨⟨f, r⟩, hm, h⟩ := h
    have hfuel : P.types.size + Made.depth = (P.types.size + Made.depth - 1) + 1 := by
      have : 0 < Made.depth := by decide
      omega
    obtain ⟨rfl, hrun⟩ := methodOf_ok F (ι := ι) w hm (P.types.size + Made.depth - 1)
    obtain ⟨rfl, hcall⟩ := callFn_ok F (ι := ι) w h
    refine ⟨f, r :: args, rfl, ⟨by simpa [ids] using hr, ha⟩, ?_⟩
    simp only [callMethod, conc, Sem.run_bind, run_program, Result.andThen_ok]
    rw [hfuel, hrun]
    simp only [Result.andThen_ok]
    have : #[conc ι r] ++ (concL ι args).toArray = (concL ι (r :: args)).toArray := by simp [concL]
    rw [this]
    exact hcall
  · simp at h

omit F in
theorem extract1 (v : Value) (l : List Value) : (v :: l).toArray.extract 1 (v :: l).toArray.size = l.toArray := by simp

theorem invokeT_ok (w : World) {fn : Fn} {captured args : List AV} {nx : ANext} {A : Nat → Prop} (h : invokeT D fn captured args = .ok nx) (hc : idsL ι A captured) (ha : idsL ι A args) :
    ∃ f as, nx = .enter f as ∧ idsL ι A as ∧ (invoke (.fn fn (concL ι captured).toArray) (concL ι args).toArray).run P w = .ok (.enter f (concL ι as).toArray) w := by
  unfold invokeT at h
  split at h
  · rename_i f
    obtain ⟨rfl, hcall⟩ := callFn_ok F (ι := ι) w h
    refine ⟨f, args ++ captured, rfl, idsL_append.2 ⟨ha, hc⟩, ?_⟩
    simp only [invoke]
    have : (concL ι args).toArray ++ (concL ι captured).toArray = (concL ι (args ++ captured)).toArray := by simp
    rw [this]
    exact hcall
  · rename_i name
    split at h
    · rename_i recv args
      obtain ⟨f, as, rfl, h1, h2⟩ := callM_ok F w h ha.1 ha.2
      refine ⟨f, as, rfl, h1, ?_⟩
      simp only [invoke, concL, extract1]
      simpa using h2
    · simp at h
  · rename_i t name
    split at h
    · rename_i recv args
      simp only [bind_ok] at h
      obtain ⟨d, hd, h⟩ := h
      obtain ⟨f, as, rfl, h1, h2⟩ := callM_ok F (ι := ι) (A := A) w h (by split <;> simpa [ids] using ha.1) ha.2
      refine ⟨f, as, rfl, h1, ?_⟩
      simp only [invoke, concL, extract1]
      simp only [List.getElem?_toArray, List.getElem?_cons_zero, Sem.run_bind, run_und F w hd, Result.andThen_ok]
      have hrecv : conc ι (if isIfaceD d then recv else .iface t recv) = (match d with | .interface _ => conc ι recv | _ => .iface t (conc ι recv)) := by
        cases d <;> simp [isIfaceD, conc]
      rw [hrecv] at h2
      cases d <;> simpa using h2
    · simp at h
  · rename_i t path f ptr
    split at h
    · rename_i x args
      split at h
      · simp at h
      · rename_i hp
        have hpath : path.toList = [] := by
          have : path.isEmpty = true := by simpa using hp
          simpa [Array.isEmpty_iff] using this
        simp only [bind_ok] at h
        obtain ⟨d, hd, h⟩ := h
        have fin : ∀ (hh : callFn D f (x :: args) = .ok nx), (receiverVia t (conc ι x) path ptr).run P w = .ok (conc ι x) w →
            ∃ g as, nx = .enter g as ∧ idsL ι A as ∧ (invoke (.fn (.via t path f ptr) (concL ι captured).toArray) (concL ι (x :: args)).toArray).run P w = .ok (.enter g (concL ι as).toArray) w := by
          intro hh hrv
          obtain ⟨rfl, hcall⟩ := callFn_ok F (ι := ι) w hh
          refine ⟨f, x :: args, rfl, ha, ?_⟩
          simp only [invoke, concL, extract1, List.getElem?_toArray, List.getElem?_cons_zero, Sem.run_bind, hrv, Result.andThen_ok]
          simp only [concL] at hcall
          simpa using hcall
        split at h
        · obtain ⟨g, as, h1, h2, h3⟩ := fin h (by simp [receiverVia, hpath, follow, receiverAt, run_und F w hd, Place.get])
          exact ⟨g, as, h1, h2, h3⟩
        · simp at h
        · rename_i hno _
          obtain ⟨g, as, h1, h2, h3⟩ := fin h (by
            simp only [receiverVia, hpath, follow, receiverAt, Sem.run_bind, Sem.run_pure, Result.andThen_ok, run_und F w hd]
            cases d with
            | pointer e => simp_all
            | _ => simp [Place.get])
          exact ⟨g, as, h1, h2, h3⟩
        · simp at h
    · simp at h
  · simp at h

theorem callV_ok (w : World) {f : AV} {args : List AV} {nx : ANext} {A : Nat → Prop} {_type : TypeId} (h : callV D f args = .ok nx) (hf : ids ι A f) (ha : idsL ι A args) :
    idsNext ι A nx ∧ Comes' P ι nx (do let d ← Deferred.ofValue (conc ι f) (concL ι args).toArray; invoke d.target d.args) w w ∧ ((∃ g as, nx = .enter g as) ∨ ∃ l as, nx = .round l as) := by
  unfold callV at h
  split at h
  · rename_i l
    simp at h; subst h
    refine ⟨⟨by simpa [ids] using hf, ha⟩, ⟨?_, rfl⟩, .inr ⟨_, _, rfl⟩⟩
    simp [conc, Deferred.ofValue, invoke]
  · rename_i fn first captured
    obtain ⟨g, as, rfl, h1, h2⟩ := invokeT_ok F (ι := ι) (A := A) w h hf.2 (idsL_append.2 ⟨hf.1, ha⟩)
    refine ⟨h1, ⟨_, rfl, ?_⟩, .inl ⟨_, _, rfl⟩⟩
    simp only [conc, Deferred.ofValue, Sem.run_bind, Sem.run_pure, Result.andThen_ok]
    have : (concL ι first).toArray ++ (concL ι args).toArray = (concL ι (first ++ args)).toArray := by simp
    rw [this]
    exact h2
  · simp at h

omit F in
theorem Comes'.value {ι : Nat → Loc} {v : AV} {s : Sem Next} {w w' : World} (h : s.run P w = .ok (.value (conc ι v)) w') : Comes' P ι (.value v) s w w' := ⟨_, rfl, h⟩

omit F in
theorem extOf_ok {x : AV} {k : ExtKind} (h : extOf D x = some k) : ∃ g, x = .func (.func g) [] [] ∧ D.ext g = some k := by
  unfold extOf at h
  split at h
  · exact ⟨_, rfl, h⟩
  · cases h

omit F in
theorem cellsOf_ok' {b : Nat} {cs : List AV} (h : cellsOf σ b = .ok cs) : b < σ.n ∧ ∃ elem own sz, σ.getO b = .cells cs elem own sz := cellsOf_ok h

omit F in
theorem baseVals_ok (ι : Nat → Loc) : ∀ {l : List AV} {vs : List Value}, baseVals l = some vs → concL ι l = vs
  | [], vs, h => by simp [baseVals] at h; subst h; rfl
  | x :: l, vs, h => by
    unfold baseVals at h
    split at h
    · rename_i heq; cases heq
    · rename_i v l' heq
      cases heq
      split at h
      · rename_i r hr
        simp at h; subst h
        simp [concL, conc, baseVals_ok ι hr]
      · cases h
    · cases h

omit F in
theorem digits_size : ∀ (n t : Nat) (acc : Array Value), (Extern.BytealgMakeNoZero.digits n t acc).size = acc.size + n
  | 0, _, acc => rfl
  | n + 1, t, acc => by
    unfold Extern.BytealgMakeNoZero.digits
    rw [digits_size n]; simp; omega

omit F in
theorem run_noZero {ps rs : Array TypeId} {t elem : Nat} {n : Int} (hu : P.underlying t = some (.slice elem)) (ht : rs[0]? = some t) (h0 : 0 ≤ n) (h1 : n < 2 ^ 30) :
    ∃ c b, n.toNat ≤ c ∧ (Extern.BytealgMakeNoZero.makeNoZero ps rs #[.int .i64 n]).run P w =
      .ok (.slice (some ⟨w.heap.size, 0, none⟩) n.toNat c) (w.drew.drew.alloc (.cells (Extern.BytealgMakeNoZero.digits c b #[]) elem)) := by
  obtain ⟨c, hc0⟩ : ∃ c, (Question.appendCap n.toNat 0 elem).cut (w.tape w.drawn (.appendCap n.toNat 0 elem)) = c := ⟨_, rfl⟩
  have hc : n.toNat ≤ c := by rw [← hc0]; simp [Question.cut]
  refine ⟨c, (Question.extern "internal/bytealg.MakeNoZero.bytes" 0).cut (w.drew.tape w.drew.drawn (Question.extern "internal/bytealg.MakeNoZero.bytes" 0)), hc, ?_⟩
  have hq : (Question.appendCap n.toNat 0 elem).forced = false := rfl
  have hq2 : (Question.extern "internal/bytealg.MakeNoZero.bytes" 0).forced = false := rfl
  have hcond : ¬ ((n < 0 || n > 2 ^ 48) = true) := by simp; omega
  have e : Extern.BytealgMakeNoZero.makeNoZero ps rs #[.int .i64 n] = (do
    let some t := rs[0]? | stuck "bytealg.MakeNoZero: no result type"
    let .slice elem ← underlying t | stuck "bytealg.MakeNoZero: slice type expected"
    if n < 0 || n > 2 ^ 48 then runtimePanic (.error "makeslice: len out of range")
    let cap ← choose (.appendCap n.toNat 0 elem)
    askRoom cap
    let bytes ← choose (.extern "internal/bytealg.MakeNoZero.bytes" 0)
    let a ← newRow elem (Extern.BytealgMakeNoZero.digits cap bytes #[])
    pure (.slice (some a) n.toNat cap)) := rfl
  rw [e]
  simp only [ht, Sem.run_bind, run_underlying hu, Result.andThen_ok]
  rw [if_neg hcond]
  simp only [Sem.run_bind, run_choose, hq, hq2, Bool.false_eq_true, if_false, hc0, World.drew_eq, Result.andThen_ok, run_askRoom, run_newRow, Sem.run_pure]
  rfl

omit F in
theorem run_loadBytesI : ∀ (ns : List Int) (a : Addr) (acc : ByteArray), (∀ j n, ns[j]? = some n → w.cell? (a.add j) = some (.int .u8 n)) →
    (Go.loadBytes a acc ns.length).run P w = .ok (ns.foldl (fun r n => r.push (UInt8.ofNat n.toNat)) acc) w
  | [], a, acc, _ => by simp [Go.loadBytes]
  | n :: ns, a, acc, h => by
    have h0 := h 0 n rfl
    have ha : a.add 0 = a := by simp [Addr.add]
    rw [ha] at h0
    simp only [List.length_cons, Go.loadBytes, Sem.run_bind, run_load, h0, Result.andThen_ok, List.foldl_cons]
    refine run_loadBytesI ns (a.add 1) _ fun j m hj => ?_
    have := h (j + 1) m (by simpa using hj)
    rw [← this]
    by_cases hj0 : j = 0
    · subst hj0; simp [Addr.add]
    · simp [Addr.add, hj0, Nat.add_assoc, Nat.add_comm 1 j]

theorem run_extV (R : Rep D ι σ w) {g : Nat} {k : ExtKind} (hg : D.ext g = some k) {args : List AV} {v : AV} {σ' : St} (h : extV D σ k args = .ok (v, σ')) (hid : idsL ι (· < σ.n) args) :
    ∃ ι' w', (callFunc g (concL ι args).toArray).run P w = .ok (.value (conc ι' v)) w' ∧ Rep D ι' σ' w' ∧ Ext ι σ w ι' σ' w' ∧ ids ι' (· < σ'.n) v := by
  obtain ⟨fn, hfn, hn, hb, hnx, hfind⟩ := F.ext g k hg
  have hnx' : Extern.findNext fn = none := by simpa using hnx
  have key : ∀ (x : Value) w', (k.sem (concL ι args).toArray).run P w = .ok x w' → (callFunc g (concL ι args).toArray).run P w = .ok (.value x) w' := by
    intro x w' hs
    simp only [callFunc, Sem.run_bind, run_program, Result.andThen_ok, hfn]
    rw [if_neg (by simpa using hn), if_pos hb]
    simp only [hnx', hfind]
    simp [mark, Sem.run, Sem.run_bind, hs]
  unfold extV at h
  split at h
  · rename_i x
    simp at h
    obtain ⟨rfl, rfl⟩ := h
    exact ⟨ι, w, key _ w rfl, R, Ext.refl _ _ _, hid.1⟩
  · rename_i ps rs n
    split at h
    · rename_i t ht
      simp only [bind_ok] at h
      obtain ⟨elem, hel, h⟩ := h
      split at h
      · rename_i hn
        simp at h
        obtain ⟨rfl, rfl⟩ := h
        have hund := sliceElem_ok hel
        have hr := run_noZero (P := P) (w := w) (ps := ps) (rs := rs) (und_ok F hund) ht hn.1 hn.2
        obtain ⟨c, by', hc, hr⟩ := hr
        have hp := R.drew.drew.push (o := .cells [] elem true 1) (ob := .cells (Extern.BytealgMakeNoZero.digits c by' #[]) elem) (L := ⟨w.heap.size, 0, c, 1⟩) rfl
          ⟨trivial, rfl, _, (0, 0), heap_alloc_new w.drew.drew _, fun i v hv => by simp at hv, fun _ => ⟨rfl, (by rw [digits_size]; simp), Nat.one_dvd _⟩⟩
        have hcv : conc (upd ι σ.n ⟨w.heap.size, 0, c, 1⟩) (.slice σ.n 0 n.toNat none 1) = .slice (some ⟨w.heap.size, 0, none⟩) n.toNat c := by
          simp [conc, upd_new, Loc.at]
        refine ⟨upd ι σ.n ⟨w.heap.size, 0, c, 1⟩, _, key _ _ (hr.trans (by rw [hcv])), hp.1, ((Ext.drew ι σ w).trans (Ext.drew ι σ w.drew)).trans hp.2, ?_⟩
        exact ⟨by simp [St.push], by rw [upd_new], by omega, by rw [upd_new]; simp; omega⟩
      · simp at h
    · simp at h
  · rename_i f
    split at h
    · rename_i vs hvs
      split at h
      · rename_i x hx
        simp at h
        obtain ⟨rfl, rfl⟩ := h
        refine ⟨ι, w, key _ w ?_, R, Ext.refl _ _ _, ids_ofConst _ _ _⟩
        rw [conc_ofConst, baseVals_ok ι hvs]
        show (f vs.toArray).run P w = _
        rw [hx]; rfl
      · simp at h
    · simp at h
  · rename_i b o
    simp only [bind_ok] at h
    obtain ⟨cs, hcs, h⟩ := h
    obtain ⟨hbn, elem, own, sz, ho⟩ := cellsOf_ok hcs
    split at h
    · rename_i n hn'
      simp at h
      obtain ⟨rfl, rfl⟩ := h
      have hcell := (R.cell hbn ho hn').1
      refine ⟨ι, w, key _ w ?_, R, Ext.refl _ _ _, trivial⟩
      have hl : (load ((ι b).at o) .atomic).run P w = .ok (.int .i64 n) w := by
        simp only [load, Sem.run, hcell, conc]
      have he : ExtKind.atomicLoad64.sem (concL ι [AV.ptr b o]).toArray = (do Extern.Atomic.read (.int .i64) (← asAddr (.pointer (some ((ι b).at o))))) := rfl
      rw [he]
      simp only [asAddr, Sem.run_bind, Sem.run_pure, Result.andThen_ok, Extern.Atomic.read, hl]
      simp [conc]
    · simp at h
  · rename_i b o kk d
    simp only [bind_ok] at h
    obtain ⟨cs, hcs, h⟩ := h
    obtain ⟨hbn, elem, own, sz, ho⟩ := cellsOf_ok hcs
    split at h
    · rename_i n hn'
      simp only [bind_ok, pure_ok, Prod.mk.injEq] at h
      obtain ⟨σ1, hst, rfl, rfl⟩ := h
      have hcell := (R.cell hbn ho hn').1
      obtain ⟨w', h1, h2, h3⟩ := run_store_own (P := P) R hst (by simp [idsL, ids])
      refine ⟨ι, w', key _ w' ?_, h2, h3, trivial⟩
      have hl : (load ((ι b).at o) .atomic).run P w = .ok (.int .i64 n) w := by
        simp only [load, Sem.run, hcell, conc]
      have hs : (store ((ι b).at o) (.int .i64 (IntKind.i64.wrap (n + d))) .atomic).run P w = .ok () w' := by
        simp only [Go.storeCells, concL, conc, Sem.run_bind] at h1
        have h0 : (Addr.add ((ι b).at o) 0) = (ι b).at o := by simp [Addr.add]
        rw [h0] at h1
        simp only [store, Sem.run, hcell] at h1 ⊢
        split at h1
        · simp [Result.andThen] at h1
        · rename_i hfz
          rw [if_neg hfz]
          simpa [Result.andThen, Sem.run] using h1
      have he : ExtKind.atomicAdd64.sem (concL ι [AV.ptr b o, .base (.int kk d)]).toArray = (do
          let a ← asAddr (.pointer (some ((ι b).at o)))
          let old ← Extern.Atomic.read (.int .i64) a
          let new ← Op.intArith .add .i64 (← asInt old) (← asInt (.int kk d))
          store a new .atomic
          pure (if true then new else old)) := rfl
      rw [he]
      simp only [asAddr, Sem.run_bind, Sem.run_pure, Result.andThen_ok, Extern.Atomic.read, hl]
      simp [asInt, asIntOf, Op.intArith, hs, conc]
    · simp at h
  · simp at h

omit F in
theorem sliceData_nil (ts : Array TypeId) (ty : TypeId) (l c : Nat) : Builtin.unsafeSliceData_ ts ty #[.slice none l c] = pure (.pointer none) := rfl
omit F in
theorem sliceData_some (ts : Array TypeId) (ty : TypeId) (a : Addr) (l c : Nat) : Builtin.unsafeSliceData_ ts ty #[.slice (some a) l c] = (do
    if c ≠ 0 then pure (.pointer (some a))
    else if (← viewAt a.block).isSome then pure (.pointer (some a))
    else pure (.pointer (some ⟨← newObj (.view a (← elemOf ty)), 0, none⟩))) := rfl
omit F in
theorem unsafeString_eq (ts : Array TypeId) (ty : TypeId) (p : Option Addr) (len_ : Value) : Builtin.unsafeString_ ts ty #[.pointer p, len_] = (do
    let n ← asInt len_
    let some pt := ts[0]? | stuck "unsafe.String: no argument types"
    if n < 0 then runtimePanic (.error "unsafe.String: len out of range")
    if n > IntKind.i64.max then unsupported (.unsafePointer "String: a length above the largest int")
    match p with
    | none =>
      if n = 0 then pure (.string .empty)
      else runtimePanic (.error "unsafe.String: ptr is nil and len is not zero")
    | some a =>
      if n = 0 then pure (.string .empty)
      else if ← variablesAt a (← elemOf pt) n.toNat then do
        let s ← Go.loadBytes a .empty n.toNat
        freeze a n.toNat
        pure (.string s)
      else unsupported (.unsafePointer "String: not so many bytes at ptr")) := rfl

omit F in
theorem run_sliceDataV {x v : AV} (h : sliceDataV x = .ok v) {A : Nat → Prop} (hid : ids ι A x) {ts : Array TypeId} {ty : TypeId} :
    (Builtin.unsafeSliceData_ ts ty #[conc ι x]).run P w = .ok (conc ι v) w ∧ ids ι A v := by
  unfold sliceDataV at h
  split at h
  · simp at h; subst h
    exact ⟨by simp [sliceData_nil, conc], trivial⟩
  · rename_i b o len c sz
    split at h
    · rename_i hc
      simp at h; subst h
      have : c ≠ 0 := by omega
      exact ⟨by simp [sliceData_some, conc, this], hid⟩
    · simp at h
  · rename_i b o len sz
    split at h
    · rename_i hc
      simp at h; subst h
      obtain ⟨h1, h2, h3, h4⟩ := hid
      have : (ι b).capz - o / (ι b).sz ≠ 0 := by rw [h2]; omega
      exact ⟨by simp [sliceData_some, conc, this], h1⟩
    · simp at h
  · simp at h

theorem run_unsafeStringV (R : Rep D ι σ w) {t : Nat} {p n v : AV} {σ' : St} {ts : Array TypeId} {ty : TypeId} (h : unsafeStringV D σ t p n = .ok (v, σ')) (hts : ts[0]? = some t) :
    ∃ w', (Builtin.unsafeString_ ts ty #[conc ι p, conc ι n]).run P w = .ok (conc ι v) w' ∧ Rep D ι σ' w' ∧ Ext ι σ w ι σ' w' ∧ ids ι (· < σ'.n) v := by
  simp only [unsafeStringV, bind_ok] at h
  obtain ⟨⟨k, m⟩, hm, h⟩ := h
  have hn : n = .base (.int k m) := by
    unfold asI at hm
    split at hm
    · simp at hm; obtain ⟨rfl, rfl⟩ := hm; rfl
    · simp at hm
  subst hn
  simp only at h
  split at h
  · rename_i hrange
    have hneg : ¬ (m < 0) := by omega
    have hbig : ¬ (m > IntKind.i64.max) := by
      have : IntKind.i64.max = 9223372036854775807 := rfl
      omega
    split at h
    · rename_i hz
      subst hz
      split at h
      · simp at h; obtain ⟨rfl, rfl⟩ := h
        refine ⟨w, ?_, R, Ext.refl _ _ _, trivial⟩
        simp [unsafeString_eq, conc, asInt, asIntOf, hts, str]
        rfl
      · simp at h; obtain ⟨rfl, rfl⟩ := h
        refine ⟨w, ?_, R, Ext.refl _ _ _, trivial⟩
        simp [unsafeString_eq, conc, asInt, asIntOf, hts, str]
        rfl
      · simp at h
    · rename_i hz
      simp only [bind_ok] at h
      obtain ⟨d, hd, h⟩ := h
      split at h
      · rename_i el b o
        simp only [bind_ok] at h
        obtain ⟨sz, hsz, eu, heu, h⟩ := h
        split at h
        · rename_i hb
          split at h
          · rename_i cs elem own szb ho
            split at h
            · rename_i hc
              simp only [Bool.and_eq_true, beq_iff_eq] at hc
              obtain ⟨⟨⟨hown, rfl⟩, rfl⟩, rfl⟩ := hc
              simp only [bind_ok, pure_ok, Prod.mk.injEq] at h
              obtain ⟨l, hl, r, hr, rfl, rfl⟩ := h
              have hob := R.obj b hb
              rw [ho] at hob
              obtain ⟨h1, h2, arr, fz, h3, h4, h5⟩ := hob
              obtain ⟨rfl, hcap, _⟩ := h5 hown
              obtain ⟨hl1, hl2⟩ := takeN_ok hl
              obtain ⟨ns, hns, hrr⟩ := bytesL_ok ι hr
              have hlen : ns.length = m.toNat := by
                have := congrArg List.length hns
                simpa [hl2] using this.symm
              have hle : o + m.toNat ≤ cs.length := by
                have := congrArg List.length hl1
                rw [hl2] at this
                simp at this
                omega
              have hlen2 : (ι b).shift + cs.length ≤ arr.size := by
                obtain ⟨y, hy⟩ : ∃ y, cs[cs.length - 1]? = some y := ⟨cs[cs.length - 1]'(by omega), List.getElem?_eq_getElem (by omega)⟩
                have := (Array.getElem?_eq_some_iff.1 (h4 _ y hy)).1
                omega
              have hsh : w.shape? (ι b).block = some (elem, arr.size) := by simp [World.shape?, h3]
              have hva : (variablesAt ((ι b).at o) elem m.toNat).run P w = .ok true w :=
                run_variablesAt F (a := (ι b).at o) hsh hsz (by omega) (Nat.one_dvd _) (by simp [Loc.at]; omega)
              have hlb : (Go.loadBytes ((ι b).at o) .empty m.toNat).run P w = .ok (ns.foldl (fun r n => r.push (UInt8.ofNat n.toNat)) .empty) w := by
                rw [← hlen]
                refine run_loadBytesI ns _ _ fun j n hj => ?_
                rw [at_add]
                have hx : (concL ι l)[j]? = some (.int .u8 n) := by rw [hns]; simp [hj]
                simp only [concL_getElem?, Option.map_eq_some_iff] at hx
                obtain ⟨x, hx, hxc⟩ := hx
                rw [← hxc]
                refine (R.cell hb ho ?_).1
                rw [hl1, List.getElem?_take] at hx
                split at hx
                · simpa using hx
                · simp at hx
              refine ⟨w.freeze ((ι b).at o) m.toNat, ?_, ?_⟩
              · simp only [unsafeString_eq, conc, Sem.run_bind, asInt, asIntOf, Sem.run_pure, Result.andThen_ok, hts]
                simp only [elemOf]
                have hbig2 : ¬ (9223372036854775807 < m) := by omega
                simp [hneg, hbig2, hz, run_und F w hd, hva, hlb, str, foldl_push, hrr, conc]
              · have hob' : (σ.getO b).isMut = true := by rw [ho]; exact hown
                have hfz : w.freeze ((ι b).at o) m.toNat = { w with heap := w.heap.modify (ι b).block fun
                    | .cells c elem (lo, hi) => .cells c elem (if lo == hi then (((ι b).at o).off, ((ι b).at o).off + m.toNat) else (min lo ((ι b).at o).off, max hi (((ι b).at o).off + m.toNat)))
                    | o => o } := by
                  unfold World.freeze
                  rw [if_neg (by omega)]
                  rfl
                have hset := R.set (o := .cells cs elem false 1) (w' := w.freeze ((ι b).at o) m.toNat) hb hob' (by rw [hfz]; simp) (fun r hr => by
                    rw [hfz]
                    simp only [Array.getElem?_modify]
                    rw [if_neg (fun e => hr e.symm)]) (by rw [hfz]; exact ⟨rfl, rfl, rfl⟩)
                  ⟨h1, h2, arr, _, by
                    rw [hfz]
                    simp only [Array.getElem?_modify]
                    rw [if_pos trivial, h3]
                    rfl, h4, fun h => by cases h⟩
                exact ⟨hset.1, hset.2, trivial⟩
            · simp at h
          · simp at h
        · simp at h
      · simp at h
  · simp at h

theorem actOp_run (R : Rep D ι σ w) {e : Operand → AV} {o : Oper} {nx : ANext} {σ' : St} (h : actOp D σ e o.op = .ok (nx, σ')) (hid : ∀ x, x ∈ o.op.operands → ids ι (· < σ.n) (e x)) :
    ∃ ι' w', Comes' P ι' nx (Go.execOp (fun x => conc ι (e x)) o) w w' ∧ Rep D ι' σ' w' ∧ Ext ι σ w ι' σ' w' ∧ idsNext ι' (· < σ'.n) nx := by
  unfold Go.execOp
  generalize o.op = op at h hid
  unfold actOp at h
  split at h
  · rename_i t a x
    simp only [bind_ok, pure_ok, Prod.mk.injEq] at h
    obtain ⟨σ1, h, rfl, rfl⟩ := h
    obtain ⟨w', h1, h2, h3⟩ := run_storeV F R h (hid x (by simp [Op.operands]))
    exact ⟨ι, w', ⟨_, rfl, by simp [h1]⟩, h2, h3, trivial⟩
  · rename_i t m k x
    simp only [bind_ok, pure_ok, Prod.mk.injEq] at h
    obtain ⟨σ1, h, rfl, rfl⟩ := h
    obtain ⟨w', h1, h2, h3⟩ := run_mapUpdate F R h (hid k (by simp [Op.operands])) (hid x (by simp [Op.operands]))
    exact ⟨ι, w', ⟨_, rfl, by simp [h1]⟩, h2, h3, trivial⟩
  · rename_i t m k x
    simp only [bind_ok, pure_ok, Prod.mk.injEq] at h
    obtain ⟨σ1, h, rfl, rfl⟩ := h
    obtain ⟨w', h1, h2, h3⟩ := run_mapUpdate F R h (hid k (by simp [Op.operands])) (hid x (by simp [Op.operands]))
    exact ⟨ι, w', ⟨_, rfl, by simp [h1]⟩, h2, h3, trivial⟩
  · rename_i t x
    simp only [bind_ok, pure_ok, Prod.mk.injEq] at h
    obtain ⟨⟨v, σ1⟩, h, rfl, rfl⟩ := h
    obtain ⟨ι', w', h1, h2, h3, h4⟩ := run_rangeV F R h
    exact ⟨ι', w', ⟨_, rfl, by simp [h1]⟩, h2, h3, h4⟩
  · rename_i it isS
    simp only [bind_ok, pure_ok, Prod.mk.injEq] at h
    obtain ⟨⟨v, σ1⟩, h, rfl, rfl⟩ := h
    obtain ⟨w', h1, h2, h3, h4⟩ := run_nextV (P := P) (ty := o.type) R h
    exact ⟨ι, w', ⟨_, rfl, by simp [h1]⟩, h2, h3, h4⟩
  · rename_i it
    simp only [bind_ok, pure_ok, Prod.mk.injEq] at h
    obtain ⟨v, h, rfl, rfl⟩ := h
    obtain ⟨h1, h2⟩ := run_entryV (P := P) R h
    exact ⟨ι, w, ⟨_, rfl, by simp [h1]⟩, R, Ext.refl _ _ _, h2⟩
  · rename_i s d x
    simp only [bind_ok, pure_ok, Prod.mk.injEq] at h
    obtain ⟨⟨v, σ1⟩, h, rfl, rfl⟩ := h
    obtain ⟨ι', w', h1, h2, h3, h4⟩ := run_toBytesV F R h
    exact ⟨ι', w', ⟨_, rfl, by simp [h1]⟩, h2, h3, h4⟩
  · rename_i c
    obtain ⟨callee, args, argTypes⟩ := c
    simp only at h
    split at h
    · rename_i b
      split at h
      · rename_i t u s x hts hxs
        have ht : argTypes = #[t, u] := by apply Array.ext'; simpa using hts
        have hargs : args = #[s, x] := by apply Array.ext'; simpa using hxs
        subst hargs
        simp only [bind_ok, pure_ok, Prod.mk.injEq] at h
        obtain ⟨⟨v, σ1⟩, h, rfl, rfl⟩ := h
        obtain ⟨ι', w', h1, h2, h3, h4⟩ := run_appendV F R (ty := o.type) h ht (hid s (by simp [Op.operands, Call.operands]))
        exact ⟨ι', w', ⟨_, rfl, by simp [resolve, invoke, Go.builtin, h1]⟩, h2, h3, h4⟩
      · rename_i t ts d s hts hxs
        have ht : argTypes[0]? = some t := by rw [← Array.getElem?_toList, hts]; rfl
        have hargs : args = #[d, s] := by apply Array.ext'; simpa using hxs
        subst hargs
        simp only [bind_ok, pure_ok, Prod.mk.injEq] at h
        obtain ⟨⟨v, σ1⟩, h, rfl, rfl⟩ := h
        obtain ⟨w', h1, h2, h3, h4⟩ := run_copyV F R (ty := o.type) h ht
        exact ⟨ι, w', ⟨_, rfl, by simp [resolve, invoke, Go.builtin, h1]⟩, h2, h3, h4⟩
      · rename_i t ts x hts hxs
        have ht : argTypes[0]? = some t := by rw [← Array.getElem?_toList, hts]; rfl
        have hargs : args = #[x] := by apply Array.ext'; simpa using hxs
        subst hargs
        simp only [bind_ok, pure_ok, Prod.mk.injEq] at h
        obtain ⟨⟨v, σ1⟩, h, rfl, rfl⟩ := h
        obtain ⟨w', h1, h2, h3, h4⟩ := run_clearV F R (ty := o.type) h ht
        exact ⟨ι, w', ⟨_, rfl, by simp [resolve, invoke, Go.builtin, h1]⟩, h2, h3, h4⟩
      · simp at h
        obtain ⟨rfl, rfl⟩ := h
        exact ⟨ι, w, ⟨_, rfl, by simp [resolve, invoke, Go.builtin]⟩, R, Ext.refl _ _ _, trivial⟩
      · rename_i x hxs
        have hargs : args = #[x] := by apply Array.ext'; simpa using hxs
        subst hargs
        simp only [bind_ok, pure_ok, Prod.mk.injEq] at h
        obtain ⟨v, h, rfl, rfl⟩ := h
        obtain ⟨h1, h2⟩ := run_sliceDataV (P := P) (w := w) h (hid x (by simp [Op.operands, Call.operands])) (ts := argTypes) (ty := o.type)
        exact ⟨ι, w, ⟨_, rfl, by simp [resolve, invoke, Go.builtin, h1]⟩, R, Ext.refl _ _ _, h2⟩
      · rename_i t ts p n hts hxs
        have ht : argTypes[0]? = some t := by rw [← Array.getElem?_toList, hts]; rfl
        have hargs : args = #[p, n] := by apply Array.ext'; simpa using hxs
        subst hargs
        simp only [bind_ok, pure_ok, Prod.mk.injEq] at h
        obtain ⟨⟨v, σ1⟩, h, rfl, rfl⟩ := h
        obtain ⟨w', h1, h2, h3, h4⟩ := run_unsafeStringV F R (ty := o.type) h ht
        exact ⟨ι, w', ⟨_, rfl, by simp [resolve, invoke, Go.builtin, h1]⟩, h2, h3, h4⟩
      · simp at h
    · rename_i recv name
      simp only [bind_ok, pure_ok, Prod.mk.injEq] at h
      obtain ⟨nx', h, rfl, rfl⟩ := h
      obtain ⟨f, as, rfl, h1, h2⟩ := callM_ok F (ι := ι) (A := (· < σ.n)) w h (hid recv (by simp [Op.operands, Call.operands])) (idsL_iff.2 fun v hv => by
        simp only [List.mem_map] at hv
        obtain ⟨x, hx, rfl⟩ := hv
        exact hid x (by simp [Op.operands, Call.operands, Array.mem_toList_iff.1 hx]))
      refine ⟨ι, w, ⟨_, rfl, ?_⟩, R, Ext.refl _ _ _, h1⟩
      simp only [resolve, Sem.run_bind, Sem.run_pure, Result.andThen_ok, invoke, arr_map]
      have ea : #[conc ι (e recv)] ++ (concL ι (args.toList.map e)).toArray = (conc ι (e recv) :: concL ι (args.toList.map e)).toArray := by simp
      rw [ea]
      simp only [extract1, List.getElem?_toArray, List.getElem?_cons_zero]
      exact h2
    · rename_i f
      have hargs : idsL ι (· < σ.n) (args.toList.map e) := idsL_iff.2 fun v hv => by
        simp only [List.mem_map] at hv
        obtain ⟨x, hx, rfl⟩ := hv
        exact hid x (by simp [Op.operands, Call.operands, Array.mem_toList_iff.1 hx])
      split at h
      · rename_i k hk
        simp only [bind_ok, pure_ok, Prod.mk.injEq] at h
        obtain ⟨⟨v, σ1⟩, h, rfl, rfl⟩ := h
        obtain ⟨g, hg, hgk⟩ := extOf_ok hk
        obtain ⟨ι', w', h1, h2, h3, h4⟩ := run_extV F R hgk h hargs
        refine ⟨ι', w', Comes'.value ?_, h2, h3, h4⟩
        simp only [resolve, arr_map, hg, conc, concL, Deferred.ofValue, Sem.run_bind, Sem.run_pure, Result.andThen_ok, invoke]
        have ea : #[] ++ (concL ι (args.toList.map e)).toArray ++ #[] = (concL ι (args.toList.map e)).toArray := by simp
        simpa using h1
      simp only [bind_ok, pure_ok, Prod.mk.injEq] at h
      obtain ⟨nx', h, rfl, rfl⟩ := h
      obtain ⟨h1, h2, _⟩ := callV_ok F (ι := ι) (A := (· < σ.n)) (_type := o.type) w h (hid f (by simp [Op.operands, Call.operands])) (idsL_iff.2 fun v hv => by
        simp only [List.mem_map] at hv
        obtain ⟨x, hx, rfl⟩ := hv
        exact hid x (by simp [Op.operands, Call.operands, Array.mem_toList_iff.1 hx]))
      refine ⟨ι, w, ?_, R, Ext.refl _ _ _, h1⟩
      simp only [resolve, arr_map]
      exact h2
  · rename_i c
    obtain ⟨callee, args, argTypes⟩ := c
    simp only at h
    split at h
    · rename_i f
      have hf := hid f (by simp [Op.operands, Call.operands])
      split at h
      · rename_i fn first captured heq
        rw [heq] at hf
        simp at h
        obtain ⟨rfl, rfl⟩ := h
        refine ⟨ι, w, ⟨_, rfl, ?_⟩, R, Ext.refl _ _ _, ⟨hf.2, idsL_append.2 ⟨hf.1, idsL_iff.2 fun v hv => ?_⟩⟩⟩
        · simp only [resolve, arr_map, heq, conc, Deferred.ofValue, Sem.run_bind, Sem.run_pure, Result.andThen_ok, concDef]
          simp
        · simp only [List.mem_map] at hv
          obtain ⟨x, hx, rfl⟩ := hv
          exact hid x (by simp [Op.operands, Call.operands, Array.mem_toList_iff.1 hx])
      · simp at h
    · simp at h
  · rename_i x
    have hx := hid x (by simp [Op.operands])
    split at h
    · rename_i t y heq
      rw [heq] at hx
      simp at h
      obtain ⟨rfl, rfl⟩ := h
      refine ⟨ι, w, ?_, R, Ext.refl _ _ _, hx⟩
      simp [Comes', heq, conc, Instr.panic]
    · simp at h
  · simp at h
end
end Go.Dt
namespace Go.Dt

def evT (T : Array Value) : Operand → Value
  | .tmp t => T.getD t undef
  | .const v => v
  | .global g => .pointer (some ⟨g, 0, none⟩)
  | .func f => .func (.func f) #[] #[]

def on (b : Frame) (T : Array Value) (ds : List Deferred) (todo : List Item) : Frame := { b with tmps := T, defers := ds, todo := todo, mode := .run }

theorem on_eval (b : Frame) (T : Array Value) (ds : List Deferred) (todo : List Item) : (on b T ds todo).eval = evT T := by
  funext x; cases x <;> rfl

def putV (T : Array Value) (dst : Option Tmp) (v : Value) : Array Value :=
  match dst with
  | some d => T.setIfInBounds d v
  | none => T

theorem on_finish (b : Frame) (T : Array Value) (ds : List Deferred) (ops : Array Oper) (i : Nat) (rest : List Nat) (k : List Item) (o : Oper) (ho : ops[i]? = some o) (v : Value) :
    (on b T ds (.inRegion ops (i :: rest) :: k)).finish v = on b (putV T o.dst v) ds (.inRegion ops rest :: k) := by
  cases hd : o.dst <;> simp [Frame.finish, on, putV, ho, hd]

def PanEntry (v : Value) (r : Bool) : PanicEntry := { v, recovered := r }

section steps
variable {P : Program} {b : Frame} {T : Array Value} {ds : List Deferred} {k : List Item} {cs : List Frame} {w w' : World} {ops : Array Oper} {i : Nat} {rest : List Nat} {o : Oper}

/-- a machine's goroutine in this frame -/
def gor (fr : Frame) (cs : List Frame) : Goroutine := { frame := fr, callers := cs, status := .running, dying := none }

theorem stepG_on (ho : ops[i]? = some o) (hw : Region.wanted o (yielded ops T) = true) (hd : b.roundOf = none ∨ ∀ c, o.op ≠ .defer c) :
    stepG P true (gor (on b T ds (.inRegion ops (i :: rest) :: k)) cs) w =
      stepG.apply P true (on b T ds (.inRegion ops (i :: rest) :: k)) cs none (Go.execOp (evT T) o) w := by
  have he := on_eval b T ds (.inRegion ops (i :: rest) :: k)
  simp only [gor, stepG, on, stepG.exec]
  simp only [ho, Option.map_some, hw, Option.getD_some, if_true]
  simp only [on] at he
  simp only [stepG.oper, Frame.oper?, ho, he]
  split
  · rename_i l c h1 h2
    rcases hd with hd | hd
    · rw [hd] at h1; cases h1
    · exact (hd _ h2).elim
  · rfl

theorem step_go {fr fr' : Frame} {cs' : List Frame} (h : (stepG P true (gor fr cs) w).bare = .go (gor fr' cs') w') : step P (lone fr cs w) = .next (lone fr' cs' w') :=
  step_lone_go h

theorem step_value {v : Value} (ho : ops[i]? = some o) (hw : Region.wanted o (yielded ops T) = true) (hd : b.roundOf = none ∨ ∀ c, o.op ≠ .defer c)
    (hr : (Go.execOp (evT T) o).run P w = .ok (.value v) w') :
    step P (lone (on b T ds (.inRegion ops (i :: rest) :: k)) cs w) = .next (lone (on b (putV T o.dst v) ds (.inRegion ops rest :: k)) cs w') := by
  refine step_go ?_
  rw [stepG_on ho hw hd, ← on_finish b T ds ops i rest k o ho v]
  simp [stepG.apply, hr, gor]

theorem step_skip' (ho : ops[i]? = some o) (hw : Region.wanted o (yielded ops T) = true) (hd : b.roundOf = none ∨ ∀ c, o.op ≠ .defer c)
    (hr : (Go.execOp (evT T) o).run P w = .ok .skip w') :
    step P (lone (on b T ds (.inRegion ops (i :: rest) :: k)) cs w) = .next (lone (on b (putV T o.dst undef) ds (.inRegion ops rest :: k)) cs w') := by
  refine step_go ?_
  rw [stepG_on ho hw hd, ← on_finish b T ds ops i rest k o ho undef]
  simp [stepG.apply, hr, gor]

theorem step_deferOp {d : Deferred} (ho : ops[i]? = some o) (hw : Region.wanted o (yielded ops T) = true) (hd : b.roundOf = none)
    (hr : (Go.execOp (evT T) o).run P w = .ok (.defer d) w') :
    step P (lone (on b T ds (.inRegion ops (i :: rest) :: k)) cs w) = .next (lone (on b (putV T o.dst undef) (d :: ds) (.inRegion ops rest :: k)) cs w') := by
  refine step_go ?_
  rw [stepG_on ho hw (.inl hd), ← on_finish b T (d :: ds) ops i rest k o ho undef]
  simp [stepG.apply, hr, gor, on]

theorem step_enter {f : FuncId} {args : Array Value} (ho : ops[i]? = some o) (hw : Region.wanted o (yielded ops T) = true) (hd : b.roundOf = none ∨ ∀ c, o.op ≠ .defer c)
    (hr : (Go.execOp (evT T) o).run P w = .ok (.enter f args) w') :
    step P (lone (on b T ds (.inRegion ops (i :: rest) :: k)) cs w) = .next (lone (Frame.enter P f args .normal) (on b T ds (.inRegion ops (i :: rest) :: k) :: cs) w') := by
  refine step_go ?_
  rw [stepG_on ho hw hd]
  simp [stepG.apply, hr, gor, on]

theorem step_roundOp {l : Nat} {f : FuncId} {tmps : Array Value} {assign body : Code} (ho : ops[i]? = some o) (hw : Region.wanted o (yielded ops T) = true) (hd : b.roundOf = none ∨ ∀ c, o.op ≠ .defer c)
    (hr : (Go.execOp (evT T) o).run P w = .ok (.round l f tmps assign body) w') :
    step P (lone (on b T ds (.inRegion ops (i :: rest) :: k)) cs w) = .next (lone (Frame.round l f tmps assign body .normal) (on b T ds (.inRegion ops (i :: rest) :: k) :: cs) w') := by
  refine step_go ?_
  rw [stepG_on ho hw hd]
  simp [stepG.apply, hr, gor]

theorem step_panicOp {v : Value} (ho : ops[i]? = some o) (hw : Region.wanted o (yielded ops T) = true) (hd : b.roundOf = none ∨ ∀ c, o.op ≠ .defer c)
    (hr : (Go.execOp (evT T) o).run P w = .halt (.panic v) w') :
    step P (lone (on b T ds (.inRegion ops (i :: rest) :: k)) cs w) = .next (lone { on b T ds (.inRegion ops (i :: rest) :: k) with mode := .panicking [{ v, recovered := false }] } cs w') := by
  refine step_go ?_
  rw [stepG_on ho hw hd]
  simp [stepG.apply, hr, gor, on, Frame.raise]

theorem step_unwanted (h : ((ops[i]?).map (Region.wanted · (yielded ops T))).getD false = false) (ho : ops[i]? = some o) :
    step P (lone (on b T ds (.inRegion ops (i :: rest) :: k)) cs w) = .next (lone (on b (putV T o.dst undef) ds (.inRegion ops rest :: k)) cs w) := by
  refine step_go ?_
  rw [← on_finish b T ds ops i rest k o ho undef]
  have h' := h
  simp only [on] at *
  simp [gor, stepG, stepG.exec, h']

end steps
end Go.Dt
namespace Go.Dt

/-- who waits for a frame: a normal caller, or the frame that unwinds through it -/
inductive Ctx where
  | norm (cs : List Frame)
  | dfr (c : Frame) (rest : List Frame)

def panMode (ι : Nat → Loc) : Pan → FrameMode
  | none => .returning
  | some (v, r) => .panicking [{ v := conc ι v, recovered := r }]

def Ctx.cs (X : Ctx) (ι : Nat → Loc) (pan : Pan) : List Frame :=
  match X with
  | .norm cs => cs
  | .dfr c rest => { c with mode := panMode ι pan } :: rest
def Ctx.kind : Ctx → CallKind
  | .norm _ => .normal
  | .dfr _ _ => .deferred
def Ctx.fits (X : Ctx) (pan : Pan) : Prop :=
  match X with
  | .norm _ => pan = none
  | .dfr _ _ => True

def idsPan (ι : Nat → Loc) (A : Nat → Prop) : Pan → Prop
  | none => True
  | some (v, _) => ids ι A v

theorem idsPan_mono {ι ι' : Nat → Loc} {A B : Nat → Prop} (h : ∀ b, A b → B b ∧ ι' b = ι b) (p : Pan) (hp : idsPan ι A p) : idsPan ι' B p := by
  cases p with
  | none => trivial
  | some p => exact ids_mono h _ hp
theorem Ctx.agree {X : Ctx} {ι ι' : Nat → Loc} {A : Nat → Prop} (h : ∀ b, A b → ι' b = ι b) {p : Pan} (hp : idsPan ι A p) : X.cs ι' p = X.cs ι p := by
  cases X with
  | norm cs => rfl
  | dfr c rest =>
    cases p with
    | none => rfl
    | some p => simp [Ctx.cs, panMode, conc_agree h _ hp]

def idsDs (ι : Nat → Loc) (A : Nat → Prop) (ds : List ADef) : Prop := ∀ d, d ∈ ds → idsDef ι A d
theorem idsDs_mono {ι ι' : Nat → Loc} {A B : Nat → Prop} (h : ∀ b, A b → B b ∧ ι' b = ι b) {ds : List ADef} (hd : idsDs ι A ds) : idsDs ι' B ds :=
  fun d hm => idsDef_mono h d (hd d hm)
theorem concDs_agree {ι ι' : Nat → Loc} {A : Nat → Prop} (h : ∀ b, A b → ι' b = ι b) {ds : List ADef} (hd : idsDs ι A ds) : ds.map (concDef ι') = ds.map (concDef ι) :=
  List.map_congr_left fun d hm => concDef_agree h d (hd d hm)

def concEnd (ι : Nat → Loc) : AEnd → Ending
  | .ret v => .returned (conc ι v)
  | .panic v => .panicked [{ v := conc ι v, recovered := false }]
def idsEnd (ι : Nat → Loc) (A : Nat → Prop) : AEnd → Prop
  | .ret v => ids ι A v
  | .panic v => ids ι A v

def after (c : Frame) : Ending → Frame
  | .returned v => c.finish v
  | .panicked chain => c.raise chain
  | .outgrown => c

def CallOK (D : Tab) (P : Program) (call : CallT) : Prop :=
  ∀ f args σ e σ', call f args σ = .ok (e, σ') → ∀ ι w, Rep D ι σ w → idsL ι (· < σ.n) args →
    Calls P f (concL ι args).toArray w fun en w' => ∃ ι', en = concEnd ι' e ∧ Rep D ι' σ' w' ∧ Ext ι σ w ι' σ' w' ∧ idsEnd ι' (· < σ'.n) e

def RoundOK (D : Tab) (P : Program) (round : RoundT) : Prop :=
  ∀ l args σ e σ', round l args σ = .ok (e, σ') → ∀ ι w, Rep D ι σ w → idsL ι (· < σ.n) args → l < σ.n →
    ∃ fn tmps assign body, (Instr.yield (ι l).block (concL ι args).toArray).run P w = .ok (.round (ι l).block fn tmps assign body) w ∧
      ∀ (c : Frame) (cs : List Frame), ∃ ι' w', Steps P (lone (Frame.round (ι l).block fn tmps assign body .normal) (c :: cs) w) (lone (after c (concEnd ι' e)) cs w') ∧
        Rep D ι' σ' w' ∧ Ext ι σ w ι' σ' w' ∧ idsEnd ι' (· < σ'.n) e

section
variable {D : Tab} {P : Program} {ι : Nat → Loc} {σ : St} {w : World}

theorem getD_conc (ι : Nat → Loc) (T : List AV) (t : Nat) : (concL ι T).toArray.getD t undef = conc ι (T.getD t .undef) := by
  simp only [Array.getD_eq_getD_getElem?, List.getElem?_toArray, concL_getElem?, List.getD_eq_getElem?_getD]
  cases T[t]? <;> simp

theorem evalO_conc (R : Rep D ι σ w) (T : List AV) (x : Operand) : evT (concL ι T).toArray x = conc ι (evalO D T x) := by
  cases x with
  | tmp t => simp only [evT, evalO]; exact getD_conc ι T t
  | const v => simp [evT, evalO]
  | global g =>
    simp only [evT, evalO]
    split
    · rename_i hg
      have := R.gloc g hg
      simp [conc, Loc.at, this.1, this.2]
    · simp [conc]
  | func f => simp [evT, evalO, conc, concL]

theorem evT_eq (R : Rep D ι σ w) (T : List AV) : evT (concL ι T).toArray = fun x => conc ι (evalO D T x) := by
  funext x; exact evalO_conc R T x

theorem evalO_ids (_ : Rep D ι σ w) {A : Nat → Prop} (hA : ∀ g, g < D.nglob → A g) {T : List AV} (hT : idsL ι A T) (x : Operand) : ids ι A (evalO D T x) := by
  cases x with
  | tmp t =>
    simp only [evalO, List.getD_eq_getElem?_getD]
    cases h : T[t]? with
    | none => simpa using ids_undef ι A
    | some v => simpa using idsL_get hT h
  | const v => exact ids_ofConst ι A v
  | global g =>
    simp only [evalO]
    split
    · rename_i hg; exact hA g hg
    · trivial
  | func f => simp [evalO, ids, idsL]

theorem putV_conc (ι : Nat → Loc) (T : List AV) (dst : Option Tmp) (v : AV) : putV (concL ι T).toArray dst (conc ι v) = (concL ι (put T dst v)).toArray := by
  cases dst with
  | none => rfl
  | some d =>
    simp only [putV, put]
    apply Array.ext'
    simp [concL_eq, List.map_set]

theorem Rep.glob_lt (R : Rep D ι σ w) : ∀ g, g < D.nglob → g < σ.n := fun _ hg => Nat.lt_of_lt_of_le hg R.glob

theorem putV_agree {ι' : Nat → Loc} {σ' : St} {w' : World} (E : Ext ι σ w ι' σ' w') {T : List AV} (hT : idsL ι (· < σ.n) T) {dst : Option Tmp} {v : AV} :
    putV (concL ι T).toArray dst (conc ι' v) = (concL ι' (put T dst v)).toArray := by
  rw [← concL_agree E.agree T hT, putV_conc]

theorem put_ids {A : Nat → Prop} {T : List AV} {v : AV} (hT : idsL ι A T) (hv : ids ι A v) (dst : Option Tmp) : idsL ι A (put T dst v) := by
  cases dst with
  | none => exact hT
  | some d => exact idsL_set hT hv d

theorem conc_bool {v : AV} {b : Bool} (h : conc ι v = .bool b) : v = .base (.bool b) := by
  cases v with
  | base v => simp only [conc] at h; rw [h]
  | slice b o len cap sz => cases cap <;> simp [conc] at h
  | sliceZ b o l sz => simp only [conc] at h; split at h <;> cases h
  | _ => simp [conc] at h

theorem yielded_conc (ι : Nat → Loc) (ops : Array Oper) (T : List AV) (j : Nat) : yielded ops (concL ι T).toArray j = yieldedA ops T j := by
  unfold yielded yieldedA
  cases h : (ops[j]?).bind (·.dst) with
  | none => simp
  | some t =>
    simp only [Option.bind_some, List.getElem?_toArray, concL_getElem?]
    cases ht : T[t]? with
    | none => simp
    | some v =>
      simp only [Option.map_some]
      cases v with
      | base v => simp only [conc]; cases v <;> rfl
      | slice b o len cap sz => cases cap <;> simp [conc]
      | sliceZ b o l sz => obtain ⟨a, c, hc⟩ := conc_sliceZ ι b o l sz; rw [hc]
      | _ => simp [conc]

theorem wanted_conc (ι : Nat → Loc) (ops : Array Oper) (T : List AV) (o : Oper) : Region.wanted o (yielded ops (concL ι T).toArray) = wantedA ops o T := by
  have : yielded ops (concL ι T).toArray = yieldedA ops T := funext fun j => yielded_conc ι ops T j
  rw [this]
  unfold Region.wanted wantedA
  cases o.guard with
  | none => rfl
  | some p => rfl

/-- the abstract operation and the model's -/
theorem execOp_run (F : Fits D P) (R : Rep D ι σ w) {e : Operand → AV} {o : Oper} {nx : ANext} {σ' : St} (h : execOp D e σ o.op = .ok (nx, σ'))
    (hid : ∀ x, x ∈ o.op.operands → ids ι (· < σ.n) (e x)) :
    ∃ ι' w', Comes' P ι' nx (Go.execOp (fun x => conc ι (e x)) o) w w' ∧ Rep D ι' σ' w' ∧ Ext ι σ w ι' σ' w' ∧ idsNext ι' (· < σ'.n) nx := by
  unfold execOp at h
  split at h
  · simp only [bind_ok, pure_ok, Prod.mk.injEq] at h
    obtain ⟨v, h, rfl, rfl⟩ := h
    obtain ⟨h1, h2⟩ := pureOp_run F w h hid
    exact ⟨ι, w, ⟨_, rfl, h1⟩, R, Ext.refl _ _ _, h2⟩
  · simp only [bind_ok, pure_ok, Prod.mk.injEq] at h
    obtain ⟨v, h, rfl, rfl⟩ := h
    obtain ⟨h1, h2⟩ := readOp_run F R h
    exact ⟨ι, w, ⟨_, rfl, h1⟩, R, Ext.refl _ _ _, h2⟩
  · simp only [bind_ok, pure_ok, Prod.mk.injEq] at h
    obtain ⟨⟨v, ob⟩, h, rfl, rfl⟩ := h
    obtain ⟨obj, L, h1, h2, h3, h4⟩ := (allocOp_run F w (by simp) h hid).out
    have hk : ∀ b, (b < σ.n ∨ b = σ.n) → b < σ.n + 1 ∧ upd ι σ.n L b = upd ι σ.n L b := fun b hb => ⟨by omega, rfl⟩
    have hp := R.push h2 (h3.mono hk)
    exact ⟨_, _, ⟨_, rfl, h1⟩, hp.1, hp.2, ids_mono hk _ h4⟩
  · exact actOp_run F R h hid

end
end Go.Dt
