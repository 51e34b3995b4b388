/-
  Operations that write memory. No statement of this seat stands here.
-/
import Derived.Test.YtolakgfoodndpaaGreatDoorDtAlloc
namespace Go.Dt

theorem conc_oneCell' {ι : Nat → Loc} {v : AV} (h : v.oneCell = true) : (conc ι v).oneCell' = true := by
  have := conc_oneCell (ι := ι) h
  cases hv : conc ι v with
  | agg cs => exact ((this cs).1 hv).elim
  | tuple cs => exact ((this cs).2 hv).elim
  | _ => rfl

/-- only block g differs -/
structure Only (g : Nat) (w w' : World) : Prop where
  size : w'.heap.size = w.heap.size
  other : ∀ r, r ≠ g → w'.heap[r]? = w.heap[r]?
  os : w'.os = w.os ∧ w'.tape = w.tape ∧ w'.output = w.output

theorem Only.refl (g : Nat) (w : World) : Only g w w := ⟨rfl, fun _ _ => rfl, rfl, rfl, rfl⟩
theorem Only.trans {g : Nat} {a b c : World} (h : Only g a b) (k : Only g b c) : Only g a c :=
  ⟨k.size.trans h.size, fun r hr => (k.other r hr).trans (h.other r hr), k.os.1.trans h.os.1, k.os.2.1.trans h.os.2.1, k.os.2.2.trans h.os.2.2⟩

theorem only_setCell (w : World) (g o : Nat) (v : Value) : Only g w (w.setCell ⟨g, o, none⟩ v) :=
  ⟨by simp, fun r hr => by simp only [World.setCell, Array.getElem?_modify]; rw [if_neg (by omega)], rfl, rfl, rfl⟩

theorem only_setIf (w : World) (g : Nat) (o : Obj) : Only g w { w with heap := w.heap.setIfInBounds g o } :=
  ⟨by simp, fun r hr => by simp only [Array.getElem?_setIfInBounds]; rw [if_neg (by omega)], rfl, rfl, rfl⟩

theorem run_storeCells (P : Program) (g o : Nat) (e : TypeId) : ∀ (vs : List Value) (i : Nat) (arr : Array Value) (w : World), w.heap[g]? = some (.cells arr e (0, 0)) →
    o + i + vs.length ≤ arr.size → (∀ v, v ∈ vs → v.oneCell' = true) →
    ∃ w' arr', (Go.storeCells ⟨g, o, none⟩ vs i).run P w = .ok () w' ∧ Only g w w' ∧ w'.heap[g]? = some (.cells arr' e (0, 0)) ∧ arr'.size = arr.size ∧
      ∀ j, arr'[j]? = if o + i ≤ j ∧ j < o + i + vs.length then vs[j - (o + i)]? else arr[j]? := by
  intro vs
  induction vs with
  | nil =>
    intro i arr w hg _ _
    exact ⟨w, arr, by simp [Go.storeCells], Only.refl g w, hg, rfl, fun j => by rw [if_neg (by simp only [List.length_nil]; omega)]⟩
  | cons v vs ih =>
    intro i arr w hg hfit hone
    simp only [List.length_cons] at hfit
    have hadd : (⟨g, o, none⟩ : Addr).add i = ⟨g, o + i, none⟩ := by
      unfold Addr.add; split
      · rename_i h; simp [h]
      · rfl
    have hlt : o + i < arr.size := by omega
    have hcell : w.cell? ⟨g, o + i, none⟩ = some arr[o + i] := by simp [World.cell?, hg, hlt]
    have hfr : w.frozen? ⟨g, o + i, none⟩ = false := by simp [World.frozen?, hg]
    have hg' : (w.setCell ⟨g, o + i, none⟩ v).heap[g]? = some (.cells (arr.setIfInBounds (o + i) v) e (0, 0)) := by
      simp [World.setCell, Array.getElem?_modify, hg]
    obtain ⟨w', arr', h1, h2, h3, h4, h5⟩ := ih (i + 1) _ _ hg' (by simp; omega) (fun x hx => hone x (by simp [hx]))
    refine ⟨w', arr', ?_, (only_setCell w g (o + i) v).trans h2, h3, by simp [h4], fun j => ?_⟩
    · simp only [Go.storeCells, Sem.run_bind, hadd, run_store P w _ v _ (hone v (by simp)), hcell, hfr, Bool.false_eq_true, if_false, Result.andThen_ok]
      exact h1
    · rw [h5 j]
      simp only [List.length_cons]
      by_cases hc : o + (i + 1) ≤ j ∧ j < o + (i + 1) + vs.length
      · rw [if_pos hc, if_pos (by omega)]
        have : j - (o + i) = (j - (o + (i + 1))) + 1 := by omega
        rw [this]; simp
      · rw [if_neg hc]
        by_cases hj : j = o + i
        · subst hj
          rw [if_pos (by omega)]
          simp [hlt]
        · rw [if_neg (by omega), Array.getElem?_setIfInBounds_ne (by omega)]

section
variable {D : Tab} {P : Program} (F : Fits D P) {ι : Nat → Loc} {σ : St} {w : World}

/-- a store into a block of one's own -/
theorem run_store_own (R : Rep D ι σ w) {b o : Nat} {l : List AV} {σ' : St} (h : storeCells σ b o l = .ok σ') (hl : idsL ι (· < σ.n) l) :
    ∃ w', (Go.storeCells ((ι b).at o) (concL ι l)).run P w = .ok () w' ∧ Rep D ι σ' w' ∧ Ext ι σ w ι σ' w' := by
  unfold storeCells at h
  split at h
  · simp at h; subst h
    exact ⟨w, by simp [Go.storeCells, concL], R, Ext.refl ι σ w⟩
  · split at h
    · rename_i hb
      split at h
      · rename_i cs elem own sz heq
        split at h
        · rename_i hc
          simp only [Bool.and_eq_true, decide_eq_true_eq] at hc
          obtain ⟨⟨rfl, hfit⟩, hone⟩ := hc
          simp at h; subst h
          have hr := R.obj b hb
          rw [heq] at hr
          obtain ⟨h1, h2, arr, fz, h3, h4, h5⟩ := hr
          obtain ⟨rfl, h6⟩ := h5 rfl
          have harr : ∀ i, i < cs.length → (ι b).shift + i < arr.size := fun i hi => by
            have := h4 i _ (List.getElem?_eq_getElem hi)
            exact (Array.getElem?_eq_some_iff.1 this).1
          have hfit' : (ι b).shift + o + 0 + (concL ι l).length ≤ arr.size := by
            rw [concL_length]
            rcases Nat.eq_zero_or_pos l.length with h0 | h0
            · rw [h0] at hfit ⊢
              rcases Nat.eq_zero_or_pos cs.length with h7 | h7
              · have : l = [] := List.eq_nil_of_length_eq_zero h0
                exact absurd this ‹_›
              · have : l = [] := List.eq_nil_of_length_eq_zero h0
                exact absurd this ‹_›
            · have := harr (o + l.length - 1) (by omega)
              omega
          obtain ⟨w', arr', r1, r2, r3, r4, r5⟩ := run_storeCells P (ι b).block ((ι b).shift + o) elem (concL ι l) 0 arr w h3 hfit' (fun v hv => by
            rw [concL_eq, List.mem_map] at hv
            obtain ⟨x, hx, rfl⟩ := hv
            exact conc_oneCell' (List.all_eq_true.1 hone x hx))
          refine ⟨w', r1, ?_⟩
          refine R.set hb (by rw [heq]; rfl) r2.size r2.other r2.os ⟨idsL_splice hfit h1 hl, h2, arr', (0, 0), r3, fun i v hv => ?_, fun _ => ⟨rfl, by omega⟩⟩
          rw [splice_get _ _ _ _ hfit] at hv
          rw [r5, concL_length]
          split at hv
          · rename_i hc
            rw [if_pos (by omega)]
            have : (ι b).shift + i - ((ι b).shift + o + 0) = i - o := by omega
            rw [this, concL_getElem?, hv]; rfl
          · rename_i hc
            rw [if_neg (by omega)]
            exact h4 i v hv
        · simp at h
      · simp at h
    · simp at h

include F
theorem run_storeV (R : Rep D ι σ w) {t : Nat} {a x : AV} {σ' : St} (h : storeV D σ t a x = .ok σ') (hx : ids ι (· < σ.n) x) :
    ∃ w', (Instr.storeAt t (conc ι a) (conc ι x)).run P w = .ok () w' ∧ Rep D ι σ' w' ∧ Ext ι σ w ι σ' w' := by
  unfold storeV at h
  split at h
  · rename_i b o
    simp only [bind_ok] at h
    obtain ⟨n, hn, h⟩ := h
    split at h
    · rename_i hlen
      obtain ⟨w', h1, h2, h3⟩ := run_store_own (P := P) R h (ids_cells hx)
      refine ⟨w', ?_, h2, h3⟩
      simp only [Instr.storeAt, conc, Instr.sureAddr, Sem.run_bind, Sem.run_pure, Result.andThen_ok, storeVar, run_size F w hn, conc_cells]
      rw [if_neg (by simp [hlen])]
      simpa using h1
    · simp at h
  · simp at h

omit F in
theorem run_setObj (P : Program) (w : World) (r : Nat) (o o' : Obj) (h : w.heap[r]? = some o) (hc : ∀ a b c, o ≠ .cells a b c) :
    (setObj r o').run P w = .ok () { w with heap := w.heap.setIfInBounds r o' } := by
  simp only [setObj, Sem.run, h]
omit F in
theorem run_getObj (P : Program) (w : World) (r : Nat) (o : Obj) (h : w.heap[r]? = some o) (hc : ∀ a b c, o ≠ .cells a b c) :
    (getObj r).run P w = .ok o w := by
  simp only [getObj, Sem.run, h]

omit F in
theorem heap_setIf (w : World) (r : Nat) (o' : Obj) (h : r < w.heap.size) : ({ w with heap := w.heap.setIfInBounds r o' } : World).heap[r]? = some o' := by
  simp [h]

omit F in
theorem beqBase_ok {a b : Value} (h : beqBase a b = true) : a = b := by
  unfold beqBase at h
  split at h <;> simp_all

omit F in
theorem beqFn_ok {a b : Fn} (h : beqFn a b = true) : a = b := by
  unfold beqFn at h
  split at h <;> simp_all

omit F in
mutual
theorem beqA_ok : ∀ (a b : AV), beqA a b = true → a = b
  | .base a, .base b, h => by simp only [beqA] at h; rw [beqBase_ok h]
  | .ptr .., .ptr .., h => by simp [beqA] at h; simp [h]
  | .slice .., .slice .., h => by simp [beqA] at h; simp [h]
  | .sliceZ .., .sliceZ .., h => by simp [beqA] at h; simp [h]
  | .mapv _, .mapv _, h => by simp [beqA] at h; simp [h]
  | .func f a b, .func g a' b', h => by
    simp only [beqA, Bool.and_eq_true] at h
    rw [beqFn_ok h.1.1, beqL_ok a a' h.1.2, beqL_ok b b' h.2]
  | .yield _, .yield _, h => by simp [beqA] at h; simp [h]
  | .iface t v, .iface t' v', h => by
    simp only [beqA, Bool.and_eq_true, beq_iff_eq] at h
    rw [h.1, beqA_ok v v' h.2]
  | .agg l, .agg l', h => by simp only [beqA] at h; rw [beqL_ok l l' h]
  | .tuple l, .tuple l', h => by simp only [beqA] at h; rw [beqL_ok l l' h]
theorem beqL_ok : ∀ (a b : List AV), beqL a b = true → a = b
  | [], [], _ => rfl
  | x :: xs, y :: ys, h => by
    simp only [beqL, Bool.and_eq_true] at h
    rw [beqA_ok x y h.1, beqL_ok xs ys h.2]
end

omit F in
theorem sameBits_plainBase {v : AV} (h : plainBase v = true) (n : Nat) : Instr.sameBits n (conc ι v) (conc ι v) = true := by
  unfold plainBase at h
  split at h
  · cases n <;> simp [conc, Instr.sameBits]
  · cases n <;> simp [conc, Instr.sameBits]
  · cases n <;> simp [conc, Instr.sameBits, Go.beq_toListBytes]
  · simp at h

omit F in
theorem sameBits_plain {v : AV} (h : plainVal v = true) (n : Nat) : Instr.sameBits (n + 1) (conc ι v) (conc ι v) = true := by
  unfold plainVal at h
  split at h
  · rename_i cs
    simp only [conc, Instr.sameBits, Bool.and_eq_true, beq_self_eq_true, true_and]
    have hall : ∀ v, v ∈ cs → plainBase v = true := by simpa using h
    clear h
    induction cs with
    | nil => simp [concL]
    | cons c cs ih =>
      have := ih (fun v hv => hall v (by simp [hv]))
      simp only [concL]
      simp only [List.zip_cons_cons, List.all_cons, Bool.and_eq_true]
      exact ⟨sameBits_plainBase (hall c (by simp)) n, this⟩
  · exact sameBits_plainBase h _

theorem run_mapUpdate (R : Rep D ι σ w) {t : Nat} {m k v : AV} {σ' : St} (h : mapUpdate D σ t m k v = .ok σ') (hk : ids ι (· < σ.n) k) (hv : ids ι (· < σ.n) v) :
    ∃ w', (Instr.mapUpdate t (conc ι m) (conc ι k) (conc ι v)).run P w = .ok () w' ∧ Rep D ι σ' w' ∧ Ext ι σ w ι σ' w' := by
  simp only [mapUpdate, bind_ok] at h
  obtain ⟨d, hd, h⟩ := h
  split at h
  · rename_i key elem b
    split at h
    · rename_i hpk
      simp only [bind_ok] at h
      obtain ⟨⟨es, clock⟩, hm, r0, hr0, h⟩ := h
      cases r0 with
      | false => simp at h
      | true =>
        simp only [Bool.not_true, Bool.false_eq_true, if_false, bind_ok] at h
        obtain ⟨r, hr, h⟩ := h
        obtain ⟨hids, hx⟩ := mapOf_ok R hm
        rcases hx with ⟨hx, _⟩ | ⟨b', hx, hb, heq, hshift, hheap⟩
        · cases hx
        · cases hx
          obtain ⟨kd, hkd⟩ := plainKey_und hpk
          have hfk := run_findKey' F (ι := ι) (w := w) hkd hr
          have hck : ∀ emp, (Instr.checkKey emp 10000 key (conc ι k)).run P w = .ok () w := fun emp => run_checkKey F 10 10000 key k 10 hpk hr0 (by omega)
          have hlt : (ι b).block < w.heap.size := (Array.getElem?_eq_some_iff.1 hheap).1
          have hg := run_getObj P w (ι b).block _ hheap (by simp)
          have hso := fun o' => run_setObj P w (ι b).block _ o' hheap (by simp)
          have hmut : (σ.getO b).isMut = true := by rw [heq]; rfl
          cases r with
          | none =>
            simp at h; subst h
            refine ⟨{ w with heap := w.heap.setIfInBounds (ι b).block (.map ((es.map (concEntry ι)).toArray.push { key := conc ι k, val := conc ι v, born := clock }) (clock + 1)) }, ?_, ?_⟩
            · simp only [Instr.mapUpdate, Sem.run_bind, run_und F w hd, Result.andThen_ok, conc, hg, hck]
              simp only [hfk, Result.andThen_ok, Option.map_none]
              exact hso _
            · have := only_setIf w (ι b).block (.map ((es.map (concEntry ι)).toArray.push { key := conc ι k, val := conc ι v, born := clock }) (clock + 1))
              refine R.set hb hmut this.size this.other this.os ⟨hshift, ?_, ?_⟩
              · rw [heap_setIf w _ _ hlt]
                simp [concEntry]
              · intro e he
                rcases List.mem_append.1 he with he | he
                · exact hids e he
                · simp at he; subst he; exact ⟨hk, hv⟩
          | some p =>
            obtain ⟨i, y⟩ := p
            simp only at h
            obtain ⟨e, he1, _, he3, he4⟩ := findKey_mem _ _ _ _ hr
            simp only [Nat.sub_zero] at he1
            rw [he1] at h
            simp only at h
            split at h
            · rename_i hcc
              simp only [Bool.and_eq_true] at hcc
              have hek : e.1 = k := beqA_ok _ _ hcc.2
              simp at h; subst h
              have hilt : i < es.length := (List.getElem?_eq_some_iff.1 he1).1
              have hes : (es.map (concEntry ι)).toArray[i]? = some (concEntry ι e) := by simp [he1]
              refine ⟨{ w with heap := w.heap.setIfInBounds (ι b).block (.map ((es.map (concEntry ι)).toArray.modify i fun e => { e with key := conc ι k, val := conc ι v }) clock) }, ?_, ?_⟩
              · have hkt : (Instr.keyThatStays (((es.map (concEntry ι)).toArray[i]?.map (·.key)).getD (conc ι k)) (conc ι k)).run P w = .ok (conc ι k) w := by
                  rw [hes]
                  simp only [Option.map_some, Option.getD_some, concEntry, hek, Instr.keyThatStays]
                  rw [if_pos (sameBits_plain hcc.1 9999)]
                  simp
                simp only [Instr.mapUpdate, Sem.run_bind, run_und F w hd, Result.andThen_ok, conc, hg, hck]
                simp only [hfk, Result.andThen_ok, Option.map_some]
                simp only [Sem.run_bind, hkt, Result.andThen_ok]
                exact hso _
              · have := only_setIf w (ι b).block (.map ((es.map (concEntry ι)).toArray.modify i fun e => { e with key := conc ι k, val := conc ι v }) clock)
                refine R.set hb hmut this.size this.other this.os ⟨hshift, ?_, ?_⟩
                · rw [heap_setIf w _ _ hlt]
                  congr 2
                  apply Array.ext'
                  rw [Array.toList_modify]
                  clear hes hfk hck hr hm hheap hg hso heq this hids
                  clear hilt
                  induction es generalizing i with
                  | nil => simp at he1
                  | cons x es ih =>
                    obtain ⟨a, b', c⟩ := x
                    cases i with
                    | zero => simp at he1; subst he1; simp [setVal, concEntry]; exact congrArg _ hek.symm
                    | succ i => simpa [setVal] using ih i (by simpa using he1)
                · intro e' he'
                  have : ∀ (l : List (AV × AV × Nat)) (j : Nat), (∀ e, e ∈ l → ids ι (· < σ.n) e.1 ∧ ids ι (· < σ.n) e.2.1) → ∀ e, e ∈ setVal v j l → ids ι (· < σ.n) e.1 ∧ ids ι (· < σ.n) e.2.1 := by
                    intro l
                    induction l with
                    | nil => intro j _ e he; simp [setVal] at he
                    | cons x l ih =>
                      obtain ⟨a, b', c⟩ := x
                      intro j hl e he
                      cases j with
                      | zero =>
                        simp only [setVal, List.mem_cons] at he
                        rcases he with rfl | he
                        · exact ⟨(hl (a, b', c) (by simp)).1, hv⟩
                        · exact hl e (by simp [he])
                      | succ j =>
                        simp only [setVal, List.mem_cons] at he
                        rcases he with rfl | he
                        · exact hl _ (by simp)
                        · exact ih j (fun e he => hl e (by simp [he])) e he
                  exact this _ _ hids e' he'
            · simp at h
    · simp at h
  · simp at h
end
end Go.Dt
