/-
  Operations that write memory, continued. No statement of this seat stands here.
-/
import Derived.Test.YtkpkmjanikkpoaaGreatDoorP02
namespace Go.Dt
section
variable {D : Tab} {P : Program} (F : Fits D P) {ι : Nat → Loc} {σ : St} {w : World}

theorem kor {n : Nat} {ι ι' : Nat → Loc} {A : Nat → Prop} (h : ∀ b, A b → b < n) (e : ∀ b, A b → ι' b = ι b) : ∀ b, A b → b < n ∧ ι' b = ι b := fun b hb => ⟨h b hb, e b hb⟩

/-- a new block that is no cells -/
theorem push_obj (R : Rep D ι σ w) {o : AO} {ob : Obj}
    (ho : ORep (upd ι σ.n ⟨w.heap.size, 0, 0, 0⟩) (· < σ.n + 1) o ⟨w.heap.size, 0, 0, 0⟩ (w.alloc ob)) :
    ∃ ι' w', (newObj ob).run P w = .ok w.heap.size w' ∧ Rep D ι' (σ.push o) w' ∧ Ext ι σ w ι' (σ.push o) w' ∧ ι' σ.n = ⟨w.heap.size, 0, 0, 0⟩ := by
  have := R.push (L := ⟨w.heap.size, 0, 0, 0⟩) rfl ho
  exact ⟨_, _, rfl, this.1, this.2, upd_new _ _ _⟩

include F
theorem run_rangeV (R : Rep D ι σ w) {t : Nat} {x v : AV} {σ' : St} (h : rangeV D σ t x = .ok (v, σ')) :
    ∃ ι' w', (Instr.range t (conc ι x)).run P w = .ok (conc ι' v) w' ∧ Rep D ι' σ' w' ∧ Ext ι σ w ι' σ' w' ∧ ids ι' (· < σ'.n) v := by
  simp only [rangeV, bind_ok] at h
  obtain ⟨d, hd, h⟩ := h
  split at h
  · rename_i s
    simp at h
    obtain ⟨rfl, rfl⟩ := h
    obtain ⟨ι', w', h1, h2, h3, h4⟩ := push_obj (P := P) R (o := .striter s 0) (ob := .stringIter ⟨⟨s⟩⟩ 0) ⟨rfl, heap_alloc_new w _⟩
    refine ⟨ι', w', ?_, h2, h3, by simp [ids, St.push]⟩
    simp only [Instr.range, Sem.run_bind, run_und F w hd, Result.andThen_ok, conc, Sem.run_pure, h1]
    simp [h4, Loc.at]
  · simp at h
    obtain ⟨rfl, rfl⟩ := h
    obtain ⟨ι', w', h1, h2, h3, h4⟩ := push_obj (P := P) R (o := .mapiter none 0 [] 0) (ob := .mapIter none 0 #[] 0) ⟨rfl, heap_alloc_new w _, by simp⟩
    refine ⟨ι', w', ?_, h2, h3, by simp [ids, St.push]⟩
    simp only [Instr.range, Sem.run_bind, run_und F w hd, Result.andThen_ok, conc, Sem.run_pure, h1]
    simp [h4, Loc.at]
  · rename_i m
    simp only [bind_ok] at h
    obtain ⟨⟨es, clock⟩, hm, h⟩ := h
    simp at h
    obtain ⟨rfl, rfl⟩ := h
    obtain ⟨_, hx⟩ := mapOf_ok R hm
    rcases hx with ⟨hx, _⟩ | ⟨b', hx, hb, heq, hshift, hheap⟩
    · cases hx
    · cases hx
      have hg := run_getObj P w (ι m).block _ hheap (by simp)
      obtain ⟨ι', w', h1, h2, h3, h4⟩ := push_obj (P := P) R (o := .mapiter (some m) clock [] clock) (ob := .mapIter (some (ι m).block) clock #[] clock)
        ⟨rfl, by rw [heap_alloc_new]; simp [upd_old (Nat.ne_of_lt hb)], by rintro b hb'; cases hb'; exact Nat.lt_succ_of_lt hb⟩
      refine ⟨ι', w', ?_, h2, h3, by simp [ids, St.push]⟩
      simp only [Instr.range, Sem.run_bind, run_und F w hd, Result.andThen_ok, conc, Sem.run_pure, hg, h1]
      simp [h4, Loc.at]
  · simp at h

omit F in
theorem get_ok {b : Nat} {o : AO} (h : σ.get b = .ok o) : b < σ.n ∧ σ.getO b = o := by
  unfold St.get at h
  split at h
  · rename_i hb
    simp at h
    exact ⟨hb, h⟩
  · simp at h

omit F in
theorem filter_conc (ι : Nat → Loc) (es : List (AV × AV × Nat)) (f : Nat → Bool) :
    ((es.map (concEntry ι)).toArray.filter fun e => f e.born) = ((es.filter fun e => f e.2.2).map (concEntry ι)).toArray := by
  apply Array.ext'
  simp only [Array.toList_filter]
  induction es with
  | nil => simp
  | cons e es ih =>
    simp only [List.map_cons, List.filter_cons, concEntry] at ih ⊢
    split <;> simp_all [concEntry]

omit F in
theorem run_nextV (R : Rep D ι σ w) {it v : AV} {b : Bool} {ty : TypeId} {σ' : St} (h : nextV σ it b = .ok (v, σ')) :
    ∃ w', (Instr.next (conc ι it) b ty).run P w = .ok (conc ι v) w' ∧ Rep D ι σ' w' ∧ Ext ι σ w ι σ' w' ∧ ids ι (· < σ'.n) v := by
  unfold nextV at h
  split at h
  · rename_i r
    simp only [bind_ok] at h
    obtain ⟨o, ho, h⟩ := h
    obtain ⟨hr, heq⟩ := get_ok ho
    have hrep := R.obj r hr
    rw [heq] at hrep
    split at h
    · rename_i s pos
      obtain ⟨hs, hheap⟩ := hrep
      have hg := run_getObj P w (ι r).block _ hheap (by simp)
      have hat : (ι r).at 0 = ⟨(ι r).block, 0, none⟩ := by simp [Loc.at, hs]
      have hlt : (ι r).block < w.heap.size := (Array.getElem?_eq_some_iff.1 hheap).1
      have hsz : (⟨⟨s⟩⟩ : ByteArray).size = s.length := rfl
      split at h
      · rename_i hpos
        simp at h
        obtain ⟨rfl, rfl⟩ := h
        have hso := run_setObj P w (ι r).block _ (.stringIter ⟨⟨s⟩⟩ (pos + (Utf8.decode ⟨⟨s⟩⟩ pos).2)) hheap (by simp)
        have ho := only_setIf w (ι r).block (.stringIter ⟨⟨s⟩⟩ (pos + (Utf8.decode ⟨⟨s⟩⟩ pos).2))
        have hset := R.set (o := .striter s (pos + (Utf8.decode ⟨⟨s⟩⟩ pos).2)) hr (by rw [heq]; rfl) ho.size ho.other ho.os ⟨hs, heap_setIf w _ _ hlt⟩
        refine ⟨_, ?_, hset.1, hset.2, by simp [ids, idsL, boolV, goI, intV]⟩
        simp only [Instr.next, conc, hat, Sem.run_bind, hg, Result.andThen_ok, hsz, Sem.run_ite]
        rw [if_pos hpos]
        simp only [hso, Result.andThen_ok, Sem.run_pure]
        simp [conc, concL, boolV, goI, intV, goInt]
      · rename_i hpos
        simp at h
        obtain ⟨rfl, rfl⟩ := h
        refine ⟨w, ?_, R, Ext.refl _ _ _, by simp [ids, idsL, boolV]⟩
        simp only [Instr.next, conc, hat, Sem.run_bind, hg, Result.andThen_ok, hsz, Sem.run_ite]
        rw [if_neg hpos]
        simp [conc, concL, boolV]
    · rename_i since seen stepped
      obtain ⟨hs, hheap, _⟩ := hrep
      have hg := run_getObj P w (ι r).block _ hheap (by simp)
      have hat : (ι r).at 0 = ⟨(ι r).block, 0, none⟩ := by simp [Loc.at, hs]
      simp at h
      obtain ⟨rfl, rfl⟩ := h
      refine ⟨w, ?_, R, Ext.refl _ _ _, by simp [ids, idsL, boolV]⟩
      simp only [Instr.next, conc, hat, Sem.run_bind, hg, Result.andThen_ok]
      simp [conc, concL, boolV]
    · rename_i m since seen last
      obtain ⟨hs, hheap, hm'⟩ := hrep
      have hg := run_getObj P w (ι r).block _ hheap (by simp)
      have hat : (ι r).at 0 = ⟨(ι r).block, 0, none⟩ := by simp [Loc.at, hs]
      have hlt : (ι r).block < w.heap.size := (Array.getElem?_eq_some_iff.1 hheap).1
      simp only [bind_ok] at h
      obtain ⟨⟨es, clock⟩, hm, h⟩ := h
      obtain ⟨hids, hx⟩ := mapOf_ok R hm
      rcases hx with ⟨hx, _⟩ | ⟨b', hx, hb, heqm, hshift, hheapm⟩
      · cases hx
      · cases hx
        have hgm := run_getObj P w (ι m).block _ hheapm (by simp)
        split at h
        · simp at h
        · rename_i hgone
          have hgone' : (!seen.toArray.isEmpty && !(es.map (concEntry ι)).toArray.isEmpty && (es.map (concEntry ι)).toArray.all fun x => decide (x.born ≥ last)) = false := by
            simp only [Bool.not_eq_true] at hgone
            rw [← hgone]
            simp only [List.isEmpty_toArray, List.isEmpty_map, List.all_toArray, List.all_map]
            rfl
          have hleft : (es.map (concEntry ι)).toArray.filter (fun e => !seen.toArray.contains e.born) = ((es.filter fun e => !seen.contains e.2.2).map (concEntry ι)).toArray := by
            have := filter_conc ι es (fun n => !seen.contains n)
            simpa using this
          have hold := filter_conc ι (es.filter fun e => !seen.contains e.2.2) (fun n => decide (n < since))
          have hnew := filter_conc ι (es.filter fun e => !seen.contains e.2.2) (fun n => decide (n ≥ since))
          have hstart : (Instr.next (conc ι (.ptr r 0)) false ty).run P w = ((do
              let candidates := (if (((es.filter fun e => !seen.contains e.2.2).filter fun e => decide (e.2.2 < since)).map (concEntry ι)).toArray.isEmpty then #[none] else #[]) ++
                ((((es.filter fun e => !seen.contains e.2.2).filter fun e => decide (e.2.2 < since)).map (concEntry ι)).toArray ++ (((es.filter fun e => !seen.contains e.2.2).filter fun e => decide (e.2.2 ≥ since)).map (concEntry ι)).toArray).map some
              match candidates[← choose (.mapNext candidates.size)]? with
              | some (some e) =>
                setObj (ι r).block (.mapIter (some (ι m).block) since (seen.toArray.push e.born) clock)
                pure (.tuple #[.bool true, e.key, e.val])
              | some none => pure (.tuple #[.bool false])
              | none => stuck "Next: no such candidate" : Sem Value)).run P w := by
            simp only [Instr.next, conc, hat, Sem.run_bind, hg, Result.andThen_ok, Option.map_some, hgm]
            rw [if_neg (by rw [hgone']; simp)]
            simp only [hleft, hold, hnew, Sem.run_bind]
            rfl
          rw [hstart]
          split at h
          · rename_i h1 h2
            simp at h
            obtain ⟨rfl, rfl⟩ := h
            refine ⟨w, ?_, R, Ext.refl _ _ _, by simp [ids, idsL, boolV]⟩
            simp only [h1, h2]
            simp [Question.forced, conc, concL, boolV]
          · rename_i e h1 h2
            simp at h
            obtain ⟨rfl, rfl⟩ := h
            have hmem : e ∈ es := by
              have : e ∈ ((es.filter fun e => !seen.contains e.2.2).filter fun e => decide (e.2.2 < since)) := by rw [h1]; simp
              exact (List.mem_filter.1 (List.mem_filter.1 this).1).1
            have hso := run_setObj P w (ι r).block _ (.mapIter (some (ι m).block) since (seen ++ [e.2.2]).toArray clock) hheap (by simp)
            have ho := only_setIf w (ι r).block (.mapIter (some (ι m).block) since (seen ++ [e.2.2]).toArray clock)
            have hset := R.set (o := .mapiter (some m) since (seen ++ [e.2.2]) clock) hr (by rw [heq]; rfl) ho.size ho.other ho.os
              ⟨hs, by rw [heap_setIf w _ _ hlt]; simp, by rintro b hb'; cases hb'; exact hb⟩
            refine ⟨_, ?_, hset.1, hset.2, by simp [ids, idsL, boolV]; exact hids e hmem⟩
            simp only [h1, h2]
            simp [Question.forced, concEntry]
            rw [hso]
            simp [conc, concL, boolV]
          · simp at h
    · simp at h
  · simp at h

omit F in
theorem run_entryV (R : Rep D ι σ w) {it v : AV} (h : entryV σ it = .ok v) :
    (Instr.entry (conc ι it)).run P w = .ok (conc ι v) w ∧ ids ι (· < σ.n) v := by
  unfold entryV at h
  split at h
  · rename_i r
    simp only [bind_ok] at h
    obtain ⟨o, ho, h⟩ := h
    obtain ⟨hr, heq⟩ := get_ok ho
    have hrep := R.obj r hr
    rw [heq] at hrep
    split at h
    · rename_i m since seen stepped
      obtain ⟨hs, hheap, hm'⟩ := hrep
      have hg := run_getObj P w (ι r).block _ hheap (by simp)
      have hat : (ι r).at 0 = ⟨(ι r).block, 0, none⟩ := by simp [Loc.at, hs]
      simp only [bind_ok] at h
      obtain ⟨⟨es, clock⟩, hm, h⟩ := h
      obtain ⟨hids, hx⟩ := mapOf_ok R hm
      rcases hx with ⟨hx, _⟩ | ⟨b', hx, hb, heqm, hshift, hheapm⟩
      · cases hx
      · cases hx
        have hgm := run_getObj P w (ι m).block _ hheapm (by simp)
        split at h
        · rename_i hcl
          split at h
          · rename_i stamp hst
            split at h
            · rename_i x hx
              simp at h; subst h
              have hmem : x ∈ es := List.mem_of_find?_eq_some hx
              refine ⟨?_, by simp [ids, idsL, hids x hmem]⟩
              have hback : seen.toArray.back? = some stamp := by simpa using hst
              have hfind : (es.map (concEntry ι)).toArray.find? (fun e => e.born == stamp) = some (concEntry ι x) := by
                rw [List.find?_toArray, List.find?_map]
                have : ((fun e : MapEntry => e.born == stamp) ∘ concEntry ι) = fun e => e.2.2 == stamp := rfl
                rw [this, hx]; rfl
              simp only [Instr.entry, conc, hat, Sem.run_bind, hg, Result.andThen_ok, Option.map_some, hback, hgm]
              rw [if_neg (by simp; exact hcl)]
              simp [hfind, concEntry, concL]
            · simp at h
          · simp at h
        · simp at h
    · simp at h
  · simp at h
end
end Go.Dt
namespace Go.Dt
section
variable {D : Tab} {P : Program} (F : Fits D P) {ι : Nat → Loc} {σ : St} {w : World}

theorem concL_bytes (ι : Nat → Loc) (l : List UInt8) : concL ι (l.map fun c => intV .u8 c.toNat) = l.map fun c => Value.int .u8 c.toNat := by
  induction l with
  | nil => simp [concL]
  | cons c l ih =>
    simp only [List.map_cons, concL, ih]
    simp [intV, conc]

/-- the source of an append or a copy: its length, and its first cells -/
theorem run_srcCells (R : Rep D ι σ w) {sz n : Nat} {x : AV} {new : List AV} (h : srcCells σ sz x = .ok (new, n)) :
    (Builtin.lenOf (conc ι x)).run P w = .ok n w ∧ idsL ι (· < σ.n) new ∧ new.length = n * sz ∧
    (∀ m, m ≤ n → (Builtin.firstCells sz m (conc ι x)).run P w = .ok (concL ι (new.take (m * sz))).toArray w) := by
  unfold srcCells at h
  split at h
  · simp at h
    obtain ⟨rfl, rfl⟩ := h
    refine ⟨by simp [Builtin.lenOf, conc], by simp [idsL], by simp, fun m hm => ?_⟩
    have : m = 0 := by omega
    subst this
    simp [Builtin.firstCells, conc, concL]
  · rename_i b o l s
    simp at h
    obtain ⟨rfl, rfl⟩ := h
    obtain ⟨a, c, hc⟩ := conc_sliceZ ι b o l s
    rw [hc]
    refine ⟨by simp [Builtin.lenOf], by simp [idsL], by simp, fun m hm => ?_⟩
    have : m = 0 := by omega
    subst this
    simp [Builtin.firstCells, Go.loadCells, loadCellsFrom, concL]
  · rename_i l
    split at h
    · rename_i h1
      subst h1
      simp at h
      obtain ⟨rfl, rfl⟩ := h
      refine ⟨by simp [Builtin.lenOf, conc, ByteArray.size], ?_, by simp, fun m hm => ?_⟩
      · exact idsL_iff.2 fun v hv => by
          simp only [List.mem_map] at hv
          obtain ⟨c, _, rfl⟩ := hv
          simp [intV, ids]
      · simp only [Builtin.firstCells, conc, Sem.run_pure, extract_bytes, Nat.mul_one]
        congr 1
        apply Array.ext'
        simp [concL_bytes, ← List.map_take]
    · simp at h
  · rename_i b o len cap s
    simp only [bind_ok, pure_ok, Prod.mk.injEq] at h
    obtain ⟨cs, hcs, l, hl, rfl, rfl⟩ := h
    obtain ⟨hb, elem, own, sz', ho⟩ := cellsOf_ok hcs
    obtain ⟨c, hc⟩ := conc_slice ι b o len cap s
    obtain ⟨h1, h2⟩ := takeN_ok hl
    have := R.loadCells (P := P) hb ho hl
    rw [hc]
    refine ⟨by simp [Builtin.lenOf], this.2, h2, fun m hm => ?_⟩
    have hm' : m * sz ≤ len * sz := Nat.mul_le_mul_right _ hm
    have htake : takeN cs o (m * sz) = .ok (l.take (m * sz)) := by
      have e : l.take (m * sz) = (cs.drop o).take (m * sz) := by rw [h1, List.take_take, Nat.min_eq_left hm']
      unfold takeN
      rw [← e, if_pos (by rw [List.length_take, h2]; omega)]
    have := R.loadCells (P := P) hb ho htake
    simp only [Builtin.firstCells]
    exact this.1
  · simp at h

theorem run_nextslicecap (need c : Nat) (h : c < need) : Builtin.nextslicecap need c ≤ 2 * need + 1000 := by
  unfold Builtin.nextslicecap
  split
  · omega
  · split
    · omega
    · have : ∀ (r x : Nat), x ≤ 2 * need + 1000 → Builtin.growBy need r x ≤ 2 * need + 1000 := by
        intro r
        induction r with
        | zero => intro x hx; simpa [Builtin.growBy] using hx
        | succ r ih =>
          intro x hx
          simp only [Builtin.growBy]
          split
          · exact hx
          · exact ih _ (by omega)
      exact this _ _ (by omega)

/-- a block of one's own is taken over under a new name -/
theorem Rep.reuse (R : Rep D ι σ w) {b : Nat} {o : AO} {L : Loc} {w' : World} (hb : b < σ.n) (hm : (σ.getO b).isMut = true)
    (hL : L.block = (ι b).block) (hw : Only (ι b).block w w') (ho : ORep (upd ι σ.n L) (· < σ.n + 1) o L w') :
    Rep D (upd ι σ.n L) ((σ.set b .gone).push o) w' ∧ Ext ι σ w (upd ι σ.n L) ((σ.set b .gone).push o) w' := by
  have hlen : (σ.set b .gone).l.length = (σ.set b .gone).n := by simp [St.set, R.len]
  have hn : (σ.set b .gone).n = σ.n := rfl
  have hmb : σ.getO b ≠ .gone := by intro e; rw [e] at hm; simp [AO.isMut] at hm
  have hold : ∀ b', b' < σ.n → ((σ.set b .gone).push o).getO b' = if b = b' then .gone else σ.getO b' := fun b' hb' => by
    rw [getO_push_old (by rw [hn]; exact hb')]
    split
    · rename_i e; subst e; exact getO_set_same R.len hb
    · rename_i e; exact getO_set_other hb e
  have hnew : ((σ.set b .gone).push o).getO σ.n = o := by
    have := getO_push_new (σ := σ.set b .gone) (o := o)
    rwa [hn] at this
  refine ⟨⟨by simp [St.push, St.set, R.len], Nat.le_succ_of_le R.glob, fun g hg => ?_, fun b' hb' => ?_, fun b1 b2 hb1 hb2 hne hm1 hg2 => ?_, R.mem⟩, ?_⟩
  · rw [upd_old (by have := R.glob; omega)]; exact R.gloc g hg
  · change b' < σ.n + 1 at hb'
    by_cases he : b' = σ.n
    · subst he; rw [hnew, upd_new]; exact ho
    · have hb1 : b' < σ.n := by omega
      rw [hold b' hb1, upd_old he]
      split
      · trivial
      · rename_i hne
        by_cases hg : σ.getO b' = .gone
        · rw [hg]; trivial
        · exact ((R.obj b' hb1).mono kpush).congr (hw.other _ fun e => R.sep b b' hb hb1 hne hm hg e.symm)
  · change b1 < σ.n + 1 at hb1
    change b2 < σ.n + 1 at hb2
    by_cases he1 : b1 = σ.n
    · subst he1
      have hb2' : b2 < σ.n := by omega
      rw [hold b2 hb2'] at hg2
      rw [upd_new, upd_old (by omega), hL]
      split at hg2
      · exact (hg2 rfl).elim
      · rename_i hne2
        exact R.sep b b2 hb hb2' hne2 hm hg2
    · have hb1' : b1 < σ.n := by omega
      rw [hold b1 hb1'] at hm1
      split at hm1
      · simp [AO.isMut] at hm1
      · rename_i hne1
        by_cases he2 : b2 = σ.n
        · subst he2
          rw [upd_new, upd_old he1, hL]
          exact R.sep b1 b hb1' hb (fun e => hne1 e.symm) hm1 hmb
        · have hb2' : b2 < σ.n := by omega
          rw [hold b2 hb2'] at hg2
          rw [upd_old he1, upd_old he2]
          split at hg2
          · exact (hg2 rfl).elim
          · exact R.sep b1 b2 hb1' hb2' hne hm1 hg2
  · refine ⟨hw.os.1, hw.os.2.1, hw.os.2.2, by rw [hw.size]; exact Nat.le_refl _, by simp [St.push, St.set], fun b' hb' => upd_old (by omega), fun r hr hno => hw.other r fun e => hno b hb hm e.symm, fun b' hb' hm' => ?_⟩
    change b' < σ.n + 1 at hb'
    right
    by_cases he : b' = σ.n
    · subst he; exact ⟨b, hb, AO.isMut_ne hm, fun _ => hm, by rw [upd_new, hL]⟩
    · have hb1 : b' < σ.n := by omega
      rw [hold b' hb1] at hm' ⊢
      split at hm'
      · exact (hm' rfl).elim
      · rename_i hne
        exact ⟨b', hb1, hm', fun h => by rw [if_neg hne] at h; exact h, by rw [upd_old he]⟩

theorem zeroCells_size (z : Array Value) (n : Nat) : (Builtin.zeroCells z n).size = n * z.size := by simp [Builtin.zeroCells]

/-- what a growing append leaves: a new row that begins with the cells given -/
theorem grown_row (R : Rep D ι σ w) {elem sz k c : Nat} {cs : List AV} {rest : Array Value} (_ : 0 < sz) (hids : idsL ι (· < σ.n) cs) (hk : k ≤ c)
    (hcs : cs.length = k * sz) (hrest : rest.size = (c - k) * sz) :
    Rep D (upd ι σ.n ⟨w.heap.size, 0, c, sz⟩) (σ.push (.cells cs elem true sz)) (w.alloc (.cells ((concL ι cs).toArray ++ rest) elem)) ∧
    Ext ι σ w (upd ι σ.n ⟨w.heap.size, 0, c, sz⟩) (σ.push (.cells cs elem true sz)) (w.alloc (.cells ((concL ι cs).toArray ++ rest) elem)) := by
  refine R.push rfl ⟨idsL_mono kpush cs hids, rfl, _, (0, 0), heap_alloc_new w _, fun i v hv => ?_, fun _ => ⟨rfl, ?_, Nat.dvd_zero _⟩⟩
  · have hlt : i < cs.length := (List.getElem?_eq_some_iff.1 hv).1
    rw [conc_agree (fun x hx => (kpush x hx).2) v (idsL_get hids hv)]
    rw [Array.getElem?_append_left (by simp; omega)]
    simp [hv]
  · show 0 + c * sz ≤ _
    simp only [Array.size_append, List.size_toArray, concL_length, hcs, hrest]
    rw [← Nat.add_mul]
    have : k + (c - k) = c := by omega
    rw [this]; omega

theorem int_not {xd : TypeDesc} (h : isIntD xd = false) (k : IntKind) : xd = .int k → False := by
  rintro rfl; simp [isIntD] at h

include F
theorem run_appendV (R : Rep D ι σ w) {sT xT : Nat} {s x v : AV} {σ' : St} {ts : Array TypeId} {ty : TypeId} (h : appendV D σ sT xT s x = .ok (v, σ'))
    (hts : ts = #[sT, xT]) (hs : ids ι (· < σ.n) s) :
    ∃ ι' w', (Builtin.append_ ts ty #[conc ι s, conc ι x]).run P w = .ok (conc ι' v) w' ∧ Rep D ι' σ' w' ∧ Ext ι σ w ι' σ' w' ∧ ids ι' (· < σ'.n) v := by
  subst hts
  simp only [appendV, bind_ok] at h
  obtain ⟨elem, hel, sz, hsz, i, hi, xd, hxd, z, hz, ⟨new, n⟩, hsrc, h⟩ := h
  have hd := sliceElem_ok hel
  obtain ⟨hlen, hnew, hnl, hfirst⟩ := run_srcCells (P := P) R hsrc
  split at h
  · simp at h
  · rename_i hcond
    have hcond' : (decide (n < 2 ^ 30) && decide (0 < i.bytes ∧ i.bytes < 2 ^ 14 ∧ 0 < sz) && !isIntD xd && z.cells.length == sz) = true := by
      rw [Bool.not_eq_true', Bool.not_eq_false] at hcond
      exact hcond
    simp only [Bool.and_eq_true, decide_eq_true_eq, beq_iff_eq, Bool.not_eq_true'] at hcond'
    obtain ⟨⟨⟨hn30, hby, hby2, hszpos⟩, hxt⟩, hzl⟩ := hcond'
    have hnewAll : (Builtin.firstCells sz n (conc ι x)).run P w = .ok (concL ι new).toArray w := by
      have := hfirst n (Nat.le_refl _)
      rwa [List.take_of_length_le (by omega)] at this
    -- the growing arm, whatever the old slice
    have grow : ∀ (sv : AV) (base : Option Addr) (sLen sCap : Nat) (old : List AV), conc ι sv = .slice base sLen sCap → sLen + n < 2 ^ 30 → sCap < sLen + n →
        (∀ w', w'.heap = w.heap → (Builtin.firstCells sz sLen (conc ι sv)).run P w' = .ok (concL ι old).toArray w') → idsL ι (· < σ.n) old → old.length = sLen * sz →
        ∃ c, sLen + n ≤ c ∧ (Builtin.append_ #[sT, xT] ty #[conc ι sv, conc ι x]).run P w =
          .ok (.slice (some ⟨w.heap.size, 0, none⟩) (sLen + n) c) (w.drew.alloc (.cells ((concL ι (old ++ new)).toArray ++ Builtin.zeroCells (conc ι z).cells (c - (sLen + n))) elem)) := by
      intro sv base sLen sCap old hsv hneed hcap hold hoi hol
      have hns := run_nextslicecap (sLen + n) sCap hcap
      have hnb : ¬ (Builtin.nextslicecap (sLen + n) sCap * i.bytes > 2 ^ 48) := by
        have h1 : Builtin.nextslicecap (sLen + n) sCap * i.bytes ≤ (2 ^ 31 + 1000) * 2 ^ 14 := Nat.mul_le_mul (by omega) (by omega)
        have h2 : (2 ^ 31 + 1000) * 2 ^ 14 ≤ 2 ^ 48 := by decide
        omega
      refine ⟨(Question.appendCap (sLen + n) sCap elem).cut (w.tape w.drawn (.appendCap (sLen + n) sCap elem)), by simp [Question.cut], ?_⟩
      generalize hc : (Question.appendCap (sLen + n) sCap elem).cut (w.tape w.drawn (.appendCap (sLen + n) sCap elem)) = c
      simp only [Builtin.append_, List.getElem?_toArray, List.getElem?_cons_zero, List.getElem?_cons_succ, Sem.run_bind, run_und F w hd, Result.andThen_ok, hsv, run_size F w hsz, run_und F w hxd, Sem.run_pure]
      have hx := int_not hxt
      simp only [Bool.false_eq_true, if_false, hlen, Sem.run_bind, Result.andThen_ok]
      rw [if_neg (by omega)]
      simp only [Sem.run_bind, run_inf F w hi, Result.andThen_ok, false_or]
      rw [if_neg (by omega)]
      simp only [Sem.run_bind, run_inf F w hi, Result.andThen_ok]
      rw [if_neg hnb]
      have hq : (Question.appendCap (sLen + n) sCap elem).forced = false := rfl
      obtain ⟨_, _, _, hfirst'⟩ := run_srcCells (P := P) R.drew hsrc
      have hnewAll' : (Builtin.firstCells sz n (conc ι x)).run P w.drew = .ok (concL ι new).toArray w.drew := by
        have := hfirst' n (Nat.le_refl _)
        rwa [List.take_of_length_le (by omega)] at this
      have hold' := hold w.drew rfl
      rw [hsv] at hold'
      simp only [Sem.run_bind, run_choose, hq, Bool.false_eq_true, if_false, Result.andThen_ok, hc, World.drew_eq, run_inf F w.drew hi, run_askRoom, hold', Bool.not_false, if_true, hnewAll', run_zero F (ι := ι) w.drew hz, run_newRow, Sem.run_pure]
      simp []
    -- the new row's representation
    have grown : ∀ (ι0 : Nat → Loc) (σ0 : St) (w0 : World) (c k : Nat) (cs : List AV), Rep D ι0 σ0 w0 → idsL ι0 (· < σ0.n) cs → k ≤ c → cs.length = k * sz →
        Rep D (upd ι0 σ0.n ⟨w0.heap.size, 0, c, sz⟩) (σ0.push (.cells cs elem true sz)) (w0.alloc (.cells ((concL ι0 cs).toArray ++ Builtin.zeroCells (conc ι z).cells (c - k)) elem)) ∧
        Ext ι0 σ0 w0 (upd ι0 σ0.n ⟨w0.heap.size, 0, c, sz⟩) (σ0.push (.cells cs elem true sz)) (w0.alloc (.cells ((concL ι0 cs).toArray ++ Builtin.zeroCells (conc ι z).cells (c - k)) elem)) := by
      intro ι0 σ0 w0 c k cs R0 hids hk hcs
      refine grown_row R0 hszpos hids hk hcs ?_
      rw [zeroCells_size, conc_cells]
      simp [hzl]
    split at h
    · -- the nil slice
      split at h
      · rename_i hn0
        simp at h
        obtain ⟨rfl, rfl⟩ := h
        simp only at hn0
        subst hn0
        refine ⟨ι, w, ?_, R, Ext.refl _ _ _, by simp [ids]⟩
        have hx := int_not hxt
        simp only [Builtin.append_, List.getElem?_toArray, List.getElem?_cons_zero, List.getElem?_cons_succ, Sem.run_bind, run_und F w hd, Result.andThen_ok, conc, run_size F w hsz, run_und F w hxd, Sem.run_pure]
        simp only [Bool.false_eq_true, if_false, hlen, Sem.run_bind, Result.andThen_ok]
        rw [if_pos (by omega)]
        simp [hnewAll]
      · rename_i hn0
        simp at h
        obtain ⟨rfl, rfl⟩ := h
        obtain ⟨c, hc, hrun⟩ := grow (.base (.slice none 0 0)) none 0 0 [] (by simp [conc]) (by omega) (by simp only at hn0; omega) (fun w' _ => by simp [Builtin.firstCells, conc, concL]) (by simp [idsL]) (by simp)
        have hg := grown ι σ w.drew c n new R.drew hnew (by omega) hnl
        refine ⟨_, _, ?_, hg.1, (Ext.drew ι σ w).trans hg.2, ?_⟩
        · rw [hrun]
          simp [conc, upd_new, Loc.at]
        · refine ⟨by simp [St.push], by rw [upd_new], hszpos, ?_⟩
          rw [upd_new]; simp; omega
    · rename_i b o len cap sz'
      split at h
      · simp at h
      · rename_i hneed
        have hneed' : (decide (len + n < 2 ^ 30) && sz' == sz) = true := by
          rw [Bool.not_eq_true', Bool.not_eq_false] at hneed
          exact hneed
        simp only [Bool.and_eq_true, decide_eq_true_eq, beq_iff_eq] at hneed'
        obtain ⟨hneed2, rfl⟩ := hneed'
        simp only [bind_ok] at h
        obtain ⟨cs, hcs, old, hold, h⟩ := h
        obtain ⟨hb, elem', own, szb, ho⟩ := cellsOf_ok hcs
        obtain ⟨ho1, ho2⟩ := takeN_ok hold
        have hload := R.loadCells (P := P) hb ho hold
        have holdr : ∀ c w', w'.heap = w.heap → (Builtin.firstCells sz' len (.slice (some ((ι b).at o)) len c)).run P w' = .ok (concL ι old).toArray w' := by
          intro c w' hw'
          simp only [Builtin.firstCells]
          exact ((R.of_heap hw').loadCells (P := P) hb ho hold).1
        -- the arm in place, whatever the capacity
        have inplace : ∀ c, conc ι (.slice b o len cap sz') = .slice (some ((ι b).at o)) len c → len + n ≤ c →
            (Builtin.append_ #[sT, xT] ty #[conc ι (.slice b o len cap sz'), conc ι x]).run P w =
              ((Go.storeCells ((ι b).at (o + len * sz')) (concL ι new)).run P w).andThen fun _ w' => .ok (.slice (some ((ι b).at o)) (len + n) c) w' := by
          intro c hcv hle
          have hx := int_not hxt
          rw [hcv]
          simp only [Builtin.append_, List.getElem?_toArray, List.getElem?_cons_zero, List.getElem?_cons_succ, Sem.run_bind, run_und F w hd, Result.andThen_ok, run_size F w hsz, run_und F w hxd, Sem.run_pure]
          simp only [Bool.false_eq_true, if_false, hlen, Sem.run_bind, Result.andThen_ok]
          rw [if_pos hle]
          simp [hnewAll, at_add]
        split at h
        · -- the capacity is known
          rename_i c
          have hcv : conc ι (.slice b o len (some c) sz') = .slice (some ((ι b).at o)) len c := by simp [conc]
          split at h
          · rename_i hle
            simp only [bind_ok, pure_ok, Prod.mk.injEq] at h
            obtain ⟨σ1, hst, rfl, rfl⟩ := h
            obtain ⟨w', h1, h2, h3⟩ := run_store_own (P := P) R hst hnew
            refine ⟨ι, w', ?_, h2, h3, ?_⟩
            · rw [inplace c hcv hle, h1]
              simp [conc]
            · have := h3.n
              simp only [ids] at hs ⊢
              omega
          · rename_i hle
            simp at h
            obtain ⟨rfl, rfl⟩ := h
            obtain ⟨c', hc', hrun⟩ := grow (.slice b o len (some c) sz') _ len c old hcv hneed2 (by omega) (fun w' hw' => by rw [hcv]; exact holdr c w' hw') hload.2 ho2
            have hg := grown ι σ w.drew c' (len + n) (old ++ new) R.drew (idsL_append.2 ⟨hload.2, hnew⟩) hc' (by simp [ho2, hnl, Nat.add_mul])
            refine ⟨_, _, ?_, hg.1, (Ext.drew ι σ w).trans hg.2, ?_⟩
            · rw [hrun]
              simp [conc, upd_new, Loc.at]
            · refine ⟨by simp [St.push], by rw [upd_new], hszpos, ?_⟩
              rw [upd_new]; simp; omega
        · -- an open block
          split at h
          · rename_i cs2 elem2 own2 szb2 ho'
            rw [ho] at ho'
            cases ho'
            split at h
            · simp at h
            · rename_i hcc
              have hcc' : (elem' == elem && own && szb == sz' && o % sz' == 0) = true := by
                rw [Bool.not_eq_true', Bool.not_eq_false] at hcc
                exact hcc
              simp only [Bool.and_eq_true, beq_iff_eq] at hcc'
              obtain ⟨⟨⟨rfl, rfl⟩, rfl⟩, hmod⟩ := hcc'
              split at h
              · simp at h
              · rename_i hone
                have hone' : new.all AV.oneCell = true := by
                  rw [Bool.not_eq_true', Bool.not_eq_false] at hone
                  exact hone
                simp at h
                obtain ⟨rfl, rfl⟩ := h
                obtain ⟨hA, hL, _, hfit⟩ := hs
                have hcv : conc ι (.slice b o len none szb) = .slice (some ((ι b).at o)) len ((ι b).capz - o / szb) := by simp [conc, hL]
                have hmut : (σ.getO b).isMut = true := by rw [ho]; rfl
                by_cases hle : len + n ≤ (ι b).capz - o / szb
                · -- in place
                  have hr := R.obj b hb
                  rw [ho] at hr
                  obtain ⟨r1, r2, arr, fz, r3, r4, r5⟩ := hr
                  obtain ⟨rfl, r6, r7⟩ := r5 rfl
                  have hod : o / szb * szb = o := Nat.div_mul_cancel (Nat.dvd_of_mod_eq_zero hmod)
                  have hcap : o + (len + n) * szb ≤ (ι b).capz * szb := by
                    have : (o / szb + (len + n)) * szb ≤ (ι b).capz * szb := Nat.mul_le_mul_right _ (by omega)
                    rw [Nat.add_mul, hod] at this
                    exact this
                  have hfit2 : (ι b).shift + (o + len * szb) + 0 + (concL ι new).length ≤ arr.size := by
                    rw [concL_length, hnl]
                    rw [Nat.add_mul] at hcap
                    omega
                  obtain ⟨w', arr', s1, s2, s3, s4, s5⟩ := run_storeCells P (ι b).block ((ι b).shift + (o + len * szb)) elem' (concL ι new) 0 arr w r3 hfit2 (fun v hv => by
                    rw [concL_eq, List.mem_map] at hv
                    obtain ⟨y, hy, rfl⟩ := hv
                    exact conc_oneCell' (List.all_eq_true.1 hone' y hy))
                  have hcapz' : ((ι b).capz - o / szb) * szb = (ι b).capz * szb - o := by rw [Nat.sub_mul, hod]
                  have hu := R.reuse (o := .cells (old ++ new) elem' true szb) (L := ⟨(ι b).block, (ι b).shift + o, (ι b).capz - o / szb, szb⟩) hb hmut rfl s2
                    ⟨idsL_mono kpush _ (idsL_append.2 ⟨hload.2, hnew⟩), rfl, arr', (0, 0), s3, fun i v hv => by
                      have hi2 := idsL_get (idsL_append.2 ⟨hload.2, hnew⟩) hv
                      rw [conc_agree (fun x hx => (kpush x hx).2) v hi2, s5, concL_length, hnl]
                      show (if _ ≤ (ι b).shift + o + i ∧ (ι b).shift + o + i < _ then _ else _) = _
                      by_cases hi : i < old.length
                      · rw [List.getElem?_append_left hi] at hv
                        rw [if_neg (by rw [ho2] at hi; omega)]
                        have : cs[o + i]? = some v := by
                          rw [ho1, List.getElem?_take] at hv
                          split at hv
                          · simpa using hv
                          · simp at hv
                        have := r4 _ _ this
                        rw [← this]; congr 1
                        show (ι b).shift + o + i = _
                        omega
                      · have hlt : i < (old ++ new).length := (List.getElem?_eq_some_iff.1 hv).1
                        rw [List.getElem?_append_right (by omega)] at hv
                        rw [List.length_append, ho2, hnl] at hlt
                        rw [ho2] at hv hi
                        rw [if_pos (by omega)]
                        have : (ι b).shift + o + i - ((ι b).shift + (o + len * szb) + 0) = i - len * szb := by omega
                        rw [this, concL_getElem?, hv]; rfl, fun _ => ⟨rfl, by
                      show (ι b).shift + o + ((ι b).capz - o / szb) * szb ≤ arr'.size
                      rw [hcapz', s4]; omega, Nat.dvd_add r7 (Nat.dvd_of_mod_eq_zero hmod)⟩⟩
                  refine ⟨_, w', ?_, hu.1, hu.2, ?_⟩
                  · rw [inplace _ hcv hle]
                    have : (Go.storeCells ((ι b).at (o + len * szb)) (concL ι new)).run P w = .ok () w' := s1
                    rw [this]
                    simp [conc, upd_new, Loc.at]
                  · refine ⟨by simp [St.push, St.set], by rw [upd_new], hszpos, ?_⟩
                    rw [upd_new]; simp; omega
                · -- a new row
                  obtain ⟨c', hc', hrun⟩ := grow (.slice b o len none szb) _ len _ old hcv hneed2 (by omega) (fun w' hw' => by rw [hcv]; exact holdr _ w' hw') hload.2 ho2
                  have hg := grown ι (σ.set b .gone) w.drew c' (len + n) (old ++ new) (R.drew.forget hb) (idsL_append.2 ⟨hload.2, hnew⟩) hc' (by simp [ho2, hnl, Nat.add_mul])
                  have hfe : Ext ι σ w ι (σ.set b .gone) w.drew := by
                    refine ⟨rfl, rfl, rfl, Nat.le_refl _, Nat.le_refl _, fun _ _ => rfl, fun _ _ _ => rfl, fun b' hb' hm' => ?_⟩
                    change b' < σ.n at hb'
                    by_cases he : b = b'
                    · subst he; rw [getO_set_same R.len hb] at hm'; exact (hm' rfl).elim
                    · rw [getO_set_other hb he] at hm' ⊢
                      exact .inr ⟨b', hb', hm', id, rfl⟩
                  refine ⟨_, _, ?_, hg.1, hfe.trans hg.2, ?_⟩
                  · rw [hrun]
                    simp [conc, upd_new, Loc.at, St.set]
                  · refine ⟨by simp [St.push, St.set], by simp [St.set, upd_new], hszpos, ?_⟩
                    simp [St.set, upd_new]; omega
          · simp at h
    · simp at h

omit F in
theorem frozen_row (w : World) (cells : Array Value) (elem : TypeId) :
    (w.alloc (.cells cells elem)).freeze ⟨w.heap.size, cells.size, none⟩ 1 = w.alloc (.cells cells elem (cells.size, cells.size + 1)) := by
  simp only [World.freeze, World.alloc, Nat.one_ne_zero, if_false]
  congr 1
  apply Array.ext_getElem?
  intro i
  simp only [Array.getElem?_modify, Array.getElem?_push]
  by_cases h : w.heap.size = i
  · subst h; simp
  · simp [h, Ne.symm h]

theorem run_toBytesV (R : Rep D ι σ w) {s d : Nat} {x v : AV} {σ' : St} (h : toBytesV D σ s d x = .ok (v, σ')) :
    ∃ ι' w', (Go.convert s d (conc ι x)).run P w = .ok (conc ι' v) w' ∧ Rep D ι' σ' w' ∧ Ext ι σ w ι' σ' w' ∧ ids ι' (· < σ'.n) v := by
  simp only [toBytesV, bind_ok] at h
  obtain ⟨st, hst, dt, hdt, h⟩ := h
  split at h
  · rename_i el l
    simp only [bind_ok] at h
    obtain ⟨et, het, h⟩ := h
    split at h
    · simp only [pure_ok, Prod.mk.injEq] at h
      obtain ⟨rfl, rfl⟩ := h
      obtain ⟨c, hc0⟩ : ∃ c, (Question.appendCap l.length 0 el).cut (w.tape w.drawn (.appendCap l.length 0 el)) = c := ⟨_, rfl⟩
      have hc : l.length ≤ c := by rw [← hc0]; simp [Question.cut]
      obtain ⟨cells, hcells⟩ : ∃ cells : Array Value, cells = (concL ι (l.map fun c => intV .u8 c.toNat)).toArray ++ Array.replicate (c - l.length) (.int .u8 0) := ⟨_, rfl⟩
      have hsh : (w.drew.alloc (.cells cells el)).shape? w.heap.size = some (el, cells.size) := by
        simp [World.shape?, World.alloc, World.drew, -World.alloc_eq, -World.drew_eq]
      have hrun : (Go.convert s d (conc ι (.base (.string ⟨⟨l⟩⟩)))).run P w =
          .ok (.slice (some ⟨w.heap.size, 0, none⟩) l.length c) (w.drew.alloc (.cells cells el (cells.size, cells.size + 1))) := by
        have e1 : (Array.map (fun b => Value.int .u8 b.toNat) (⟨l⟩ : Array UInt8) : Array Value) = (concL ι (l.map fun c => intV .u8 c.toNat)).toArray := by
          apply Array.ext'; simp [concL_bytes]
        have hq : (Question.appendCap l.length 0 el).forced = false := rfl
        have hsz : (⟨⟨l⟩⟩ : ByteArray).size = l.length := rfl
        simp only [Go.convert, Sem.run_bind, run_und F w hst, run_und F w hdt, run_und F w het, Result.andThen_ok, conc, Conv.stringToBytes, hsz, run_choose, hq, Bool.false_eq_true, if_false, hc0, World.drew_eq, run_newRow, e1, ← hcells]
        have h2 : (markStringish ⟨w.heap.size, 0, none⟩).run P (w.drew.alloc (.cells cells el)) = .ok () (w.drew.alloc (.cells cells el (cells.size, cells.size + 1))) := by
          have := frozen_row w.drew cells el
          rw [← this]
          simp [markStringish, hsh, -World.alloc_eq, -World.drew_eq, Result.andThen]
        have h3 : w.drew.heap.size = w.heap.size := rfl
        rw [h3, h2]
        simp only [Result.andThen_ok, Sem.run_pure]
      have hp := R.drew.push (o := .cells (l.map fun c => intV .u8 c.toNat) el false 1) (ob := .cells cells el (cells.size, cells.size + 1)) (L := ⟨w.heap.size, 0, c, 1⟩) rfl
        ⟨idsL_iff.2 fun v hv => by
            simp only [List.mem_map] at hv
            obtain ⟨c, _, rfl⟩ := hv
            simp [intV, ids], rfl, cells, (cells.size, cells.size + 1), heap_alloc_new w.drew _, fun i v hv => by
            have hlt := (List.getElem?_eq_some_iff.1 hv).1
            rw [List.getElem?_map] at hv
            simp only [hcells, Nat.zero_add]
            rw [Array.getElem?_append_left (by simpa [concL_length] using hlt)]
            simp only [concL_bytes, List.getElem?_toArray, List.getElem?_map]
            cases hl : l[i]? with
            | none => rw [hl] at hv; simp at hv
            | some b => rw [hl] at hv; simp at hv; subst hv; simp [intV, conc], fun h => by cases h⟩
      refine ⟨_, _, hrun.trans ?_, hp.1, (Ext.drew ι σ w).trans hp.2, ?_⟩
      · simp [conc, upd_new, Loc.at]
      · refine ⟨by simp [St.push], by rw [upd_new], by omega, ?_⟩
        rw [upd_new]; simp; omega
    · simp at h
  · simp at h
end
end Go.Dt
