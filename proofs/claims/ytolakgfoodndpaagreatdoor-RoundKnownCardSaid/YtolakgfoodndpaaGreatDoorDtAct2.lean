/-
  Operations that write memory, continued. No statement of this seat stands here.
-/
import Derived.Test.YtolakgfoodndpaaGreatDoorDtAct
namespace Go.Dt
section
variable {D : Tab} {P : Program} (F : Fits D P) {ι : Nat → Loc} {σ : St} {w : World}

theorem kor {n : Nat} {ι ι' : Nat → Loc} {A : Nat → Prop} (h : ∀ b, A b → b < n) (e : ∀ b, A b → ι' b = ι b) : ∀ b, A b → b < n ∧ ι' b = ι b := fun b hb => ⟨h b hb, e b hb⟩

/-- a new block that is no cells -/
theorem push_obj (R : Rep D ι σ w) {o : AO} {ob : Obj}
    (ho : ORep (upd ι σ.n ⟨w.heap.size, 0, 0, 0⟩) (· < σ.n + 1) o ⟨w.heap.size, 0, 0, 0⟩ (w.alloc ob)) :
    ∃ ι' w', (newObj ob).run P w = .ok w.heap.size w' ∧ Rep D ι' (σ.push o) w' ∧ Ext ι σ w ι' (σ.push o) w' ∧ ι' σ.n = ⟨w.heap.size, 0, 0, 0⟩ := by
  have := R.push (L := ⟨w.heap.size, 0, 0, 0⟩) rfl ho
  exact ⟨_, _, rfl, this.1, this.2, upd_new _ _ _⟩

include F
theorem run_rangeV (R : Rep D ι σ w) {t : Nat} {x v : AV} {σ' : St} (h : rangeV D σ t x = .ok (v, σ')) :
    ∃ ι' w', (Instr.range t (conc ι x)).run P w = .ok (conc ι' v) w' ∧ Rep D ι' σ' w' ∧ Ext ι σ w ι' σ' w' ∧ ids ι' (· < σ'.n) v := by
  simp only [rangeV, bind_ok] at h
  obtain ⟨d, hd, h⟩ := h
  split at h
  · rename_i s
    simp at h
    obtain ⟨rfl, rfl⟩ := h
    obtain ⟨ι', w', h1, h2, h3, h4⟩ := push_obj (P := P) R (o := .striter s 0) (ob := .stringIter ⟨⟨s⟩⟩ 0) ⟨rfl, heap_alloc_new w _⟩
    refine ⟨ι', w', ?_, h2, h3, by simp [ids, St.push]⟩
    simp only [Instr.range, Sem.run_bind, run_und F w hd, Result.andThen_ok, conc, Sem.run_pure, h1]
    simp [h4, Loc.at]
  · simp at h
    obtain ⟨rfl, rfl⟩ := h
    obtain ⟨ι', w', h1, h2, h3, h4⟩ := push_obj (P := P) R (o := .mapiter none 0 [] 0) (ob := .mapIter none 0 #[] 0) ⟨rfl, heap_alloc_new w _, by simp⟩
    refine ⟨ι', w', ?_, h2, h3, by simp [ids, St.push]⟩
    simp only [Instr.range, Sem.run_bind, run_und F w hd, Result.andThen_ok, conc, Sem.run_pure, h1]
    simp [h4, Loc.at]
  · rename_i m
    simp only [bind_ok] at h
    obtain ⟨⟨es, clock⟩, hm, h⟩ := h
    simp at h
    obtain ⟨rfl, rfl⟩ := h
    obtain ⟨_, hx⟩ := mapOf_ok R hm
    rcases hx with ⟨hx, _⟩ | ⟨b', hx, hb, heq, hshift, hheap⟩
    · cases hx
    · cases hx
      have hg := run_getObj P w (ι m).block _ hheap (by simp)
      obtain ⟨ι', w', h1, h2, h3, h4⟩ := push_obj (P := P) R (o := .mapiter (some m) clock [] clock) (ob := .mapIter (some (ι m).block) clock #[] clock)
        ⟨rfl, by rw [heap_alloc_new]; simp [upd_old (Nat.ne_of_lt hb)], by rintro b hb'; cases hb'; exact Nat.lt_succ_of_lt hb⟩
      refine ⟨ι', w', ?_, h2, h3, by simp [ids, St.push]⟩
      simp only [Instr.range, Sem.run_bind, run_und F w hd, Result.andThen_ok, conc, Sem.run_pure, hg, h1]
      simp [h4, Loc.at]
  · simp at h

omit F in
theorem get_ok {b : Nat} {o : AO} (h : σ.get b = .ok o) : b < σ.n ∧ σ.getO b = o := by
  unfold St.get at h
  split at h
  · rename_i hb
    simp at h
    exact ⟨hb, h⟩
  · simp at h

omit F in
theorem filter_conc (ι : Nat → Loc) (es : List (AV × AV × Nat)) (f : Nat → Bool) :
    ((es.map (concEntry ι)).toArray.filter fun e => f e.born) = ((es.filter fun e => f e.2.2).map (concEntry ι)).toArray := by
  apply Array.ext'
  simp only [Array.toList_filter]
  induction es with
  | nil => simp
  | cons e es ih =>
    simp only [List.map_cons, List.filter_cons, concEntry] at ih ⊢
    split <;> simp_all [concEntry]

omit F in
theorem run_nextV (R : Rep D ι σ w) {it v : AV} {b : Bool} {ty : TypeId} {σ' : St} (h : nextV σ it b = .ok (v, σ')) :
    ∃ w', (Instr.next (conc ι it) b ty).run P w = .ok (conc ι v) w' ∧ Rep D ι σ' w' ∧ Ext ι σ w ι σ' w' ∧ ids ι (· < σ'.n) v := by
  unfold nextV at h
  split at h
  · rename_i r
    simp only [bind_ok] at h
    obtain ⟨o, ho, h⟩ := h
    obtain ⟨hr, heq⟩ := get_ok ho
    have hrep := R.obj r hr
    rw [heq] at hrep
    split at h
    · rename_i s pos
      obtain ⟨hs, hheap⟩ := hrep
      have hg := run_getObj P w (ι r).block _ hheap (by simp)
      have hat : (ι r).at 0 = ⟨(ι r).block, 0, none⟩ := by simp [Loc.at, hs]
      have hlt : (ι r).block < w.heap.size := (Array.getElem?_eq_some_iff.1 hheap).1
      have hsz : (⟨⟨s⟩⟩ : ByteArray).size = s.length := rfl
      split at h
      · rename_i hpos
        simp at h
        obtain ⟨rfl, rfl⟩ := h
        have hso := run_setObj P w (ι r).block _ (.stringIter ⟨⟨s⟩⟩ (pos + (Utf8.decode ⟨⟨s⟩⟩ pos).2)) hheap (by simp)
        have ho := only_setIf w (ι r).block (.stringIter ⟨⟨s⟩⟩ (pos + (Utf8.decode ⟨⟨s⟩⟩ pos).2))
        have hset := R.set (o := .striter s (pos + (Utf8.decode ⟨⟨s⟩⟩ pos).2)) hr (by rw [heq]; rfl) ho.size ho.other ho.os ⟨hs, heap_setIf w _ _ hlt⟩
        refine ⟨_, ?_, hset.1, hset.2, by simp [ids, idsL, boolV, goI, intV]⟩
        simp only [Instr.next, conc, hat, Sem.run_bind, hg, Result.andThen_ok, hsz, Sem.run_ite]
        rw [if_pos hpos]
        simp only [Sem.run_bind, hso, Result.andThen_ok, Sem.run_pure]
        simp [conc, concL, boolV, goI, intV, goInt]
      · rename_i hpos
        simp at h
        obtain ⟨rfl, rfl⟩ := h
        refine ⟨w, ?_, R, Ext.refl _ _ _, by simp [ids, idsL, boolV]⟩
        simp only [Instr.next, conc, hat, Sem.run_bind, hg, Result.andThen_ok, hsz, Sem.run_ite]
        rw [if_neg hpos]
        simp [conc, concL, boolV]
    · rename_i since seen stepped
      obtain ⟨hs, hheap, _⟩ := hrep
      have hg := run_getObj P w (ι r).block _ hheap (by simp)
      have hat : (ι r).at 0 = ⟨(ι r).block, 0, none⟩ := by simp [Loc.at, hs]
      simp at h
      obtain ⟨rfl, rfl⟩ := h
      refine ⟨w, ?_, R, Ext.refl _ _ _, by simp [ids, idsL, boolV]⟩
      simp only [Instr.next, conc, hat, Sem.run_bind, hg, Result.andThen_ok]
      simp [conc, concL, boolV]
    · rename_i m since seen last
      obtain ⟨hs, hheap, hm'⟩ := hrep
      have hg := run_getObj P w (ι r).block _ hheap (by simp)
      have hat : (ι r).at 0 = ⟨(ι r).block, 0, none⟩ := by simp [Loc.at, hs]
      have hlt : (ι r).block < w.heap.size := (Array.getElem?_eq_some_iff.1 hheap).1
      simp only [bind_ok] at h
      obtain ⟨⟨es, clock⟩, hm, h⟩ := h
      obtain ⟨hids, hx⟩ := mapOf_ok R hm
      rcases hx with ⟨hx, _⟩ | ⟨b', hx, hb, heqm, hshift, hheapm⟩
      · cases hx
      · cases hx
        have hgm := run_getObj P w (ι m).block _ hheapm (by simp)
        split at h
        · simp at h
        · rename_i hgone
          have hgone' : (!seen.toArray.isEmpty && !(es.map (concEntry ι)).toArray.isEmpty && (es.map (concEntry ι)).toArray.all fun x => decide (x.born ≥ last)) = false := by
            simp only [Bool.not_eq_true] at hgone
            rw [← hgone]
            simp only [List.isEmpty_toArray, List.isEmpty_map, List.all_toArray, List.all_map]
            rfl
          have hleft : (es.map (concEntry ι)).toArray.filter (fun e => !seen.toArray.contains e.born) = ((es.filter fun e => !seen.contains e.2.2).map (concEntry ι)).toArray := by
            have := filter_conc ι es (fun n => !seen.contains n)
            simpa using this
          have hold := filter_conc ι (es.filter fun e => !seen.contains e.2.2) (fun n => decide (n < since))
          have hnew := filter_conc ι (es.filter fun e => !seen.contains e.2.2) (fun n => decide (n ≥ since))
          have hstart : (Instr.next (conc ι (.ptr r 0)) false ty).run P w = ((do
              let candidates := (if (((es.filter fun e => !seen.contains e.2.2).filter fun e => decide (e.2.2 < since)).map (concEntry ι)).toArray.isEmpty then #[none] else #[]) ++
                ((((es.filter fun e => !seen.contains e.2.2).filter fun e => decide (e.2.2 < since)).map (concEntry ι)).toArray ++ (((es.filter fun e => !seen.contains e.2.2).filter fun e => decide (e.2.2 ≥ since)).map (concEntry ι)).toArray).map some
              match candidates[← choose (.mapNext candidates.size)]? with
              | some (some e) =>
                setObj (ι r).block (.mapIter (some (ι m).block) since (seen.toArray.push e.born) clock)
                pure (.tuple #[.bool true, e.key, e.val])
              | some none => pure (.tuple #[.bool false])
              | none => stuck "Next: no such candidate" : Sem Value)).run P w := by
            simp only [Instr.next, conc, hat, Sem.run_bind, hg, Result.andThen_ok, Option.map_some, hgm]
            rw [if_neg (by rw [hgone']; simp)]
            simp only [hleft, hold, hnew, Sem.run_bind]
            rfl
          rw [hstart]
          split at h
          · rename_i h1 h2
            simp at h
            obtain ⟨rfl, rfl⟩ := h
            refine ⟨w, ?_, R, Ext.refl _ _ _, by simp [ids, idsL, boolV]⟩
            simp only [h1, h2]
            simp [Question.forced, conc, concL, boolV]
          · rename_i e h1 h2
            simp at h
            obtain ⟨rfl, rfl⟩ := h
            have hmem : e ∈ es := by
              have : e ∈ ((es.filter fun e => !seen.contains e.2.2).filter fun e => decide (e.2.2 < since)) := by rw [h1]; simp
              exact (List.mem_filter.1 (List.mem_filter.1 this).1).1
            have hso := run_setObj P w (ι r).block _ (.mapIter (some (ι m).block) since (seen ++ [e.2.2]).toArray clock) hheap (by simp)
            have ho := only_setIf w (ι r).block (.mapIter (some (ι m).block) since (seen ++ [e.2.2]).toArray clock)
            have hset := R.set (o := .mapiter (some m) since (seen ++ [e.2.2]) clock) hr (by rw [heq]; rfl) ho.size ho.other ho.os
              ⟨hs, by rw [heap_setIf w _ _ hlt]; simp, by rintro b hb'; cases hb'; exact hb⟩
            refine ⟨_, ?_, hset.1, hset.2, by simp [ids, idsL, boolV]; exact hids e hmem⟩
            simp only [h1, h2]
            simp [Question.forced, concEntry]
            rw [hso]
            simp [conc, concL, boolV]
          · simp at h
    · simp at h
  · simp at h

omit F in
theorem run_entryV (R : Rep D ι σ w) {it v : AV} (h : entryV σ it = .ok v) :
    (Instr.entry (conc ι it)).run P w = .ok (conc ι v) w ∧ ids ι (· < σ.n) v := by
  unfold entryV at h
  split at h
  · rename_i r
    simp only [bind_ok] at h
    obtain ⟨o, ho, h⟩ := h
    obtain ⟨hr, heq⟩ := get_ok ho
    have hrep := R.obj r hr
    rw [heq] at hrep
    split at h
    · rename_i m since seen stepped
      obtain ⟨hs, hheap, hm'⟩ := hrep
      have hg := run_getObj P w (ι r).block _ hheap (by simp)
      have hat : (ι r).at 0 = ⟨(ι r).block, 0, none⟩ := by simp [Loc.at, hs]
      simp only [bind_ok] at h
      obtain ⟨⟨es, clock⟩, hm, h⟩ := h
      obtain ⟨hids, hx⟩ := mapOf_ok R hm
      rcases hx with ⟨hx, _⟩ | ⟨b', hx, hb, heqm, hshift, hheapm⟩
      · cases hx
      · cases hx
        have hgm := run_getObj P w (ι m).block _ hheapm (by simp)
        split at h
        · rename_i hcl
          split at h
          · rename_i stamp hst
            split at h
            · rename_i x hx
              simp at h; subst h
              have hmem : x ∈ es := List.mem_of_find?_eq_some hx
              refine ⟨?_, by simp [ids, idsL, hids x hmem]⟩
              have hback : seen.toArray.back? = some stamp := by simpa using hst
              have hfind : (es.map (concEntry ι)).toArray.find? (fun e => e.born == stamp) = some (concEntry ι x) := by
                rw [List.find?_toArray, List.find?_map]
                have : ((fun e : MapEntry => e.born == stamp) ∘ concEntry ι) = fun e => e.2.2 == stamp := rfl
                rw [this, hx]; rfl
              simp only [Instr.entry, conc, hat, Sem.run_bind, hg, Result.andThen_ok, Option.map_some, hback, hgm]
              rw [if_neg (by simp; exact hcl)]
              simp [hfind, concEntry, conc, concL]
            · simp at h
          · simp at h
        · simp at h
    · simp at h
  · simp at h
end
end Go.Dt
