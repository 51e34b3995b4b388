/-
  Operations that ask nothing of memory, continued. No statement of this seat stands here.
-/
import Derived.Test.YtolakgfoodndpaaGreatDoorDtPop
namespace Go.Dt

theorem foldl_set_toList (cs : Array Value) (off : Nat) (l : List Value) : ∀ (k : Nat),
    ((l.zipIdx k).foldl (fun (cs : Array Value) (p : Value × Nat) => cs.setIfInBounds (off + p.2) p.1) cs).size = cs.size := by
  induction l generalizing cs with
  | nil => intro k; simp
  | cons v l ih => intro k; simp [List.zipIdx_cons, ih]

theorem overwrite_length : ∀ (cs l : List AV), (overwrite cs l).length = cs.length := by
  intro cs
  induction cs with
  | nil => intro l; cases l <;> simp [overwrite]
  | cons c cs ih => intro l; cases l <;> simp [overwrite, ih]

theorem splice_length : ∀ (cs : List AV) (o : Nat) (l : List AV), (splice cs o l).length = cs.length := by
  intro cs
  induction cs with
  | nil => intro o l; cases o <;> simp [splice, overwrite_length]
  | cons c cs ih => intro o l; cases o <;> simp [splice, overwrite_length, ih]

theorem overwrite_get : ∀ (cs l : List AV) (i : Nat), l.length ≤ cs.length → (overwrite cs l)[i]? = if i < l.length then l[i]? else cs[i]? := by
  intro cs
  induction cs with
  | nil => intro l i h; cases l with
    | nil => simp [overwrite]
    | cons x l => simp at h
  | cons c cs ih =>
    intro l i h
    cases l with
    | nil => simp [overwrite]
    | cons x l =>
      simp only [overwrite]
      cases i with
      | zero => simp
      | succ i => simpa using ih l i (by simpa using h)

theorem splice_get : ∀ (cs : List AV) (o : Nat) (l : List AV) (i : Nat), o + l.length ≤ cs.length →
    (splice cs o l)[i]? = if o ≤ i ∧ i < o + l.length then l[i - o]? else cs[i]? := by
  intro cs
  induction cs with
  | nil =>
    intro o l i h
    have h1 : l = [] := List.eq_nil_of_length_eq_zero (by have h' := h; simp only [List.length_nil] at h'; omega)
    subst h1
    cases o <;> simp [splice, overwrite]
  | cons c cs ih =>
    intro o l i h
    cases o with
    | zero => simp only [splice]; rw [overwrite_get _ _ _ (by simpa using h)]; simp
    | succ o =>
      simp only [splice]
      cases i with
      | zero => simp
      | succ i =>
        have := ih o l i (by simp at h; omega)
        simp only [List.getElem?_cons_succ, this]
        by_cases hc : o ≤ i ∧ i < o + l.length
        · rw [if_pos hc, if_pos (by omega)]; congr 1; omega
        · rw [if_neg hc, if_neg (by omega)]

theorem idsL_splice {ι : Nat → Loc} {A : Nat → Prop} {cs l : List AV} {o : Nat} (h : o + l.length ≤ cs.length) (hc : idsL ι A cs) (hl : idsL ι A l) : idsL ι A (splice cs o l) := by
  refine idsL_iff.2 fun v hv => ?_
  obtain ⟨i, hi⟩ := List.getElem?_of_mem hv
  rw [splice_get _ _ _ _ h] at hi
  split at hi
  · exact idsL_get hl hi
  · exact idsL_get hc hi

theorem foldl_set_get (off : Nat) (l : List Value) : ∀ (k : Nat) (cs : Array Value) (i : Nat), off + k + l.length ≤ cs.size →
    ((l.zipIdx k).foldl (fun (cs : Array Value) (p : Value × Nat) => cs.setIfInBounds (off + p.2) p.1) cs)[i]? =
      if off + k ≤ i ∧ i < off + k + l.length then l[i - (off + k)]? else cs[i]? := by
  induction l with
  | nil => intro k cs i h; simp; intro h1 h2; omega
  | cons v l ih =>
    intro k cs i h
    simp only [List.zipIdx_cons, List.foldl_cons]
    rw [ih (k + 1) _ i (by simp at h ⊢; omega)]
    simp only [List.length_cons] at h ⊢
    by_cases h1 : off + (k + 1) ≤ i ∧ i < off + (k + 1) + l.length
    · rw [if_pos h1, if_pos (by omega)]
      have : i - (off + k) = (i - (off + (k + 1))) + 1 := by omega
      rw [this]; simp
    · rw [if_neg h1]
      by_cases h2 : i = off + k
      · subst h2
        have hlt : off + k < cs.size := by omega
        rw [if_pos (by omega)]
        simp [hlt]
      · rw [if_neg (by omega), Array.getElem?_setIfInBounds_ne (by omega)]

theorem splice_conc (ι : Nat → Loc) (cs l : List AV) (off : Nat) (h : off + l.length ≤ cs.length) :
    ((concL ι l).toArray.zipIdx.foldl (fun (cs : Array Value) (p : Value × Nat) => cs.setIfInBounds (off + p.2) p.1) (concL ι cs).toArray) = (concL ι (splice cs off l)).toArray := by
  rw [← Array.foldl_toList]
  apply Array.ext_getElem?
  intro i
  have e : (concL ι l).toArray.zipIdx.toList = (concL ι l).zipIdx 0 := by simp
  rw [e, foldl_set_get off (concL ι l) 0 _ i (by simp; omega)]
  simp only [Nat.add_zero, concL_length, List.getElem?_toArray, concL_getElem?]
  rw [splice_get _ _ _ _ h]
  split <;> rfl

theorem run_fill {ι : Nat → Loc} {place : Nat → Option (Nat × Nat)} : ∀ (parts : List (Nat × AV)) (cells out : List AV), fill place cells parts = .ok out →
    Instr.fill place (concL ι cells).toArray (parts.map fun p => (p.1, conc ι p.2)) = some (concL ι out).toArray := by
  intro parts
  induction parts with
  | nil => intro cells out h; simp [fill] at h; subst h; simp [Instr.fill]
  | cons p parts ih =>
    obtain ⟨i, v⟩ := p
    intro cells out h
    simp only [fill] at h
    simp only [List.map_cons, Instr.fill]
    cases hp : place i with
    | none => rw [hp] at h; simp at h
    | some q =>
      obtain ⟨off, sz⟩ := q
      rw [hp] at h
      simp only at h ⊢
      split at h
      · rename_i hc
        have e1 : (conc ι v).cells = (concL ι v.cells).toArray := conc_cells v
        have hcond : ((conc ι v).cells.size ≠ sz || decide (off + (conc ι v).cells.size > (concL ι cells).toArray.size)) = false := by
          rw [e1]; simp; omega
        have := ih _ _ h
        simp only [e1] at hcond ⊢
        rw [splice_conc ι cells v.cells off hc.2]
        simp only [bne_iff_ne, ne_eq, List.size_toArray, concL_length] at hcond ⊢
        rw [if_neg (by simp; omega)]
        exact this
      · simp at h

theorem fill_ids {ι : Nat → Loc} {A : Nat → Prop} {place : Nat → Option (Nat × Nat)} : ∀ (parts : List (Nat × AV)) (cells out : List AV), fill place cells parts = .ok out →
    idsL ι A cells → (∀ p, p ∈ parts → ids ι A p.2) → idsL ι A out := by
  intro parts
  induction parts with
  | nil => intro cells out h hc _; simp [fill] at h; exact h ▸ hc
  | cons p parts ih =>
    obtain ⟨i, v⟩ := p
    intro cells out h hc hp
    simp only [fill] at h
    split at h
    · simp at h
    · split at h
      · rename_i hh
        exact ih _ _ h (idsL_splice hh.2 hc (ids_cells (hp (i, v) (by simp)))) fun p hm => hp p (by simp [hm])
      · simp at h

theorem fill_length {place : Nat → Option (Nat × Nat)} : ∀ (parts : List (Nat × AV)) (cells out : List AV), fill place cells parts = .ok out → out.length = cells.length := by
  intro parts
  induction parts with
  | nil => intro cells out h; simp [fill] at h; subst h; rfl
  | cons p parts ih =>
    obtain ⟨i, v⟩ := p
    intro cells out h
    simp only [fill] at h
    split at h
    · simp at h
    · split at h
      · rw [ih _ _ h, splice_length]
      · simp at h

section
variable {D : Tab} {P : Program} (F : Fits D P) {ι : Nat → Loc} (w : World)

theorem run_unOp {op : UnOp} {x v : AV} (h : unOp op x = .ok v) : (Op.unary op (conc ι x)).run P w = .ok (conc ι v) w := by
  unfold unOp at h
  split at h
  · simp at h; subst h; simp [Op.unary, Op.intArith, conc, intV]
  · simp at h; subst h; simp [Op.unary, conc, boolV]
  · simp at h

include F
theorem run_convertV {s d : Nat} {x v : AV} (h : convertV D s d x = .ok v) : (Go.convert s d (conc ι x)).run P w = .ok (conc ι v) w := by
  simp only [convertV, bind_ok] at h
  obtain ⟨a, ha, b, hb, h⟩ := h
  simp only [Go.convert, Sem.run_bind, run_und F w ha, run_und F w hb, Result.andThen_ok]
  split at h
  · simp at h; subst h; simp [conc, Conv.intToInt, intV]
  · simp at h; subst h; simp [conc]
  · simp at h

theorem run_structPlaces : ∀ (fs : List Field) (ps : List (Nat × Nat)), structPlaces D fs = .ok ps →
    (fs.mapM (m := Sem) fun f => do pure (f.offset, ← sizeOf f.type)).run P w = .ok ps w := by
  intro fs
  induction fs with
  | nil => intro ps h; simp [structPlaces] at h; subst h; simp
  | cons f fs ih =>
    intro ps h
    simp only [structPlaces, bind_ok, pure_ok] at h
    obtain ⟨n, hn, l, hl, rfl⟩ := h
    have := ih _ hl
    simp at this
    simp [List.mapM_cons, run_size F w hn, this]

theorem run_build {t : Nat} {parts : List (Nat × AV)} {v : AV} (h : build D t parts = .ok v) :
    (Instr.build t (parts.map fun p => (p.1, conc ι p.2)).toArray).run P w = .ok (conc ι v) w := by
  simp only [build, bind_ok] at h
  obtain ⟨z, hz, d, hd, h⟩ := h
  simp only [Instr.build, Sem.run_bind, run_zero F (ι := ι) w hz, run_und F w hd, Result.andThen_ok, Sem.run_map]
  have e1 : (conc ι z).cells = (concL ι z.cells).toArray := conc_cells z
  split at h
  · rename_i fields
    simp only [bind_ok, pure_ok] at h
    obtain ⟨ps, hps, cs, hcs, rfl⟩ := h
    have h1 := run_structPlaces F w _ _ hps
    have h2 := run_fill (ι := ι) _ _ _ hcs
    have hm : (fields.mapM (m := Sem) fun f => do pure (f.offset, ← sizeOf f.type)) = Functor.map List.toArray (fields.toList.mapM fun f => do pure (f.offset, ← sizeOf f.type)) := by
      rw [Array.mapM_eq_mapM_toList]
    simp only [Sem.run_bind]
    rw [hm]
    simp only [Sem.run_map, h1, Result.andThen_ok, e1]
    have h3 : (fun x : Nat => ps.toArray[x]?) = fun i => ps[i]? := by funext i; simp
    rw [h3, h2]
    simp [conc]
  · rename_i n elem
    simp only [bind_ok, pure_ok] at h
    obtain ⟨s, hs, cs, hcs, rfl⟩ := h
    have h2 := run_fill (ι := ι) _ _ _ hcs
    simp only [Sem.run_bind, run_size F w hs, Result.andThen_ok, e1]
    rw [h2]
    simp [conc]
  · simp at h

end
end Go.Dt
