/-
  Operations that ask nothing of memory, together. No statement of this seat stands here.
-/
import Derived.Test.YtolakgfoodndpaaGreatDoorDtPop3
namespace Go.Dt
section
variable {D : Tab} {P : Program} (F : Fits D P) {ι : Nat → Loc} {A : Nat → Prop} (w : World)

theorem map_concL (ι : Nat → Loc) (e : Operand → AV) (l : List Operand) : l.map (fun x => conc ι (e x)) = concL ι (l.map e) := by
  simp [concL_eq]

theorem arr_map (ι : Nat → Loc) (e : Operand → AV) (l : Array Operand) : l.map (fun x => conc ι (e x)) = (concL ι (l.toList.map e)).toArray := by
  rw [← map_concL]
  apply Array.ext'
  simp

theorem eqOp_ids {op : BinOp} {t : TypeId} {x y v : AV} (h : eqOp D op t x y = .ok v) : ids ι A v := by
  unfold eqOp at h
  split at h
  · simp only [bind_ok, pure_ok] at h
    obtain ⟨b, hb, rfl⟩ := h
    simp [boolV, ids]
  · simp only [bind_ok, pure_ok] at h
    obtain ⟨b, hb, rfl⟩ := h
    simp [boolV, ids]
  · simp at h

theorem binOp_ids {op : BinOp} {t : TypeId} {x y v : AV} {c : Bool} (h : binOp D op t x y c = .ok v) : ids ι A v := by
  unfold binOp at h
  split at h
  · unfold intOp at h
    split at h <;> (try split at h) <;> (try split at h) <;> (try split at h) <;> simp at h <;> subst h <;> simp [intV, boolV, ids]
  · unfold strOp at h
    split at h <;> (try split at h) <;> simp at h <;> subst h <;> simp [str, boolV, ids]
  · split at h
    · exact eqOp_ids h
    · simp at h
  · split at h
    · exact eqOp_ids h
    · simp at h
  all_goals first
    | exact eqOp_ids h
    | (simp at h; done)

include F
theorem pureOp_run {e : Operand → AV} {o : Oper} {v : AV} (h : pureOp D e o.op = .ok v) (hid : ∀ x, x ∈ o.op.operands → ids ι A (e x)) :
    (Go.execOp (fun x => conc ι (e x)) o).run P w = .ok (.value (conc ι v)) w ∧ ids ι A v := by
  unfold Go.execOp
  generalize o.op = op at h hid
  unfold pureOp at h
  split at h
  · simp at h; subst h; exact ⟨by simp, hid _ (by simp [Op.operands])⟩
  · simp at h; subst h; exact ⟨by simp, hid _ (by simp [Op.operands])⟩
  · rename_i c a b
    simp only [bind_ok, pure_ok] at h
    obtain ⟨t, ht, rfl⟩ := h
    have hc : conc ι (e c) = .bool t := by
      unfold asB at ht
      split at ht
      · rename_i hh
        simp at ht
        simp [hh, conc, ht]
      · simp at ht
    have ha := hid a (by simp [Op.operands])
    have hb := hid b (by simp [Op.operands])
    cases t <;> simp [hc, asBool, ha, hb]
  · rename_i t parts
    have := run_build F (ι := ι) w h
    have e1 : (parts.map fun p => (p.1, conc ι (e p.2))) = ((parts.toList.map fun p => (p.1, e p.2)).map fun p => (p.1, conc ι p.2)).toArray := by
      apply Array.ext'; simp
    refine ⟨?_, ?_⟩
    · show (do let v ← Instr.build t (parts.map fun p => (p.1, conc ι (e p.2))); pure (Next.value v) : Sem Next).run P w = _
      simp only [Sem.run_bind, e1, this, Result.andThen_ok, Sem.run_pure]
    · simp only [build, bind_ok] at h
      obtain ⟨z, hz, d, hd, h⟩ := h
      have hp : ∀ p, p ∈ (parts.toList.map fun p => (p.1, e p.2)) → ids ι A p.2 := by
        intro p hp
        simp only [List.mem_map] at hp
        obtain ⟨q, hq, rfl⟩ := hp
        refine hid q.2 ?_
        simp only [Op.operands, List.mem_toArray, List.mem_map]
        exact ⟨q, hq, rfl⟩
      split at h
      · simp only [bind_ok, pure_ok] at h
        obtain ⟨ps, hps, cs, hcs, rfl⟩ := h
        exact fill_ids _ _ _ hcs (ids_cells (zero_ids hz A)) hp
      · simp only [bind_ok, pure_ok] at h
        obtain ⟨ps, hps, cs, hcs, rfl⟩ := h
        exact fill_ids _ _ _ hcs (ids_cells (zero_ids hz A)) hp
      · simp at h
  · rename_i x
    have hx := hid x (by simp [Op.operands])
    split at h <;> simp at h <;> subst h <;> rename_i heq <;> rw [heq] at hx <;> exact ⟨by simp [heq, conc], hx⟩
  · rename_i op t x y yt
    have := run_binOp F (ι := ι) w (ox := x) (oy := y) h
    refine ⟨?_, ?_⟩
    · simp only [Sem.run_bind] at this ⊢
      rw [this]; simp
    · exact binOp_ids h
  · rename_i op t x
    refine ⟨by simp [run_unOp (ι := ι) w h], ?_⟩
    unfold unOp at h
    split at h <;> simp at h <;> subst h <;> simp [intV, boolV, ids]
  · rename_i s d x
    refine ⟨by simp [run_convertV F (ι := ι) w h], ?_⟩
    simp only [convertV, bind_ok] at h
    obtain ⟨a, ha, b, hb, h⟩ := h
    split at h <;> simp at h <;> subst h <;> simp [intV, ids]
  · rename_i t x
    simp only [bind_ok] at h
    obtain ⟨d, hd, h⟩ := h
    split at h
    · simp at h
    · rename_i hni
      simp at h; subst h
      refine ⟨?_, by simpa [ids] using hid x (by simp [Op.operands])⟩
      simp only [Instr.makeInterface, Sem.run_bind, run_und F w hd, Result.andThen_ok]
      cases d <;> simp_all [isIfaceD, conc]
  · rename_i fn first captured
    simp at h; subst h
    refine ⟨by simp [Instr.makeFunc, conc, arr_map], ?_⟩
    simp only [ids]
    refine ⟨idsL_iff.2 fun v hv => ?_, idsL_iff.2 fun v hv => ?_⟩
    · simp only [List.mem_map] at hv
      obtain ⟨x, hx, rfl⟩ := hv
      exact hid x (by simp [Op.operands, Array.mem_toList_iff.1 hx])
    · simp only [List.mem_map] at hv
      obtain ⟨x, hx, rfl⟩ := hv
      exact hid x (by simp [Op.operands, Array.mem_toList_iff.1 hx])
  · rename_i t x lo hi mx
    have := run_sliceV F (A := A) (ι := ι) w h (hid x (by simp [Op.operands]))
    have em : ∀ (a : Option Operand), (a.map e).map (conc ι) = a.map fun x => conc ι (e x) := by intro a; cases a <;> rfl
    simp only [em] at this
    exact ⟨by simp [this.1], this.2⟩
  · rename_i t x f
    have := run_fieldAddr F (A := A) (ι := ι) w h (hid x (by simp [Op.operands]))
    exact ⟨by simp [this.1], this.2⟩
  · rename_i t x f
    have := run_fieldV F (A := A) (ι := ι) w h (hid x (by simp [Op.operands]))
    exact ⟨by simp [this.1], this.2⟩
  · rename_i t x ix
    have := run_indexAddr F (A := A) (ι := ι) w h (hid x (by simp [Op.operands]))
    exact ⟨by simp [this.1], this.2⟩
  · rename_i t x ix
    have := run_indexV F (A := A) (ι := ι) w h (hid x (by simp [Op.operands]))
    exact ⟨by simp [this.1], this.2⟩
  · rename_i x xt t ok
    have := run_typeAssert F (A := A) (ι := ι) (xt := xt) w h (hid x (by simp [Op.operands]))
    exact ⟨by simp [this.1], this.2⟩
  · rename_i t ix
    have hx := hid t (by simp [Op.operands])
    split at h
    · rename_i vs heq
      rw [heq] at hx
      split at h
      · rename_i y hy
        simp at h; subst h
        refine ⟨by simp [Instr.extract, heq, conc, hy], idsL_get (by simpa [ids] using hx) hy⟩
      · simp at h
    · simp at h
  · rename_i b args argTypes
    split at h
    · rename_i t ts x hts hxs
      have ht : argTypes[0]? = some t := by rw [← Array.getElem?_toList, hts]; rfl
      have hargs : args = #[x] := by apply Array.ext'; simpa using hxs
      subst hargs
      have := run_lenV F (A := A) (ι := ι) (ty := o.type) w h ht
      refine ⟨?_, this.2⟩
      simp [resolve, invoke, Go.builtin, this.1]
    · rename_i x l hxs
      have hargs : args = (x :: l).toArray := by apply Array.ext'; simpa using hxs
      subst hargs
      have := run_minMax (P := P) (A := A) (ι := ι) w _ _ _ h
      refine ⟨?_, this.2 (hid x (by simp [Op.operands, Call.operands]))⟩
      have h1 := this.1
      rw [← map_concL] at h1
      simp only [Bool.false_eq_true, if_false] at h1
      simp [resolve, invoke, Go.builtin, Builtin.min_, h1]
    · rename_i x l hxs
      have hargs : args = (x :: l).toArray := by apply Array.ext'; simpa using hxs
      subst hargs
      have := run_minMax (P := P) (A := A) (ι := ι) w _ _ _ h
      refine ⟨?_, this.2 (hid x (by simp [Op.operands, Call.operands]))⟩
      have h1 := this.1
      rw [← map_concL] at h1
      simp only [if_true] at h1
      simp [resolve, invoke, Go.builtin, Builtin.max_, h1]
    · simp at h
  · simp at h
end
end Go.Dt
