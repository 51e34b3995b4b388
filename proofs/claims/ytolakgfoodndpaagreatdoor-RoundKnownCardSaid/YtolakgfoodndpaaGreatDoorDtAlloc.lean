/-
  Operations that make a new block. No statement of this seat stands here.
-/
import Derived.Test.YtolakgfoodndpaaGreatDoorDtRead
import Derived.IntWalk
namespace Go.Dt

theorem repeatL_length (z : List AV) : ∀ n, (repeatL z n).length = n * z.length := by
  intro n
  induction n with
  | zero => simp [repeatL]
  | succ n ih => simp [repeatL, ih, Nat.succ_mul, Nat.add_comm]

theorem repeatL_get (z : List AV) (hz : 0 < z.length) : ∀ n i, i < n * z.length → (repeatL z n)[i]? = z[i % z.length]? := by
  intro n
  induction n with
  | zero => intro i h; simp at h
  | succ n ih =>
    intro i h
    simp only [repeatL]
    by_cases hi : i < z.length
    · rw [List.getElem?_append_left hi, Nat.mod_eq_of_lt hi]
    · rw [List.getElem?_append_right (by omega), ih _ (by rw [Nat.succ_mul] at h; omega)]
      congr 1
      exact (Nat.mod_eq_sub_mod (by omega)).symm

theorem idsL_repeat {ι : Nat → Loc} {A : Nat → Prop} {z : List AV} (h : idsL ι A z) : ∀ n, idsL ι A (repeatL z n) := by
  intro n
  induction n with
  | zero => simp [repeatL, idsL]
  | succ n ih => simp only [repeatL]; exact idsL_append.2 ⟨h, ih⟩

theorem range_map_repeat (ι : Nat → Loc) (z : List AV) (n : Nat) :
    ((Array.range (n * z.length)).map ((concL ι z).toArray[· % (concL ι z).toArray.size]!)) = (concL ι (repeatL z n)).toArray := by
  apply Array.ext_getElem?
  intro i
  simp only [Array.getElem?_map, List.getElem?_toArray, concL_getElem?, List.size_toArray, concL_length]
  by_cases hi : i < n * z.length
  · have hz : 0 < z.length := by
      rcases Nat.eq_zero_or_pos z.length with h | h
      · rw [h] at hi; simp at hi
      · exact h
    rw [repeatL_get z hz n i hi, Array.getElem?_range]
    have hm : i % z.length < z.length := Nat.mod_lt _ hz
    simp [hi, concL_eq, hm, List.getElem?_eq_getElem hm]
  · have h1 : (repeatL z n)[i]? = none := List.getElem?_eq_none (by rw [repeatL_length]; omega)
    rw [h1, Array.getElem?_range]
    simp [hi]

theorem range0 (f : Nat → Value) : (Array.range 0).map f = #[] := by apply Array.ext'; simp

section
variable {D : Tab} {P : Program} (F : Fits D P) {ι : Nat → Loc} {A : Nat → Prop} (w : World)

theorem run_newRow (elem : TypeId) (cells : Array Value) : (Go.newRow elem cells).run P w = .ok ⟨w.heap.size, 0, none⟩ (w.alloc (.cells cells elem)) := by
  simp [Go.newRow]

/-- what an operation that makes a block comes to -/
structure Makes (P : Program) (ι : Nat → Loc) (A : Nat → Prop) (w : World) (b : Nat) (v : AV) (o : AO) (s : Sem Next) : Prop where
  out : ∃ ob L, s.run P w = .ok (.value (conc (upd ι b L) v)) (w.alloc ob) ∧ L.block = w.heap.size ∧
    ORep (upd ι b L) (fun x => A x ∨ x = b) o L (w.alloc ob) ∧ ids (upd ι b L) (fun x => A x ∨ x = b) v

theorem kupd {b : Nat} {L : Loc} (hb : ¬ A b) : ∀ x, A x → (A x ∨ x = b) ∧ upd ι b L x = ι x :=
  fun x hx => ⟨.inl hx, upd_old fun e => hb (e ▸ hx)⟩

theorem heap_alloc_new (ob : Obj) : (w.alloc ob).heap[w.heap.size]? = some ob := by
  show (w.heap.push ob)[w.heap.size]? = _
  simp

theorem orep_cells {b : Nat} {cs : List AV} {elem sz : Nat} (hb : ¬ A b) (hc : idsL ι A cs) :
    ORep (upd ι b ⟨w.heap.size, 0, 0, sz⟩) (fun x => A x ∨ x = b) (.cells cs elem true sz) ⟨w.heap.size, 0, 0, sz⟩ (w.alloc (.cells (concL ι cs).toArray elem)) := by
  refine ⟨idsL_mono (kupd hb) cs hc, rfl, (concL ι cs).toArray, (0, 0), heap_alloc_new w _, fun i v hv => ?_, fun _ => ⟨rfl, by show 0 + 0 * sz ≤ _; rw [Nat.zero_mul]; exact Nat.zero_le _⟩⟩
  rw [conc_agree (fun x hx => (kupd hb x hx).2) v (idsL_get hc hv)]
  simp [hv]

include F
omit F in
theorem zeroRow_ok {elem n : Nat} {cs : List AV} (h : zeroRow D elem n = .ok cs) :
    ∃ s, size D elem = .ok s ∧ cs.length = n * s ∧ idsL ι A cs ∧
      ((n * s = 0 ∧ cs = []) ∨ (n * s ≠ 0 ∧ ∃ z, zero D elem = .ok z ∧ ((Array.range (n * s)).map ((conc ι z).cells[· % (conc ι z).cells.size]!)) = (concL ι cs).toArray)) := by
  simp only [zeroRow, bind_ok] at h
  obtain ⟨s, hs, h⟩ := h
  refine ⟨s, hs, ?_⟩
  split at h
  · rename_i h0
    simp at h; subst h
    exact ⟨by simp [h0], by simp [idsL], .inl ⟨h0, rfl⟩⟩
  · rename_i h0
    simp only [bind_ok] at h
    obtain ⟨z, hz, h⟩ := h
    split at h
    · rename_i hl
      simp at h; subst h
      refine ⟨by rw [repeatL_length, hl], idsL_repeat (ids_cells (zero_ids hz A)) _, .inr ⟨h0, z, hz, ?_⟩⟩
      rw [conc_cells, ← hl, range_map_repeat]
    · simp at h

omit F in
theorem sliceElem_ok {t elem : Nat} (h : sliceElem D t = .ok elem) : und D t = .ok (.slice elem) := by
  simp only [sliceElem, bind_ok] at h
  obtain ⟨d, hd, h⟩ := h
  split at h
  · simp at h; subst h; exact hd
  · simp at h

theorem allocOp_run {e : Operand → AV} {o : Oper} {v : AV} {ob : AO} {b : Nat} (hb : ¬ A b) (h : allocOp D e o.op b = .ok (v, ob))
    (hid : ∀ x, x ∈ o.op.operands → ids ι A (e x)) : Makes P ι A w b v ob (Go.execOp (fun x => conc ι (e x)) o) := by
  unfold Go.execOp
  generalize o.op = op at h hid
  unfold allocOp at h
  split at h
  · rename_i elem
    simp only [bind_ok, pure_ok, Prod.mk.injEq] at h
    obtain ⟨z, hz, s, hs, rfl, rfl⟩ := h
    refine ⟨.cells (concL ι z.cells).toArray elem, ⟨w.heap.size, 0, 0, s⟩, ?_, rfl, orep_cells w hb (ids_cells (zero_ids hz A)), by simp [ids]⟩
    simp only [Instr.alloc, Sem.run_bind, run_zero F (ι := ι) w hz, Result.andThen_ok, newVar, run_newRow, Sem.run_pure, conc_cells]
    simp [conc, upd_new, Loc.at]
  · rename_i elem x
    simp only [bind_ok, pure_ok, Prod.mk.injEq] at h
    obtain ⟨s, hs, rfl, rfl⟩ := h
    refine ⟨.cells (concL ι (e x).cells).toArray elem, ⟨w.heap.size, 0, 0, s⟩, ?_, rfl, orep_cells w hb (ids_cells (hid x (by simp [Op.operands]))), by simp [ids]⟩
    simp only [Instr.box, Sem.run_bind, Result.andThen_ok, newVar, run_newRow, Sem.run_pure, conc_cells]
    simp [conc, upd_new, Loc.at]
  · rename_i t len parts
    simp only [bind_ok] at h
    obtain ⟨elem, hel, s, hs, h⟩ := h
    split at h
    · simp at h
    · rename_i hbig
      simp only [bind_ok, pure_ok, Prod.mk.injEq] at h
      obtain ⟨z, hz, cs, hcs, rfl, rfl⟩ := h
      have hd := sliceElem_ok hel
      obtain ⟨s', hs', hl, hzi, hrun⟩ := zeroRow_ok (ι := ι) (A := A) hz
      have : s' = s := by rw [hs] at hs'; simpa using hs'.symm
      subst this
      have hp : ∀ p, p ∈ (parts.toList.map fun p => (p.1, e p.2)) → ids ι A p.2 := by
        intro p hp
        simp only [List.mem_map] at hp
        obtain ⟨q, hq, rfl⟩ := hp
        refine hid q.2 ?_
        simp only [Op.operands, List.mem_toArray, List.mem_map]
        exact ⟨q, hq, rfl⟩
      refine ⟨.cells (concL ι cs).toArray elem, ⟨w.heap.size, 0, 0, s'⟩, ?_, rfl, orep_cells w hb (fill_ids _ _ _ hcs hzi hp), by simp [ids]⟩
      have e1 : (parts.map fun p => (p.1, conc ι (e p.2))) = ((parts.toList.map fun p => (p.1, e p.2)).map fun p => (p.1, conc ι p.2)).toArray := by
        apply Array.ext'; simp
      have h2 := run_fill (ι := ι) _ _ _ hcs
      show (do let v ← Instr.buildSlice t len (parts.map fun p => (p.1, conc ι (e p.2))); pure (Next.value v) : Sem Next).run P w = _
      rw [e1]
      simp only [Instr.buildSlice, Sem.run_bind, run_und F w hd, Result.andThen_ok, run_size F w hs, if_neg hbig]
      rcases hrun with ⟨h0, rfl⟩ | ⟨h0, zv, hzv, hzz⟩
      · simp only [if_pos h0, Sem.run_bind, Sem.run_pure, Result.andThen_ok]
        simp only [h0, range0]
        have h2' := h2
        simp only [concL] at h2'
        simp only [h2', Sem.run_bind, run_newRow, Result.andThen_ok, Sem.run_pure]
        simp [conc, upd_new, Loc.at]
      · simp only [if_neg h0, Sem.run_bind, run_zero F (ι := ι) w hzv, Sem.run_pure, Result.andThen_ok, hzz]
        simp only [h2, Sem.run_bind, run_newRow, Result.andThen_ok, Sem.run_pure]
        simp [conc, upd_new, Loc.at]
  · rename_i t r
    have main : Makes P ι A w b (.mapv b) (.map [] 0) (do pure (.value (.map (some (← newObj (.map #[] 0)))))) := by
      refine ⟨.map #[] 0, ⟨w.heap.size, 0, 0, 0⟩, ?_, rfl, ⟨rfl, heap_alloc_new w _, by simp⟩, by simp [ids]⟩
      simp [conc, upd_new]
    split at h
    · simp at h
      obtain ⟨rfl, rfl⟩ := h
      obtain ⟨ob, L, h1, h2⟩ := main.out
      refine ⟨ob, L, ?_, h2⟩
      rw [← h1]
      simp [Instr.makeMap]
    · rename_i hh
      simp only [bind_ok] at h
      obtain ⟨d, hd, ⟨k, i⟩, hi, h⟩ := h
      split at h
      · simp at h
        obtain ⟨rfl, rfl⟩ := h
        obtain ⟨ob, L, h1, h2⟩ := main.out
        refine ⟨ob, L, ?_, h2⟩
        rw [← h1]
        simp [Instr.makeMap, run_und F w hd, run_asI (ι := ι) hi, asInt, asIntOf]
      · simp at h
  · rename_i t l c
    simp only [bind_ok] at h
    obtain ⟨elem, hel, ⟨kl, il⟩, hl, ⟨kc, ic⟩, hc, i, hi, h⟩ := h
    split at h
    · rename_i hcond
      obtain ⟨c1, c2, c3, c4⟩ := hcond
      simp only [bind_ok, pure_ok, Prod.mk.injEq] at h
      obtain ⟨s, hs, z, hz, rfl, rfl⟩ := h
      have hd := sliceElem_ok hel
      obtain ⟨s', hs', hlen, hzi, hrun⟩ := zeroRow_ok (ι := ι) (A := A) hz
      have : s' = s := by rw [hs] at hs'; simpa using hs'.symm
      subst this
      refine ⟨.cells (concL ι z).toArray elem, ⟨w.heap.size, 0, 0, s'⟩, ?_, rfl, orep_cells w hb hzi, by simp [ids]⟩
      have wl : IntKind.i64.wrap il = il := IntWalk.i64_in _ (by omega)
      have wc : IntKind.i64.wrap ic = ic := IntWalk.i64_in _ (by omega)
      have hbytes : ¬ ((i.bytes : Int) * ic > 2 ^ 48) := by
        have h1 : (i.bytes : Int) * ic ≤ 2 ^ 16 * 2 ^ 30 := Int.mul_le_mul (by omega) (by omega) (by omega) (by omega)
        have : (2 : Int) ^ 16 * 2 ^ 30 ≤ 2 ^ 48 := by decide
        omega
      show (do let v ← Instr.makeSlice t (conc ι (e l)) (conc ι (e c)); pure (Next.value v) : Sem Next).run P w = _
      simp only [Instr.makeSlice, Sem.run_bind, run_und F w hd, Result.andThen_ok, run_asI (ι := ι) hl, run_asI (ι := ι) hc, asInt, asIntOf, Sem.run_pure, run_inf F w hi, wl, wc]
      have hcond : (decide (ic < 0) || decide ((i.bytes : Int) * ic > 2 ^ 48) || decide (il < 0) || decide (il > ic)) = false := by
        simp only [Bool.or_eq_false_iff, decide_eq_false_iff_not]
        exact ⟨⟨⟨by omega, hbytes⟩, by omega⟩, by omega⟩
      rw [if_neg (by rw [hcond]; simp)]
      simp only [Sem.run_bind, run_askRoom, Result.andThen_ok, run_size F w hs]
      rcases hrun with ⟨h0, rfl⟩ | ⟨h0, zv, hzv, hzz⟩
      · simp only [if_pos h0, Sem.run_bind, Sem.run_pure, Result.andThen_ok]
        simp only [h0, range0, run_newRow, Result.andThen_ok]
        simp [conc, upd_new, Loc.at, concL]
      · simp only [if_neg h0, Sem.run_bind, run_zero F (ι := ι) w hzv, Sem.run_pure, Result.andThen_ok, hzz, run_newRow]
        simp [conc, upd_new, Loc.at]
    · simp at h
  · simp at h
end
end Go.Dt
