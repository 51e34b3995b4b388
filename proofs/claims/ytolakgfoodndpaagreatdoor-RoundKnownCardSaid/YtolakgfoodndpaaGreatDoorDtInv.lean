/-
  What a drawn region keeps: lemmas. No statement of this seat stands here.
-/
import Derived.Test.YtolakgfoodndpaaGreatDoorDtTr
namespace Go.Dt

theorem sameAt_ok {D : Tab} {T : List AV} {op : Op} {v : AV} {s : St} (h : sameAt D T op v s = true) : readOp D s (evalO D T) op = .ok v := by
  unfold sameAt at h
  split at h
  · rename_i v' hv
    rw [hv, beqA_ok _ _ h]
  · cases h

mutual
theorem ids_restrict {ι : Nat → Loc} {A : Nat → Prop} {n : Nat} : ∀ (v : AV), ids ι A v → bndA n v = true → ids ι (fun b => A b ∧ b < n) v
  | .base _, _, _ => trivial
  | .ptr b _, h, k => ⟨h, by simpa [bndA] using k⟩
  | .slice b _ _ (some _) _, h, k => ⟨h, by simpa [bndA] using k⟩
  | .slice b _ _ none _, h, k => ⟨⟨h.1, by simpa [bndA] using k⟩, h.2⟩
  | .sliceZ b _ _ _, h, k => ⟨⟨h.1, by simpa [bndA] using k⟩, h.2⟩
  | .mapv b, h, k => ⟨h, by simpa [bndA] using k⟩
  | .func _ a c, h, k => by
    simp only [bndA, Bool.and_eq_true] at k
    exact ⟨idsL_restrict a h.1 k.1, idsL_restrict c h.2 k.2⟩
  | .yield l, h, k => ⟨h, by simpa [bndA] using k⟩
  | .iface _ v, h, k => ids_restrict v h k
  | .agg cs, h, k => idsL_restrict cs h k
  | .tuple vs, h, k => idsL_restrict vs h k
theorem idsL_restrict {ι : Nat → Loc} {A : Nat → Prop} {n : Nat} : ∀ (l : List AV), idsL ι A l → bndL n l = true → idsL ι (fun b => A b ∧ b < n) l
  | [], _, _ => trivial
  | v :: l, h, k => by
    simp only [bndL, Bool.and_eq_true] at k
    exact ⟨ids_restrict v h.1 k.1, idsL_restrict l h.2 k.2⟩
end

theorem ids_sub {ι : Nat → Loc} {A B : Nat → Prop} (h : ∀ b, A b → B b) {v : AV} (k : ids ι A v) : ids ι B v := ids_mono (fun b hb => ⟨h b hb, rfl⟩) v k

theorem ORep.restrict {ι : Nat → Loc} {A : Nat → Prop} {n : Nat} {o : AO} {L : Loc} {w : World} (h : ORep ι A o L w) (k : bndO n o = true) : ORep ι (fun b => A b ∧ b < n) o L w := by
  cases o with
  | cells cs elem own sz =>
    obtain ⟨h1, h2⟩ := h
    exact ⟨idsL_restrict cs h1 k, h2⟩
  | map es clock =>
    cases es with
    | nil => exact ⟨h.1, h.2.1, by simp⟩
    | cons e es => simp [bndO] at k
  | _ => simp [bndO] at k

theorem bndO_ne {n : Nat} {o : AO} (k : bndO n o = true) : o ≠ .gone := by rintro rfl; simp [bndO] at k

section
variable {D : Tab} {ι ι' : Nat → Loc} {σ : St} {w : World}

theorem Rep.iota (R : Rep D ι σ w) (h : ∀ b, b < σ.n → ι' b = ι b) : Rep D ι' σ w where
  len := R.len
  glob := R.glob
  gloc := fun g hg => by rw [h g (Nat.lt_of_lt_of_le hg R.glob)]; exact R.gloc g hg
  obj := fun b hb => by rw [h b hb]; exact (R.obj b hb).mono fun x hx => ⟨hx, h x hx⟩
  sep := fun b b' hb hb' hne hm hg => by rw [h b hb, h b' hb']; exact R.sep b b' hb hb' hne hm hg
  mem := R.mem

theorem Ext.iota {ι0 : Nat → Loc} {σ0 : St} {w0 : World} (E : Ext ι0 σ0 w0 ι σ w) (h : ∀ b, b < σ.n → ι' b = ι b) : Ext ι0 σ0 w0 ι' σ w where
  os := E.os
  tape := E.tape
  output := E.output
  size := E.size
  n := E.n
  agree := fun b hb => (h b (Nat.lt_of_lt_of_le hb E.n)).trans (E.agree b hb)
  frame := E.frame
  own := fun b hb hg => by rw [h b hb]; exact E.own b hb hg

/-- an object that lies in memory already is taken into the heap -/
theorem Rep.adopt (R : Rep D ι σ w) {o : AO} (ho : ORep ι (· < σ.n + 1) o (ι σ.n) w) (hs : ∀ b, b < σ.n → σ.getO b ≠ .gone → (ι b).block ≠ (ι σ.n).block) :
    Rep D ι (σ.push o) w where
  len := by simp [St.push, R.len]
  glob := Nat.le_succ_of_le R.glob
  gloc := R.gloc
  obj := fun b hb => by
    simp only [St.push] at hb
    by_cases he : b = σ.n
    · subst he; rw [getO_push_new]; exact ho
    · have hb1 : b < σ.n := by omega
      rw [getO_push_old hb1]
      exact (R.obj b hb1).mono fun x hx => ⟨Nat.lt_succ_of_lt hx, rfl⟩
  sep := fun b b' hb hb' hne hm hg => by
    simp only [St.push] at hb hb'
    by_cases he : b = σ.n
    · subst he
      have hb1 : b' < σ.n := by omega
      rw [getO_push_old hb1] at hg
      exact (hs b' hb1 hg).symm
    · have hb1 : b < σ.n := by omega
      rw [getO_push_old hb1] at hm
      by_cases he' : b' = σ.n
      · subst he'; exact hs b hb1 (AO.isMut_ne hm)
      · have hb2 : b' < σ.n := by omega
        rw [getO_push_old hb2] at hg
        exact R.sep b b' hb1 hb2 hne hm hg
  mem := R.mem

theorem Ext.adopt {ι0 : Nat → Loc} {σ0 : St} {w0 : World} (E : Ext ι0 σ0 w0 ι σ w) {o : AO} (hb0 : w0.heap.size ≤ (ι σ.n).block) : Ext ι0 σ0 w0 ι (σ.push o) w where
  os := E.os
  tape := E.tape
  output := E.output
  size := E.size
  n := Nat.le_succ_of_le E.n
  agree := E.agree
  frame := E.frame
  own := fun b hb hg => by
    simp only [St.push] at hb
    by_cases he : b = σ.n
    · subst he; exact .inl hb0
    · have hb1 : b < σ.n := by omega
      rw [getO_push_old hb1] at hg ⊢
      exact E.own b hb1 hg

/-- a new block in memory that the heap does not yet know -/
theorem Ext.aside {ι0 : Nat → Loc} {σ0 : St} {w0 : World} (E : Ext ι0 σ0 w0 ι σ w) (ob : Obj) (h : ∀ b, b < σ.n → ι' b = ι b) : Ext ι0 σ0 w0 ι' σ (w.alloc ob) := by
  refine Ext.iota ⟨E.os, E.tape, E.output, ?_, E.n, E.agree, fun r hr hno => ?_, E.own⟩ h
  · have : (w.alloc ob).heap.size = w.heap.size + 1 := by simp
    rw [this]; exact Nat.le_succ_of_le E.size
  · rw [← E.frame r hr hno]
    show (w.heap.push ob)[r]? = _
    have := E.size
    rw [Array.getElem?_push, if_neg (by omega)]

theorem heap_alloc_old (w : World) (ob : Obj) {r : Nat} (hr : r < w.heap.size) : (w.alloc ob).heap[r]? = w.heap[r]? := by
  show (w.heap.push ob)[r]? = _
  rw [Array.getElem?_push, if_neg (by omega)]

theorem Rep.aside (R : Rep D ι σ w) (ob : Obj) (h : ∀ b, b < σ.n → ι' b = ι b) : Rep D ι' σ (w.alloc ob) := by
  refine Rep.iota ⟨R.len, R.glob, R.gloc, fun b hb => ?_, R.sep, R.mem⟩ h
  by_cases hg : σ.getO b = .gone
  · rw [hg]; trivial
  · exact (R.obj b hb).congr (heap_alloc_old w ob ((R.obj b hb).lt hg))

end
end Go.Dt
