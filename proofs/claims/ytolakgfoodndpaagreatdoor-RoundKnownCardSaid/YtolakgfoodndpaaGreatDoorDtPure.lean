/-
  Operations that ask nothing of memory: the model does what the deterministic reading does. No statement of this seat stands here.
-/
import Derived.Test.YtolakgfoodndpaaGreatDoorDtConc
import Derived.Laws.Sem
import Derived.Laws.Entries
import Derived.Laws.StructEq
namespace Go.Dt

structure Fits (D : Tab) (P : Program) : Prop where
  func : ∀ i f, D.func i = some f → P.funcs[i]? = some f
  info : ∀ t i, D.info t = some i → P.info? t = some i
  eqOk : ∀ t, D.eqOk t = true → P.stoodInHeld t = false
  ext : ∀ g k, D.ext g = some k → ∃ fn, P.funcs[g]? = some fn ∧ (fn.name == "runtime.NumGoroutine") = false ∧ fn.body.isNone = true ∧ (Extern.findNext fn).isNone = true ∧ Extern.find fn = some k.sem
  depth : 10 ≤ P.depth
  mixed : P.follows .mixedOrders = true

section
variable {D : Tab} {P : Program} (F : Fits D P) {ι : Nat → Loc} (w : World)
include F

theorem inf_ok {t : Nat} {i : TypeInfo} (h : inf D t = .ok i) : P.info? t = some i := by
  unfold inf at h
  split at h <;> simp at h
  rename_i j hj
  exact F.info _ _ (h ▸ hj)

theorem und_ok {t : Nat} {d : TypeDesc} (h : und D t = .ok d) : P.underlying t = some d := by
  unfold und at h
  unfold Program.underlying
  split at h
  · rename_i i hi
    rw [F.info _ _ hi]
    rcases i with ⟨desc, a1, a2, a3, a4, a5, a6, a7, a8, a9⟩
    cases desc with
    | named nm u =>
      simp only at h ⊢
      split at h
      · rename_i j hj
        simp at h
        rw [F.info _ _ hj]
        simp [h]
      · simp at h
    | _ => simpa using h
  · simp at h

theorem run_und {t : Nat} {d : TypeDesc} (h : und D t = .ok d) : (underlying t).run P w = .ok d w := run_underlying (und_ok F h) w

theorem size_ok {t n : Nat} (h : size D t = .ok n) : ∃ i, P.info? t = some i ∧ i.size = n := by
  unfold size at h
  split at h <;> simp at h
  rename_i i hi
  exact ⟨i, F.info _ _ hi, h⟩

omit F in
theorem run_info {t : Nat} {i : TypeInfo} (h : P.info? t = some i) : (typeInfo t).run P w = .ok i w := by
  simp [typeInfo, h]

theorem run_inf {t : Nat} {i : TypeInfo} (h : inf D t = .ok i) : (typeInfo t).run P w = .ok i w := run_info w (inf_ok F h)

theorem run_size {t n : Nat} (h : size D t = .ok n) : (sizeOf t).run P w = .ok n w := by
  obtain ⟨i, hi, rfl⟩ := size_ok F h
  simp [sizeOf, run_info w hi]

theorem run_zero {t : Nat} {z : AV} (h : zero D t = .ok z) : (zeroValue t).run P w = .ok (conc ι z) w := by
  unfold zero at h
  split at h
  · rename_i i hi
    split at h
    · rename_i v hv
      simp at h
      subst h
      simp [zeroValue, run_info w (F.info _ _ hi), hv]
    · simp at h
  · simp at h

omit F in
theorem zero_ids {t : Nat} {z : AV} (h : zero D t = .ok z) (A : Nat → Prop) : ids ι A z := by
  unfold zero at h
  split at h
  · split at h
    · simp at h; subst h; exact ids_ofConst ι A _
    · simp at h
  · simp at h

theorem run_isAgg {t : Nat} {d : TypeDesc} (h : und D t = .ok d) : (isAgg t).run P w = .ok (isAggD d) w := by
  simp only [isAgg, Sem.run_bind, run_und F w h, Result.andThen_ok]
  cases d <;> simp [isAggD]

theorem run_part {t off : Nat} {cs : List AV} {v : AV} (h : part D t cs off = .ok v) :
    (Go.part t (concL ι cs).toArray off).run P w = .ok (conc ι v) w := by
  simp only [part, bind_ok] at h
  obtain ⟨d, hd, h⟩ := h
  simp only [Go.part, Sem.run_bind, run_isAgg F w hd, Result.andThen_ok]
  split at h
  · rename_i hagg
    simp only [bind_ok, pure_ok] at h
    obtain ⟨n, hn, rfl⟩ := h
    simp only [hagg, if_true, Sem.run_bind, run_size F w hn, Result.andThen_ok, Sem.run_pure, conc]
    congr 2
    simp [List.extract_eq_take_drop]
  · rename_i hagg
    have hagg' : isAggD d = false := by simpa using hagg
    simp only [hagg', Bool.false_eq_true, if_false]
    split at h
    · rename_i x hx
      simp at h
      subst h
      simp [hx]
    · simp at h

omit F in
theorem part_ids {A : Nat → Prop} {t off : Nat} {cs : List AV} {v : AV} (h : part D t cs off = .ok v) (hi : idsL ι A cs) : ids ι A v := by
  simp only [part, bind_ok] at h
  obtain ⟨d, hd, h⟩ := h
  split at h
  · simp only [bind_ok, pure_ok] at h
    obtain ⟨n, hn, rfl⟩ := h
    exact idsL_take (idsL_drop hi _) _
  · split at h
    · rename_i x hx
      simp at h
      exact h ▸ idsL_get hi hx
    · simp at h

end
end Go.Dt
