/-
  Comparisons: the model does what the deterministic reading does. No statement of this seat stands here.
-/
import Derived.Test.YtolakgfoodndpaaGreatDoorDtPure
import Derived.ChangeKeysEq
namespace Go.Dt
section
variable {D : Tab} {P : Program} (F : Fits D P) {ι : Nat → Loc} (w : World)
include F

theorem run_eqFields {d : Nat} {rec_ : Nat → AV → AV → R Bool}
    (hrec : ∀ t x y b, rec_ t x y = .ok b → (Op.equalIn d t (conc ι x) (conc ι y)).run P w = .ok b w) {xs ys : List AV} :
    ∀ (fs : List Field) (b : Bool), eqFields D rec_ xs ys fs = .ok b → (Op.eqFields d (concL ι xs).toArray (concL ι ys).toArray fs).run P w = .ok b w := by
  intro fs
  induction fs with
  | nil => intro b h; simp [eqFields] at h; subst h; simp [Op.eqFields]
  | cons f fs ih =>
    intro b h
    simp only [eqFields] at h
    simp only [Op.eqFields]
    split at h
    · rename_i hn
      simp only [hn, ne_eq, not_true, if_false]
      exact ih b h
    · rename_i hn
      simp only [bind_ok] at h
      obtain ⟨x, hx, y, hy, r, hr, h⟩ := h
      simp only [hn, ne_eq, not_false_eq_true, if_true, Sem.run_bind, run_part F w hx, run_part F w hy, Result.andThen_ok, hrec _ _ _ _ hr, Sem.run_ite, Sem.run_pure]
      cases r with
      | true => simpa using ih b (by simpa using h)
      | false => simp at h; subst h; simp

theorem run_eqElems {d : Nat} {rec_ : Nat → AV → AV → R Bool}
    (hrec : ∀ t x y b, rec_ t x y = .ok b → (Op.equalIn d t (conc ι x) (conc ι y)).run P w = .ok b w) {elem n : Nat} {xs ys : List AV} :
    ∀ (m i : Nat) (b : Bool), eqElems D rec_ elem n xs ys m i = .ok b →
      (Op.eqItems d elem n (concL ι xs).toArray (concL ι ys).toArray (List.range' i m)).run P w = .ok b w := by
  intro m
  induction m with
  | zero => intro i b h; simp [eqElems] at h; subst h; simp [Op.eqItems]
  | succ m ih =>
    intro i b h
    simp only [eqElems, bind_ok] at h
    obtain ⟨x, hx, y, hy, r, hr, h⟩ := h
    simp only [List.range'_succ, Op.eqItems, Sem.run_bind, run_part F w hx, run_part F w hy, Result.andThen_ok, hrec _ _ _ _ hr, Sem.run_ite, Sem.run_pure]
    cases r with
    | true => simpa using ih (i + 1) b (by simpa using h)
    | false => simp at h; subst h; simp

theorem run_eqLeaf {d t : Nat} {ty : TypeDesc} {x y : AV} {b : Bool} (ht : und D t = .ok ty) (h : eqLeaf ty x y = .ok b) :
    (Op.equalIn (d + 1) t (conc ι x) (conc ι y)).run P w = .ok b w := by
  simp only [Op.equalIn, Sem.run_bind, run_und F w ht, Result.andThen_ok]
  unfold eqLeaf at h
  split at h <;> (try (simp at h; done)) <;> (try (simp at h; subst h; simp [conc]; done))
  · -- int
    split at h
    · rename_i k k' hk
      simp at h; subst h; simp [conc, hk]
    · simp at h
  · -- string
    simp at h; subst h
    rename_i a b
    simp only [conc]
    simp only [Sem.run_pure, Result.ok.injEq, and_true]
    show ((⟨⟨a⟩⟩ : ByteArray) == ⟨⟨b⟩⟩) = (a == b)
    rw [Go.beq_toListBytes, ByteArray.toList_eq, ByteArray.toList_eq]
  · rename_i b o len cap sz
    simp at h; subst h
    obtain ⟨c, hc⟩ := conc_slice ι b o len cap sz
    rw [hc]; simp [conc]
  · rename_i b o l sz
    simp at h; subst h
    obtain ⟨a, c, hc⟩ := conc_sliceZ ι b o l sz
    rw [hc]; simp [conc]
  · rename_i b o len cap sz _ _
    simp at h; subst h
    obtain ⟨c, hc⟩ := conc_slice ι b o len cap sz
    rw [hc]; simp [conc]
  · rename_i b o l sz _ _
    simp at h; subst h
    obtain ⟨a, c, hc⟩ := conc_sliceZ ι b o l sz
    rw [hc]; simp [conc]

theorem run_eqV : ∀ (d t : Nat) (x y : AV) (b : Bool), eqV D d t x y = .ok b → ∀ k, d ≤ k → (Op.equalIn k t (conc ι x) (conc ι y)).run P w = .ok b w := by
  intro d
  induction d with
  | zero => intro t x y b h; simp [eqV] at h
  | succ d ih =>
    intro t x y b h k hk
    obtain ⟨k, rfl⟩ : ∃ j, k = j + 1 := ⟨k - 1, by omega⟩
    have ih' : ∀ t x y b, eqV D d t x y = .ok b → (Op.equalIn k t (conc ι x) (conc ι y)).run P w = .ok b w := fun t x y b h => ih t x y b h k (by omega)
    simp only [eqV, bind_ok] at h
    obtain ⟨ty, hty, h⟩ := h
    split at h
    · rename_i fields xs ys
      split at h
      · rename_i hq
        have hu := und_ok F hty
        have hf : P.fieldsOf t = fields := by simp [Program.fieldsOf, hu]
        simp only [conc]
        rw [run_equalIn_struct w k t _ _ (by rw [hf]; exact hu) (F.eqOk _ hq), hf]
        exact run_eqFields F w ih' _ _ h
      · simp at h
    · rename_i len elem xs ys
      simp only [bind_ok] at h
      obtain ⟨n, hn, h⟩ := h
      have key := run_eqElems F w ih' _ _ _ h
      obtain ⟨i, hi, rfl⟩ := size_ok F hn
      have hc : P.cellsOf elem = i.size := by simp [Program.cellsOf, hi]
      simp only [conc]
      rw [Go.run_equalIn_array w k _ _ (und_ok F hty) hi, hc, List.range_eq_range']
      exact key
    · exact run_eqLeaf F w hty h

theorem guardFree_ok : ∀ (d t : Nat), guardFree D d t = true → ∀ k, d ≤ k → P.eqGuardType k t = false := by
  intro d
  induction d with
  | zero => intro t h; simp [guardFree] at h
  | succ d ih =>
    intro t h k hk
    obtain ⟨k, rfl⟩ : ∃ j, k = j + 1 := ⟨k - 1, by omega⟩
    unfold guardFree at h
    unfold Program.eqGuardType
    split at h
    · rename_i ms hu
      rw [und_ok F hu]
      simpa using h
    · rename_i fs hu
      rw [und_ok F hu]
      simp only [← Array.any_toList]
      clear hu
      generalize fs.toList = l at h ⊢
      induction l with
      | nil => simp
      | cons f l ihl =>
        simp only [guardFields, Bool.and_eq_true, Bool.or_eq_true, beq_iff_eq] at h
        simp only [List.any_cons, Bool.or_eq_false_iff, Bool.and_eq_false_iff, bne_eq_false_iff_eq]
        refine ⟨?_, ihl h.2⟩
        rcases h.1 with h1 | h1
        · exact .inl h1
        · exact .inr (ih _ h1 k (by omega))
    · rename_i n e hu
      rw [und_ok F hu]
      exact ih _ h k (by omega)
    · rename_i ty h1 h2 h3 hu
      rw [und_ok F hu]
      cases ty <;> simp_all
    · simp at h

end
end Go.Dt
