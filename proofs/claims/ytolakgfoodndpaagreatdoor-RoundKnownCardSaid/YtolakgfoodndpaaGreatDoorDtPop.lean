/-
  Operations that ask nothing of memory: the model does what the deterministic reading does. No statement of this seat stands here.
-/
import Derived.Test.YtolakgfoodndpaaGreatDoorDtEq
import Derived.Orders
namespace Go.Dt
section
variable {D : Tab} {P : Program} (F : Fits D P) {ι : Nat → Loc} (w : World)

theorem run_intOp {op : BinOp} {t : TypeId} {k k' : IntKind} {a b : Int} {v : AV} (h : intOp op k k' a b = .ok v) :
    (Go.binOp op t (.int k a) (.int k' b)).run P w = .ok (conc ι v) w := by
  unfold intOp at h
  split at h
  · split at h
    · simp at h
    · rename_i hb
      simp at h; subst h
      simp [Go.binOp, Op.shift, hb, intV, conc]
  · split at h
    · simp at h
    · rename_i hb
      simp at h; subst h
      simp [Go.binOp, Op.shift, hb, intV, conc]
  · split at h
    · rename_i hk
      subst hk
      split at h <;> (try (simp at h; done)) <;> (try (simp at h; subst h; simp [Go.binOp, Op.intArith, Op.intBits, Op.intCmp, intV, boolV, conc]; done))
      · split at h
        · simp at h
        · rename_i hb
          simp at h; subst h
          simp [Go.binOp, Op.intDiv, hb, intV, conc]
      · split at h
        · simp at h
        · rename_i hb
          simp at h; subst h
          simp [Go.binOp, Op.intDiv, hb, intV, conc]
    · simp at h

theorem toListBytes (a : List UInt8) : (⟨⟨a⟩⟩ : ByteArray).toList = a := by rw [ByteArray.toList_eq]

theorem run_strOp {op : BinOp} {t : TypeId} {a b : List UInt8} {v : AV} (h : strOp op a b = .ok v) :
    (Go.binOp op t (.string ⟨⟨a⟩⟩) (.string ⟨⟨b⟩⟩)).run P w = .ok (conc ι v) w := by
  unfold strOp at h
  split at h <;> (try (simp at h; done)) <;> (try (simp at h; subst h; simp [Go.binOp, Op.stringOp, toListBytes, boolV, conc]; done))
  split at h
  · rename_i hl
    simp at h; subst h
    have hs : (⟨⟨a⟩⟩ : ByteArray).size = a.length := rfl
    have hs' : (⟨⟨b⟩⟩ : ByteArray).size = b.length := rfl
    have hle : ¬ ((a.length : Int) + (b.length : Int) > IntKind.i64.max) := by
      simp only [IntKind.max, IntKind.signed, IntKind.bits, if_true]
      have : a.length + b.length < 2 ^ 40 := hl
      omega
    simp only [Go.binOp, Op.stringOp, hs, hs', Sem.run_ite]
    rw [if_neg (by push_cast; exact hle)]
    simp only [Sem.run_pure, str, conc]
    congr 2
  · simp at h

include F
theorem run_eqOp {op : BinOp} {t : TypeId} {x y v : AV} (h : eqOp D op t x y = .ok v)
    (hn : ∀ a b, conc ι x = .int a b → False) (hf : ∀ a b, conc ι x = .float a b → False) (hc : ∀ a b c, conc ι x = .complex a b c → False)
    (hs : ∀ a, conc ι x = .string a → False) :
    (Go.binOp op t (conc ι x) (conc ι y)).run P w = .ok (conc ι v) w := by
  unfold eqOp at h
  split at h
  · simp only [bind_ok, pure_ok] at h
    obtain ⟨b, hb, rfl⟩ := h
    have := run_eqV F (ι := ι) w 10 t x y b hb 10000 (by omega)
    have key : (Go.binOp .eql t (conc ι x) (conc ι y)) = (do pure (.bool (← Op.equal t (conc ι x) (conc ι y)))) := by
      cases hx : conc ι x <;> (first | exact (hn _ _ hx).elim | exact (hf _ _ hx).elim | exact (hc _ _ _ hx).elim | exact (hs _ hx).elim | rfl)
    rw [key]
    simp [Op.equal, Op.maxDepth, this, boolV, conc]
  · simp only [bind_ok, pure_ok] at h
    obtain ⟨b, hb, rfl⟩ := h
    have := run_eqV F (ι := ι) w 10 t x y b hb 10000 (by omega)
    have key : (Go.binOp .neq t (conc ι x) (conc ι y)) = (do pure (.bool (!(← Op.equal t (conc ι x) (conc ι y))))) := by
      cases hx : conc ι x <;> (first | exact (hn _ _ hx).elim | exact (hf _ _ hx).elim | exact (hc _ _ _ hx).elim | exact (hs _ hx).elim | rfl)
    rw [key]
    simp [Op.equal, Op.maxDepth, this, boolV, conc]
  · simp at h

omit F in
theorem run_eqGuard_none (op : BinOp) (t : TypeId) (x y : Operand) (a b : Value) (h1 : ¬ (a = .nilIface ∧ b = .nilIface)) (h2 : ∀ l, a ≠ .agg l) :
    (eqGuard op t x y a b).run P w = .ok () w := by
  cases op <;> simp [eqGuard] <;> split <;> simp_all

omit F in
theorem run_eqGuard_const (op : BinOp) (t : TypeId) (x y : Operand) (h : (isConstO x || isConstO y) = true) :
    (eqGuard op t x y .nilIface .nilIface).run P w = .ok () w := by
  cases op <;> cases x <;> cases y <;> simp_all [eqGuard, isConstO]

theorem run_binOp {op : BinOp} {t : TypeId} {x y v : AV} {ox oy : Operand} (h : binOp D op t x y (isConstO ox || isConstO oy) = .ok v) :
    ((do eqGuard op t ox oy (conc ι x) (conc ι y); Go.binOp op t (conc ι x) (conc ι y) : Sem Value)).run P w = .ok (conc ι v) w := by
  simp only [Sem.run_bind]
  have side : ∀ (x y : AV), eqOp D op t x y = .ok v → ¬ (conc ι x = .nilIface ∧ conc ι y = .nilIface) → (∀ l, conc ι x ≠ .agg l) →
      (∀ a b, conc ι x = .int a b → False) → (∀ a b, conc ι x = .float a b → False) → (∀ a b c, conc ι x = .complex a b c → False) → (∀ a, conc ι x = .string a → False) →
      ((eqGuard op t ox oy (conc ι x) (conc ι y)).run P w).andThen (fun _ w => (Go.binOp op t (conc ι x) (conc ι y)).run P w) = .ok (conc ι v) w := by
    intro x y h h1 h2 h3 h4 h5 h6
    rw [run_eqGuard_none w op t ox oy _ _ h1 h2]
    exact run_eqOp F w h h3 h4 h5 h6
  unfold binOp at h
  split at h
  · simp only [conc]
    rw [run_eqGuard_none w op t ox oy _ _ (by simp) (by simp)]
    exact run_intOp w h
  · simp only [conc]
    rw [run_eqGuard_none w op t ox oy _ _ (by simp) (by simp)]
    exact run_strOp w h
  · split at h
    · rename_i hc
      simp only [conc]
      rw [run_eqGuard_const w op t ox oy hc]
      have := run_eqOp F (ι := ι) w h (by simp [conc]) (by simp [conc]) (by simp [conc]) (by simp [conc])
      simpa [conc] using this
    · simp at h
  · split at h
    · rename_i hg
      have hg' := guardFree_ok F 10 t hg _ F.depth
      have := run_eqOp F (ι := ι) w h (by simp [conc]) (by simp [conc]) (by simp [conc]) (by simp [conc])
      simp only [conc] at this ⊢
      rw [run_eqGuard_agg w op t ox oy _ _ hg']
      exact this
    · simp at h
  all_goals first
    | (refine side _ _ h ?_ ?_ ?_ ?_ ?_ ?_ <;> (simp [conc]; done))
    | (rename_i b o n k s l c
       obtain ⟨c', hc⟩ := conc_slice ι b o n k s
       refine side _ _ h ?_ ?_ ?_ ?_ ?_ ?_ <;> (simp [hc]; done))
    | (rename_i b o n s l c
       obtain ⟨a, c', hc⟩ := conc_sliceZ ι b o n s
       refine side _ _ h ?_ ?_ ?_ ?_ ?_ ?_ <;> (simp [hc]; done))
    | (simp at h; done)
end
end Go.Dt
