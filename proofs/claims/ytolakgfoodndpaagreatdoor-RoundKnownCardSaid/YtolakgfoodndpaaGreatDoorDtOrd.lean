/-
  A region in the text's order. No statement of this seat stands here.
-/
import Derived.Test.YtolakgfoodndpaaGreatDoorDtOne
namespace Go.Dt

section
variable {D : Tab} {P : Program}

structure IdsF (ι : Nat → Loc) (A : Nat → Prop) (X : Ctx) (T : List AV) (ds : List ADef) (pan : Pan) : Prop where
  fit : X.fits pan
  T : idsL ι A T
  ds : idsDs ι A ds
  pan : idsPan ι A pan

/-- a running frame -/
def mach (X : Ctx) (b : Frame) (ι : Nat → Loc) (T : List AV) (ds : List ADef) (pan : Pan) (todo : List Item) (w : World) : Machine :=
  lone (on b (concL ι T).toArray (ds.map (concDef ι)) todo) (X.cs ι pan) w

/-- a frame that begins to unwind -/
def machP (X : Ctx) (b : Frame) (ι : Nat → Loc) (T : List AV) (ds : List ADef) (pan : Pan) (todo : List Item) (v : AV) (w : World) : Machine :=
  lone { on b (concL ι T).toArray (ds.map (concDef ι)) todo with mode := .panicking [{ v := conc ι v, recovered := false }] } (X.cs ι pan) w

theorem mach_agree {X : Ctx} {b : Frame} {ι ι' : Nat → Loc} {σ σ' : St} {w w' w0 : World} {T : List AV} {ds : List ADef} {pan : Pan} {todo : List Item} (I : IdsF ι (· < σ.n) X T ds pan)
    (E : Ext ι σ w ι' σ' w') : mach X b ι' T ds pan todo w0 = mach X b ι T ds pan todo w0 := by
  unfold mach
  rw [concL_agree E.agree T I.T, concDs_agree E.agree I.ds, X.agree E.agree I.pan]

theorem IdsF.ext {X : Ctx} {ι ι' : Nat → Loc} {σ σ' : St} {w w' : World} {T : List AV} {ds : List ADef} {pan : Pan} (I : IdsF ι (· < σ.n) X T ds pan)
    (E : Ext ι σ w ι' σ' w') : IdsF ι' (· < σ'.n) X T ds pan :=
  ⟨I.fit, idsL_mono E.k T I.T, idsDs_mono E.k I.ds, idsPan_mono E.k pan I.pan⟩

inductive RegEnd (P : Program) (X : Ctx) (b : Frame) (ops : Array Oper) (k : List Item) (m : Machine) : OpEnd → (Nat → Loc) → St → World → Prop
  | go {ι' : Nat → Loc} {σ' : St} {w' : World} {T : List AV} {ds : List ADef} {pan : Pan}
      (steps : Steps P m (mach X b ι' T ds pan (.inRegion ops [] :: k) w')) (ids : IdsF ι' (· < σ'.n) X T ds pan) :
      RegEnd P X b ops k m (.go T ds pan σ') ι' σ' w'
  | panic {ι' : Nat → Loc} {σ' : St} {w' : World} {T : List AV} {ds : List ADef} {pan : Pan} {v : AV} (todo : List Item)
      (steps : Steps P m (machP X b ι' T ds pan todo v w')) (ids : IdsF ι' (· < σ'.n) X T ds pan) (hv : Dt.ids ι' (· < σ'.n) v) :
      RegEnd P X b ops k m (.panic v T ds pan σ') ι' σ' w'

theorem RegEnd.of_steps {X : Ctx} {b : Frame} {ops : Array Oper} {k : List Item} {m m1 : Machine} {r : OpEnd} {ι' : Nat → Loc} {σ' : St} {w' : World} (h : Steps P m m1)
    (h' : RegEnd P X b ops k m1 r ι' σ' w') : RegEnd P X b ops k m r ι' σ' w' := by
  cases h' with
  | go s i => exact .go (Steps.trans h s) i
  | panic t s i hv => exact .panic t (Steps.trans h s) i hv

theorem runSeq_ok (F : Fits D P) {call : CallT} {round : RoundT} (HC : CallOK D P call) (HR : RoundOK D P round) {isRound : Bool} {X : Ctx} {b : Frame} (hk : b.kind = X.kind)
    (hround : b.roundOf = none ↔ isRound = false) {ops : Array Oper} {k : List Item} : ∀ (l : List Oper) (i : Nat), ops.toList.drop i = l →
    ∀ {ι : Nat → Loc} {σ : St} {w : World} {T : List AV} {ds : List ADef} {pan : Pan} {r : OpEnd}, Rep D ι σ w → IdsF ι (· < σ.n) X T ds pan →
    runSeq D call round isRound ops l T ds pan σ = .ok r →
    ∃ ι' σ' w', RegEnd P X b ops k (mach X b ι T ds pan (.inRegion ops (List.range' i l.length) :: k) w) r ι' σ' w' ∧ Rep D ι' σ' w' ∧ Ext ι σ w ι' σ' w' := by
  intro l
  induction l with
  | nil =>
    intro i _ ι σ w T ds pan r R I h
    simp [runSeq] at h
    subst h
    exact ⟨ι, σ, w, .go (Steps.refl _ _) I, R, Ext.refl _ _ _⟩
  | cons o l ih =>
    intro i hd ι σ w T ds pan r R I h
    have ho : ops[i]? = some o := by
      have h1 : ops.toList[i]? = some o := by
        have : (ops.toList.drop i)[0]? = some o := by rw [hd]; rfl
        rwa [List.getElem?_drop, Nat.add_zero] at this
      simpa using h1
    have hd' : ops.toList.drop (i + 1) = l := by
      rw [← List.tail_drop, hd, List.tail_cons]
    have hrange : List.range' i (o :: l).length = i :: List.range' (i + 1) l.length := by simp [List.range'_succ]
    rw [hrange]
    simp only [runSeq] at h
    split at h
    · rename_i hwant
      simp only [bind_ok] at h
      obtain ⟨r1, h1, h⟩ := h
      have hw : Region.wanted o (yielded ops (concL ι T).toArray) = true := by rw [wanted_conc]; exact hwant
      obtain ⟨ι1, σ1, w1, h2, R1, E1⟩ := runOne_ok F HC HR hk hround R ho hw (rest := List.range' (i + 1) l.length) (k := k) (by rw [evT_eq R]) (fun x _ => evalO_ids R R.glob_lt I.T x) I.ds I.pan I.fit h1
      cases h2 with
      | go steps hv hds hpan hfit =>
        simp only at h
        rw [putV_agree E1 I.T] at steps
        have I1 : IdsF ι1 (· < σ1.n) X _ _ _ := ⟨hfit, put_ids (idsL_mono E1.k T I.T) hv o.dst, hds, hpan⟩
        obtain ⟨ι2, σ2, w2, h3, R2, E2⟩ := ih (i + 1) hd' R1 I1 h
        exact ⟨ι2, σ2, w2, .of_steps steps h3, R2, E1.trans E2⟩
      | panic steps hv =>
        simp at h
        subst h
        refine ⟨ι1, σ1, w1, .panic (.inRegion ops (i :: List.range' (i + 1) l.length) :: k) ?_ (I.ext E1) hv, R1, E1⟩
        unfold mach machP
        rw [concL_agree E1.agree T I.T]
        exact steps
    · rename_i hwant
      have I1 : IdsF ι (· < σ.n) X (put T o.dst .undef) ds pan := ⟨I.fit, put_ids I.T (ids_undef _ _) o.dst, I.ds, I.pan⟩
      obtain ⟨ι2, σ2, w2, h3, R2, E2⟩ := ih (i + 1) hd' R I1 h
      refine ⟨ι2, σ2, w2, .of_steps (.one ?_) h3, R2, E2⟩
      have := step_unwanted (P := P) (b := b) (ds := ds.map (concDef ι)) (k := k) (cs := X.cs ι pan) (w := w) (T := (concL ι T).toArray) (ops := ops) (i := i) (rest := List.range' (i + 1) l.length) (o := o)
        (by simp [ho, wanted_conc, hwant]) ho
      unfold mach
      rw [this, ← conc_undef ι, putV_conc]

end
end Go.Dt
