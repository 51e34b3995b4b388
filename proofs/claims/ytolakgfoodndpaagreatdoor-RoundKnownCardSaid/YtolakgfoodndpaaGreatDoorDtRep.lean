/-
  What the deterministic reading's heap says of the model's memory. No statement of this seat stands here.
-/
import Derived.Test.YtolakgfoodndpaaGreatDoorDtPop4
import Derived.Laws.World
import Derived.Calls
namespace Go.Dt

def concDef (ι : Nat → Loc) : ADef → Deferred
  | .fn fn cap args => { target := .fn fn (concL ι cap).toArray, args := (concL ι args).toArray }
  | .collected r => { target := .collected (ι r).block, args := #[] }
def idsDef (ι : Nat → Loc) (A : Nat → Prop) : ADef → Prop
  | .fn _ cap args => idsL ι A cap ∧ idsL ι A args
  | .collected r => A r

def concEntry (ι : Nat → Loc) (e : AV × AV × Nat) : MapEntry := { key := conc ι e.1, val := conc ι e.2.1, born := e.2.2 }
def concLoop (ι : Nat → Loc) (l : ALoop) : Loop :=
  { state := l.state, pending := l.pending, fn := l.fn, tmps := (concL ι l.T).toArray, params := l.params.toArray, assign := l.assign, body := l.body, defers := (ι l.defers).block }

def AO.isMut : AO → Bool
  | .cells _ _ own _ => own
  | .gone => false
  | _ => true

def ORep (ι : Nat → Loc) (A : Nat → Prop) (o : AO) (L : Loc) (w : World) : Prop :=
  match o with
  | .cells cs elem own sz => idsL ι A cs ∧ L.sz = sz ∧ ∃ arr fz, w.heap[L.block]? = some (.cells arr elem fz) ∧
      (∀ i v, cs[i]? = some v → arr[L.shift + i]? = some (conc ι v)) ∧ (own = true → fz = (0, 0) ∧ L.shift + L.capz * sz ≤ arr.size)
  | .map es clock => L.shift = 0 ∧ w.heap[L.block]? = some (.map (es.map (concEntry ι)).toArray clock) ∧ ∀ e, e ∈ es → ids ι A e.1 ∧ ids ι A e.2.1
  | .striter s pos => L.shift = 0 ∧ w.heap[L.block]? = some (.stringIter ⟨⟨s⟩⟩ pos)
  | .mapiter m since seen stepped => L.shift = 0 ∧ w.heap[L.block]? = some (.mapIter (m.map fun b => (ι b).block) since seen.toArray stepped) ∧ ∀ b, m = some b → A b
  | .loop l => L.shift = 0 ∧ w.heap[L.block]? = some (.loop (concLoop ι l)) ∧ idsL ι A l.T ∧ A l.defers
  | .deferred calls => L.shift = 0 ∧ w.heap[L.block]? = some (.deferred (calls.map fun l => l.map (concDef ι))) ∧ ∀ l, calls = some l → ∀ d, d ∈ l → idsDef ι A d
  | .gone => True

theorem concDef_agree {ι ι' : Nat → Loc} {A : Nat → Prop} (h : ∀ b, A b → ι' b = ι b) (d : ADef) (hd : idsDef ι A d) : concDef ι' d = concDef ι d := by
  cases d with
  | fn f c a => simp [concDef, concL_agree h c hd.1, concL_agree h a hd.2]
  | collected r => simp [concDef, h r hd]
theorem idsDef_mono {ι ι' : Nat → Loc} {A B : Nat → Prop} (h : ∀ b, A b → B b ∧ ι' b = ι b) (d : ADef) (hd : idsDef ι A d) : idsDef ι' B d := by
  cases d with
  | fn f c a => exact ⟨idsL_mono h c hd.1, idsL_mono h a hd.2⟩
  | collected r => exact (h r hd).1

theorem ORep.congr {ι : Nat → Loc} {A : Nat → Prop} {o : AO} {L : Loc} {w w' : World} (h : ORep ι A o L w) (hw : w'.heap[L.block]? = w.heap[L.block]?) : ORep ι A o L w' := by
  cases o <;> simp only [ORep, hw] at h ⊢ <;> exact h

theorem ORep.mono {ι ι' : Nat → Loc} {A B : Nat → Prop} {o : AO} {L : Loc} {w : World} (h : ORep ι A o L w) (k : ∀ b, A b → B b ∧ ι' b = ι b) : ORep ι' B o L w := by
  have k' : ∀ b, A b → ι' b = ι b := fun b hb => (k b hb).2
  cases o with
  | cells cs elem own sz =>
    obtain ⟨h1, h2, arr, fz, h3, h4, h5⟩ := h
    refine ⟨idsL_mono k cs h1, h2, arr, fz, h3, fun i v hv => ?_, h5⟩
    rw [conc_agree k' v (idsL_get h1 hv)]
    exact h4 i v hv
  | map es clock =>
    obtain ⟨h1, h2, h3⟩ := h
    refine ⟨h1, ?_, fun e he => ⟨ids_mono k _ (h3 e he).1, ids_mono k _ (h3 e he).2⟩⟩
    rw [h2]
    have : es.map (concEntry ι') = es.map (concEntry ι) := by
      apply List.map_congr_left
      intro e he
      simp [concEntry, conc_agree k' _ (h3 e he).1, conc_agree k' _ (h3 e he).2]
    rw [this]
  | striter s pos => exact h
  | mapiter m since seen stepped =>
    obtain ⟨h1, h2, h3⟩ := h
    refine ⟨h1, ?_, fun b hb => (k b (h3 b hb)).1⟩
    rw [h2]
    cases m with
    | none => rfl
    | some b => simp [k' b (h3 b rfl)]
  | loop l =>
    obtain ⟨h1, h2, h3, h4⟩ := h
    refine ⟨h1, ?_, idsL_mono k _ h3, (k _ h4).1⟩
    rw [h2]
    simp [concLoop, concL_agree k' _ h3, k' _ h4]
  | deferred calls =>
    obtain ⟨h1, h2, h3⟩ := h
    refine ⟨h1, ?_, fun l hl d hd => idsDef_mono k d (h3 l hl d hd)⟩
    rw [h2]
    cases calls with
    | none => rfl
    | some l =>
      have : l.map (concDef ι') = l.map (concDef ι) := List.map_congr_left fun d hd => concDef_agree k' d (h3 l rfl d hd)
      simp [this]
  | gone => trivial

theorem ORep.lt {ι : Nat → Loc} {A : Nat → Prop} {o : AO} {L : Loc} {w : World} (h : ORep ι A o L w) (ho : o ≠ .gone) : L.block < w.heap.size := by
  have key : ∀ x, w.heap[L.block]? = some x → L.block < w.heap.size := fun x hx => (Array.getElem?_eq_some_iff.1 hx).1
  cases o with
  | cells cs elem own sz => obtain ⟨_, _, arr, fz, h3, _⟩ := h; exact key _ h3
  | map es clock => exact key _ h.2.1
  | striter s pos => exact key _ h.2
  | mapiter m since seen stepped => exact key _ h.2.1
  | loop l => exact key _ h.2.1
  | deferred calls => exact key _ h.2.1
  | gone => exact (ho rfl).elim

structure Rep (D : Tab) (ι : Nat → Loc) (σ : St) (w : World) : Prop where
  len : σ.l.length = σ.n
  glob : D.nglob ≤ σ.n
  gloc : ∀ g, g < D.nglob → (ι g).block = g ∧ (ι g).shift = 0
  obj : ∀ b, b < σ.n → ORep ι (· < σ.n) (σ.getO b) (ι b) w
  sep : ∀ b b', b < σ.n → b' < σ.n → b ≠ b' → (σ.getO b).isMut = true → σ.getO b' ≠ .gone → (ι b).block ≠ (ι b').block
  mem : ∀ m, σ.M.mem m → D.memo m

structure Ext (ι : Nat → Loc) (σ : St) (w : World) (ι' : Nat → Loc) (σ' : St) (w' : World) : Prop where
  os : w'.os = w.os
  tape : w'.tape = w.tape
  output : w'.output = w.output
  size : w.heap.size ≤ w'.heap.size
  n : σ.n ≤ σ'.n
  agree : ∀ b, b < σ.n → ι' b = ι b
  frame : ∀ r, r < w.heap.size → (∀ b, b < σ.n → (σ.getO b).isMut = true → (ι b).block ≠ r) → w'.heap[r]? = w.heap[r]?
  own : ∀ b, b < σ'.n → σ'.getO b ≠ .gone → w.heap.size ≤ (ι' b).block ∨
    ∃ b0, b0 < σ.n ∧ σ.getO b0 ≠ .gone ∧ ((σ'.getO b).isMut = true → (σ.getO b0).isMut = true) ∧ (ι b0).block = (ι' b).block

theorem AO.isMut_ne {o : AO} (h : o.isMut = true) : o ≠ .gone := by intro e; rw [e] at h; simp [AO.isMut] at h

theorem Ext.ownM {ι ι' : Nat → Loc} {σ σ' : St} {w w' : World} (h : Ext ι σ w ι' σ' w') : ∀ b, b < σ'.n → (σ'.getO b).isMut = true →
    w.heap.size ≤ (ι' b).block ∨ ∃ b0, b0 < σ.n ∧ (σ.getO b0).isMut = true ∧ (ι b0).block = (ι' b).block := fun b hb hm => by
  rcases h.own b hb (AO.isMut_ne hm) with h1 | ⟨b0, h1, _, h3, h4⟩
  · exact .inl h1
  · exact .inr ⟨b0, h1, h3 hm, h4⟩

theorem Ext.refl (ι : Nat → Loc) (σ : St) (w : World) : Ext ι σ w ι σ w :=
  ⟨rfl, rfl, rfl, Nat.le_refl _, Nat.le_refl _, fun _ _ => rfl, fun _ _ _ => rfl, fun b hb hm => .inr ⟨b, hb, hm, id, rfl⟩⟩

theorem Ext.trans {ι ι' ι'' : Nat → Loc} {σ σ' σ'' : St} {w w' w'' : World} (h : Ext ι σ w ι' σ' w') (k : Ext ι' σ' w' ι'' σ'' w'') : Ext ι σ w ι'' σ'' w'' where
  os := k.os.trans h.os
  tape := k.tape.trans h.tape
  output := k.output.trans h.output
  size := Nat.le_trans h.size k.size
  n := Nat.le_trans h.n k.n
  agree := fun b hb => (k.agree b (Nat.lt_of_lt_of_le hb h.n)).trans (h.agree b hb)
  frame := fun r hr hno => by
    rw [k.frame r (Nat.lt_of_lt_of_le hr h.size) fun b hb hm he => ?_]
    · exact h.frame r hr hno
    · rcases h.ownM b hb hm with h1 | ⟨b0, h1, h2, h3⟩
      · omega
      · exact hno b0 h1 h2 (h3.trans he)
  own := fun b hb hm => by
    rcases k.own b hb hm with h1 | ⟨b0, h1, h2, h2', h3⟩
    · exact .inl (Nat.le_trans h.size h1)
    · rcases h.own b0 h1 h2 with h4 | ⟨b1, h4, h5, h5', h6⟩
      · exact .inl (h3 ▸ h4)
      · exact .inr ⟨b1, h4, h5, fun hm => h5' (h2' hm), h6.trans h3⟩

/-- what was meant is meant behind the step -/
theorem Ext.conc {ι ι' : Nat → Loc} {σ σ' : St} {w w' : World} (h : Ext ι σ w ι' σ' w') {v : AV} (hv : ids ι (· < σ.n) v) : conc ι' v = conc ι v :=
  conc_agree h.agree v hv
theorem Ext.concL {ι ι' : Nat → Loc} {σ σ' : St} {w w' : World} (h : Ext ι σ w ι' σ' w') {v : List AV} (hv : idsL ι (· < σ.n) v) : concL ι' v = concL ι v :=
  concL_agree h.agree v hv
theorem Ext.k {ι ι' : Nat → Loc} {σ σ' : St} {w w' : World} (h : Ext ι σ w ι' σ' w') : ∀ b, b < σ.n → b < σ'.n ∧ ι' b = ι b :=
  fun b hb => ⟨Nat.lt_of_lt_of_le hb h.n, h.agree b hb⟩
theorem Ext.ids {ι ι' : Nat → Loc} {σ σ' : St} {w w' : World} (h : Ext ι σ w ι' σ' w') {v : AV} (hv : ids ι (· < σ.n) v) : ids ι' (· < σ'.n) v :=
  ids_mono h.k v hv
theorem Ext.idsL {ι ι' : Nat → Loc} {σ σ' : St} {w w' : World} (h : Ext ι σ w ι' σ' w') {v : List AV} (hv : idsL ι (· < σ.n) v) : idsL ι' (· < σ'.n) v :=
  idsL_mono h.k v hv

/- the heap's own laws -/

theorem getO_push_old {σ : St} {o : AO} {b : Nat} (hb : b < σ.n) : (σ.push o).getO b = σ.getO b := by
  show (if b < σ.n + 1 then ((o :: σ.l)[σ.n + 1 - 1 - b]?).getD .gone else .gone) = (if b < σ.n then (σ.l[σ.n - 1 - b]?).getD .gone else .gone)
  rw [if_pos (by omega), if_pos hb]
  have : σ.n + 1 - 1 - b = (σ.n - 1 - b) + 1 := by omega
  rw [this]; simp
theorem getO_push_new {σ : St} {o : AO} : (σ.push o).getO σ.n = o := by
  show (if σ.n < σ.n + 1 then ((o :: σ.l)[σ.n + 1 - 1 - σ.n]?).getD .gone else .gone) = o
  simp
theorem getO_set_same {σ : St} {o : AO} {b : Nat} (hl : σ.l.length = σ.n) (hb : b < σ.n) : (σ.set b o).getO b = o := by
  show (if b < σ.n then ((σ.l.set (σ.n - 1 - b) o)[σ.n - 1 - b]?).getD .gone else .gone) = o
  rw [if_pos hb, List.getElem?_set_self (by omega)]
  rfl
theorem getO_set_other {σ : St} {o : AO} {b b' : Nat} (hb : b < σ.n) (hne : b ≠ b') : (σ.set b o).getO b' = σ.getO b' := by
  show (if b' < σ.n then ((σ.l.set (σ.n - 1 - b) o)[σ.n - 1 - b']?).getD .gone else .gone) = (if b' < σ.n then (σ.l[σ.n - 1 - b']?).getD .gone else .gone)
  by_cases h : b' < σ.n
  · rw [if_pos h, if_pos h, List.getElem?_set_ne (by omega)]
  · rw [if_neg h, if_neg h]

def upd (ι : Nat → Loc) (n : Nat) (L : Loc) : Nat → Loc := fun b => if b = n then L else ι b
theorem upd_new (ι : Nat → Loc) (n : Nat) (L : Loc) : upd ι n L n = L := by simp [upd]
theorem upd_old {ι : Nat → Loc} {n b : Nat} {L : Loc} (h : b ≠ n) : upd ι n L b = ι b := by simp [upd, h]

section
variable {D : Tab} {ι : Nat → Loc} {σ : St} {w : World}

theorem Rep.of_heap {w' : World} (h : Rep D ι σ w) (hw : w'.heap = w.heap) : Rep D ι σ w' :=
  ⟨h.len, h.glob, h.gloc, fun b hb => (h.obj b hb).congr (by rw [hw]), h.sep, h.mem⟩

theorem Rep.drew (h : Rep D ι σ w) : Rep D ι σ w.drew := h.of_heap rfl

theorem Ext.drew (ι : Nat → Loc) (σ : St) (w : World) : Ext ι σ w ι σ w.drew :=
  ⟨rfl, rfl, rfl, Nat.le_refl _, Nat.le_refl _, fun _ _ => rfl, fun _ _ _ => rfl, fun b hb hm => .inr ⟨b, hb, hm, id, rfl⟩⟩

theorem kpush {n : Nat} {L : Loc} : ∀ b, b < n → b < n + 1 ∧ upd ι n L b = ι b := fun b hb => ⟨by omega, upd_old (by omega)⟩

/-- a new block -/
theorem Rep.push (h : Rep D ι σ w) {o : AO} {ob : Obj} {L : Loc} (hL : L.block = w.heap.size)
    (ho : ORep (upd ι σ.n L) (· < σ.n + 1) o L (w.alloc ob)) :
    Rep D (upd ι σ.n L) (σ.push o) (w.alloc ob) ∧ Ext ι σ w (upd ι σ.n L) (σ.push o) (w.alloc ob) := by
  have hold : ∀ r, r < w.heap.size → (w.alloc ob).heap[r]? = w.heap[r]? := fun r hr => by
    show (w.heap.push ob)[r]? = _
    rw [Array.getElem?_push, if_neg (by omega)]
  have hobj : ∀ b, b < σ.n → ORep (upd ι σ.n L) (· < σ.n + 1) (σ.getO b) (ι b) (w.alloc ob) := fun b hb => by
    by_cases hg : σ.getO b = .gone
    · rw [hg]; trivial
    · exact ((h.obj b hb).mono kpush).congr (hold _ ((h.obj b hb).lt hg))
  refine ⟨⟨by simp [St.push, h.len], Nat.le_succ_of_le h.glob, fun g hg => ?_, fun b hb => ?_, fun b b' hb hb' hne hm hg => ?_, h.mem⟩, ?_⟩
  · rw [upd_old (by have := h.glob; omega)]; exact h.gloc g hg
  · by_cases he : b = σ.n
    · subst he; rw [getO_push_new, upd_new]; exact ho
    · have hb1 : b < σ.n := by simp only [St.push] at hb; omega
      rw [getO_push_old hb1, upd_old he]
      exact hobj b hb1
  · simp only [St.push] at hb hb'
    by_cases he : b = σ.n
    · subst he
      have hb1 : b' < σ.n := by omega
      rw [getO_push_old hb1] at hg
      rw [upd_new, upd_old (by omega), hL]
      have := (h.obj b' hb1).lt hg
      omega
    · have hb1 : b < σ.n := by omega
      rw [getO_push_old hb1] at hm
      have hg1 : σ.getO b ≠ .gone := by intro e; rw [e] at hm; simp [AO.isMut] at hm
      have hlt := (h.obj b hb1).lt hg1
      by_cases he' : b' = σ.n
      · subst he'; rw [upd_new, upd_old he, hL]; omega
      · have hb2 : b' < σ.n := by omega
        rw [getO_push_old hb2] at hg
        rw [upd_old he, upd_old he']
        exact h.sep b b' hb1 hb2 hne hm hg
  · refine ⟨rfl, rfl, rfl, by simp, by simp [St.push], fun b hb => upd_old (by omega), fun r hr _ => hold r hr, fun b hb hm => ?_⟩
    simp only [St.push] at hb
    by_cases he : b = σ.n
    · subst he; left; rw [upd_new, hL]; exact Nat.le_refl _
    · right
      have hb1 : b < σ.n := by omega
      rw [getO_push_old hb1] at hm ⊢
      exact ⟨b, hb1, hm, id, (by rw [upd_old he])⟩

/-- a block is written in place -/
theorem Rep.set (h : Rep D ι σ w) {b : Nat} {o : AO} {w' : World} (hb : b < σ.n) (hm : (σ.getO b).isMut = true)
    (hs : w'.heap.size = w.heap.size) (hw : ∀ r, r ≠ (ι b).block → w'.heap[r]? = w.heap[r]?)
    (hos : w'.os = w.os ∧ w'.tape = w.tape ∧ w'.output = w.output)
    (ho : ORep ι (· < σ.n) o (ι b) w') : Rep D ι (σ.set b o) w' ∧ Ext ι σ w ι (σ.set b o) w' := by
  refine ⟨⟨by simp [St.set, h.len], h.glob, h.gloc, fun b' hb' => ?_, fun b1 b2 hb1 hb2 hne hm1 hg2 => ?_, h.mem⟩, ?_⟩
  · change b' < σ.n at hb'
    by_cases he : b = b'
    · subst he; rw [getO_set_same h.len hb]; exact ho
    · rw [getO_set_other hb he]
      by_cases hg : σ.getO b' = .gone
      · rw [hg]; trivial
      · exact (h.obj b' hb').congr (hw _ fun e => h.sep b b' hb hb' he hm hg e.symm)
  · change b1 < σ.n at hb1
    change b2 < σ.n at hb2
    by_cases he1 : b = b1
    · subst he1
      rw [getO_set_other hb hne] at hg2
      exact h.sep b b2 hb hb2 hne hm hg2
    · rw [getO_set_other hb he1] at hm1
      by_cases he2 : b = b2
      · subst he2
        exact h.sep b1 b hb1 hb hne hm1 (by intro e; rw [e] at hm; simp [AO.isMut] at hm)
      · rw [getO_set_other hb he2] at hg2
        exact h.sep b1 b2 hb1 hb2 hne hm1 hg2
  · refine ⟨hos.1, hos.2.1, hos.2.2, by omega, Nat.le_refl _, fun _ _ => rfl, fun r hr hno => hw r fun e => hno b hb hm e.symm, fun b' hb' hm' => ?_⟩
    change b' < σ.n at hb'
    right
    by_cases he : b = b'
    · subst he; exact ⟨b, hb, AO.isMut_ne hm, fun _ => hm, rfl⟩
    · rw [getO_set_other hb he] at hm' ⊢
      exact ⟨b', hb', hm', id, rfl⟩

/-- what is known of a block may be forgotten -/
theorem Rep.forget (h : Rep D ι σ w) {b : Nat} (hb : b < σ.n) : Rep D ι (σ.set b .gone) w := by
  refine ⟨by simp [St.set, h.len], h.glob, h.gloc, fun b' hb' => ?_, fun b1 b2 hb1 hb2 hne hm1 hg2 => ?_, h.mem⟩
  · change b' < σ.n at hb'
    by_cases he : b = b'
    · subst he; rw [getO_set_same h.len hb]; trivial
    · rw [getO_set_other hb he]; exact h.obj b' hb'
  · change b1 < σ.n at hb1
    change b2 < σ.n at hb2
    by_cases he1 : b = b1
    · subst he1; rw [getO_set_same h.len hb] at hm1; simp [AO.isMut] at hm1
    · rw [getO_set_other hb he1] at hm1
      by_cases he2 : b = b2
      · subst he2; rw [getO_set_same h.len hb] at hg2; exact (hg2 rfl).elim
      · rw [getO_set_other hb he2] at hg2
        exact h.sep b1 b2 hb1 hb2 hne hm1 hg2

end
end Go.Dt
