/-
  What the deterministic reading's heap says of the model's memory. No statement of this seat stands here.
-/
import Derived.Test.YtkpkmjanikkpoaaGreatDoorP01
import Derived.Laws.World
import Derived.Calls
import Derived.Laws.BytesString
import Derived.Laws.Cells
import Derived.IntWalk
namespace Go.Dt

def concDef (ι : Nat → Loc) : ADef → Deferred
  | .fn fn cap args => { target := .fn fn (concL ι cap).toArray, args := (concL ι args).toArray }
  | .collected r => { target := .collected (ι r).block, args := #[] }
def idsDef (ι : Nat → Loc) (A : Nat → Prop) : ADef → Prop
  | .fn _ cap args => idsL ι A cap ∧ idsL ι A args
  | .collected r => A r

def concEntry (ι : Nat → Loc) (e : AV × AV × Nat) : MapEntry := { key := conc ι e.1, val := conc ι e.2.1, born := e.2.2 }
def concLoop (ι : Nat → Loc) (l : ALoop) : Loop :=
  { state := l.state, pending := l.pending, fn := l.fn, tmps := (concL ι l.T).toArray, params := l.params.toArray, assign := l.assign, body := l.body, defers := (ι l.defers).block }

def AO.isMut : AO → Bool
  | .cells _ _ own _ => own
  | .gone => false
  | _ => true

def ORep (ι : Nat → Loc) (A : Nat → Prop) (o : AO) (L : Loc) (w : World) : Prop :=
  match o with
  | .cells cs elem own sz => idsL ι A cs ∧ L.sz = sz ∧ ∃ arr fz, w.heap[L.block]? = some (.cells arr elem fz) ∧
      (∀ i v, cs[i]? = some v → arr[L.shift + i]? = some (conc ι v)) ∧ (own = true → fz = (0, 0) ∧ L.shift + L.capz * sz ≤ arr.size ∧ sz ∣ L.shift)
  | .map es clock => L.shift = 0 ∧ w.heap[L.block]? = some (.map (es.map (concEntry ι)).toArray clock) ∧ ∀ e, e ∈ es → ids ι A e.1 ∧ ids ι A e.2.1
  | .striter s pos => L.shift = 0 ∧ w.heap[L.block]? = some (.stringIter ⟨⟨s⟩⟩ pos)
  | .mapiter m since seen stepped => L.shift = 0 ∧ w.heap[L.block]? = some (.mapIter (m.map fun b => (ι b).block) since seen.toArray stepped) ∧ ∀ b, m = some b → A b
  | .loop l => L.shift = 0 ∧ w.heap[L.block]? = some (.loop (concLoop ι l)) ∧ idsL ι A l.T ∧ A l.defers
  | .deferred calls => L.shift = 0 ∧ w.heap[L.block]? = some (.deferred (calls.map fun l => l.map (concDef ι))) ∧ ∀ l, calls = some l → ∀ d, d ∈ l → idsDef ι A d
  | .gone => True

theorem concDef_agree {ι ι' : Nat → Loc} {A : Nat → Prop} (h : ∀ b, A b → ι' b = ι b) (d : ADef) (hd : idsDef ι A d) : concDef ι' d = concDef ι d := by
  cases d with
  | fn f c a => simp [concDef, concL_agree h c hd.1, concL_agree h a hd.2]
  | collected r => simp [concDef, h r hd]
theorem idsDef_mono {ι ι' : Nat → Loc} {A B : Nat → Prop} (h : ∀ b, A b → B b ∧ ι' b = ι b) (d : ADef) (hd : idsDef ι A d) : idsDef ι' B d := by
  cases d with
  | fn f c a => exact ⟨idsL_mono h c hd.1, idsL_mono h a hd.2⟩
  | collected r => exact (h r hd).1

theorem ORep.congr {ι : Nat → Loc} {A : Nat → Prop} {o : AO} {L : Loc} {w w' : World} (h : ORep ι A o L w) (hw : w'.heap[L.block]? = w.heap[L.block]?) : ORep ι A o L w' := by
  cases o <;> simp only [ORep, hw] at h ⊢ <;> exact h

theorem ORep.mono {ι ι' : Nat → Loc} {A B : Nat → Prop} {o : AO} {L : Loc} {w : World} (h : ORep ι A o L w) (k : ∀ b, A b → B b ∧ ι' b = ι b) : ORep ι' B o L w := by
  have k' : ∀ b, A b → ι' b = ι b := fun b hb => (k b hb).2
  cases o with
  | cells cs elem own sz =>
    obtain ⟨h1, h2, arr, fz, h3, h4, h5⟩ := h
    refine ⟨idsL_mono k cs h1, h2, arr, fz, h3, fun i v hv => ?_, h5⟩
    rw [conc_agree k' v (idsL_get h1 hv)]
    exact h4 i v hv
  | map es clock =>
    obtain ⟨h1, h2, h3⟩ := h
    refine ⟨h1, ?_, fun e he => ⟨ids_mono k _ (h3 e he).1, ids_mono k _ (h3 e he).2⟩⟩
    rw [h2]
    have : es.map (concEntry ι') = es.map (concEntry ι) := by
      apply List.map_congr_left
      intro e he
      simp [concEntry, conc_agree k' _ (h3 e he).1, conc_agree k' _ (h3 e he).2]
    rw [this]
  | striter s pos => exact h
  | mapiter m since seen stepped =>
    obtain ⟨h1, h2, h3⟩ := h
    refine ⟨h1, ?_, fun b hb => (k b (h3 b hb)).1⟩
    rw [h2]
    cases m with
    | none => rfl
    | some b => simp [k' b (h3 b rfl)]
  | loop l =>
    obtain ⟨h1, h2, h3, h4⟩ := h
    refine ⟨h1, ?_, idsL_mono k _ h3, (k _ h4).1⟩
    rw [h2]
    simp [concLoop, concL_agree k' _ h3, k' _ h4]
  | deferred calls =>
    obtain ⟨h1, h2, h3⟩ := h
    refine ⟨h1, ?_, fun l hl d hd => idsDef_mono k d (h3 l hl d hd)⟩
    rw [h2]
    cases calls with
    | none => rfl
    | some l =>
      have : l.map (concDef ι') = l.map (concDef ι) := List.map_congr_left fun d hd => concDef_agree k' d (h3 l rfl d hd)
      simp [this]
  | gone => trivial

theorem ORep.lt {ι : Nat → Loc} {A : Nat → Prop} {o : AO} {L : Loc} {w : World} (h : ORep ι A o L w) (ho : o ≠ .gone) : L.block < w.heap.size := by
  have key : ∀ x, w.heap[L.block]? = some x → L.block < w.heap.size := fun x hx => (Array.getElem?_eq_some_iff.1 hx).1
  cases o with
  | cells cs elem own sz => obtain ⟨_, _, arr, fz, h3, _⟩ := h; exact key _ h3
  | map es clock => exact key _ h.2.1
  | striter s pos => exact key _ h.2
  | mapiter m since seen stepped => exact key _ h.2.1
  | loop l => exact key _ h.2.1
  | deferred calls => exact key _ h.2.1
  | gone => exact (ho rfl).elim

structure Rep (D : Tab) (ι : Nat → Loc) (σ : St) (w : World) : Prop where
  len : σ.l.length = σ.n
  glob : D.nglob ≤ σ.n
  gloc : ∀ g, g < D.nglob → (ι g).block = g ∧ (ι g).shift = 0
  obj : ∀ b, b < σ.n → ORep ι (· < σ.n) (σ.getO b) (ι b) w
  sep : ∀ b b', b < σ.n → b' < σ.n → b ≠ b' → (σ.getO b).isMut = true → σ.getO b' ≠ .gone → (ι b).block ≠ (ι b').block
  mem : ∀ m, σ.M.mem m → D.memo m

structure Ext (ι : Nat → Loc) (σ : St) (w : World) (ι' : Nat → Loc) (σ' : St) (w' : World) : Prop where
  os : w'.os = w.os
  tape : w'.tape = w.tape
  output : w'.output = w.output
  size : w.heap.size ≤ w'.heap.size
  n : σ.n ≤ σ'.n
  agree : ∀ b, b < σ.n → ι' b = ι b
  frame : ∀ r, r < w.heap.size → (∀ b, b < σ.n → (σ.getO b).isMut = true → (ι b).block ≠ r) → w'.heap[r]? = w.heap[r]?
  own : ∀ b, b < σ'.n → σ'.getO b ≠ .gone → w.heap.size ≤ (ι' b).block ∨
    ∃ b0, b0 < σ.n ∧ σ.getO b0 ≠ .gone ∧ ((σ'.getO b).isMut = true → (σ.getO b0).isMut = true) ∧ (ι b0).block = (ι' b).block

theorem AO.isMut_ne {o : AO} (h : o.isMut = true) : o ≠ .gone := by intro e; rw [e] at h; simp [AO.isMut] at h

theorem Ext.ownM {ι ι' : Nat → Loc} {σ σ' : St} {w w' : World} (h : Ext ι σ w ι' σ' w') : ∀ b, b < σ'.n → (σ'.getO b).isMut = true →
    w.heap.size ≤ (ι' b).block ∨ ∃ b0, b0 < σ.n ∧ (σ.getO b0).isMut = true ∧ (ι b0).block = (ι' b).block := fun b hb hm => by
  rcases h.own b hb (AO.isMut_ne hm) with h1 | ⟨b0, h1, _, h3, h4⟩
  · exact .inl h1
  · exact .inr ⟨b0, h1, h3 hm, h4⟩

theorem Ext.refl (ι : Nat → Loc) (σ : St) (w : World) : Ext ι σ w ι σ w :=
  ⟨rfl, rfl, rfl, Nat.le_refl _, Nat.le_refl _, fun _ _ => rfl, fun _ _ _ => rfl, fun b hb hm => .inr ⟨b, hb, hm, id, rfl⟩⟩

theorem Ext.trans {ι ι' ι'' : Nat → Loc} {σ σ' σ'' : St} {w w' w'' : World} (h : Ext ι σ w ι' σ' w') (k : Ext ι' σ' w' ι'' σ'' w'') : Ext ι σ w ι'' σ'' w'' where
  os := k.os.trans h.os
  tape := k.tape.trans h.tape
  output := k.output.trans h.output
  size := Nat.le_trans h.size k.size
  n := Nat.le_trans h.n k.n
  agree := fun b hb => (k.agree b (Nat.lt_of_lt_of_le hb h.n)).trans (h.agree b hb)
  frame := fun r hr hno => by
    rw [k.frame r (Nat.lt_of_lt_of_le hr h.size) fun b hb hm he => ?_]
    · exact h.frame r hr hno
    · rcases h.ownM b hb hm with h1 | ⟨b0, h1, h2, h3⟩
      · omega
      · exact hno b0 h1 h2 (h3.trans he)
  own := fun b hb hm => by
    rcases k.own b hb hm with h1 | ⟨b0, h1, h2, h2', h3⟩
    · exact .inl (Nat.le_trans h.size h1)
    · rcases h.own b0 h1 h2 with h4 | ⟨b1, h4, h5, h5', h6⟩
      · exact .inl (h3 ▸ h4)
      · exact .inr ⟨b1, h4, h5, fun hm => h5' (h2' hm), h6.trans h3⟩

/-- what was meant is meant behind the step -/
theorem Ext.conc {ι ι' : Nat → Loc} {σ σ' : St} {w w' : World} (h : Ext ι σ w ι' σ' w') {v : AV} (hv : ids ι (· < σ.n) v) : conc ι' v = conc ι v :=
  conc_agree h.agree v hv
theorem Ext.concL {ι ι' : Nat → Loc} {σ σ' : St} {w w' : World} (h : Ext ι σ w ι' σ' w') {v : List AV} (hv : idsL ι (· < σ.n) v) : concL ι' v = concL ι v :=
  concL_agree h.agree v hv
theorem Ext.k {ι ι' : Nat → Loc} {σ σ' : St} {w w' : World} (h : Ext ι σ w ι' σ' w') : ∀ b, b < σ.n → b < σ'.n ∧ ι' b = ι b :=
  fun b hb => ⟨Nat.lt_of_lt_of_le hb h.n, h.agree b hb⟩
theorem Ext.ids {ι ι' : Nat → Loc} {σ σ' : St} {w w' : World} (h : Ext ι σ w ι' σ' w') {v : AV} (hv : ids ι (· < σ.n) v) : ids ι' (· < σ'.n) v :=
  ids_mono h.k v hv
theorem Ext.idsL {ι ι' : Nat → Loc} {σ σ' : St} {w w' : World} (h : Ext ι σ w ι' σ' w') {v : List AV} (hv : idsL ι (· < σ.n) v) : idsL ι' (· < σ'.n) v :=
  idsL_mono h.k v hv

/- the heap's own laws -/

theorem getO_push_old {σ : St} {o : AO} {b : Nat} (hb : b < σ.n) : (σ.push o).getO b = σ.getO b := by
  show (if b < σ.n + 1 then ((o :: σ.l)[σ.n + 1 - 1 - b]?).getD .gone else .gone) = (if b < σ.n then (σ.l[σ.n - 1 - b]?).getD .gone else .gone)
  rw [if_pos (by omega), if_pos hb]
  have : σ.n + 1 - 1 - b = (σ.n - 1 - b) + 1 := by omega
  rw [this]; simp
theorem getO_push_new {σ : St} {o : AO} : (σ.push o).getO σ.n = o := by
  show (if σ.n < σ.n + 1 then ((o :: σ.l)[σ.n + 1 - 1 - σ.n]?).getD .gone else .gone) = o
  simp
theorem getO_set_same {σ : St} {o : AO} {b : Nat} (hl : σ.l.length = σ.n) (hb : b < σ.n) : (σ.set b o).getO b = o := by
  show (if b < σ.n then ((σ.l.set (σ.n - 1 - b) o)[σ.n - 1 - b]?).getD .gone else .gone) = o
  rw [if_pos hb, List.getElem?_set_self (by omega)]
  rfl
theorem getO_set_other {σ : St} {o : AO} {b b' : Nat} (hb : b < σ.n) (hne : b ≠ b') : (σ.set b o).getO b' = σ.getO b' := by
  show (if b' < σ.n then ((σ.l.set (σ.n - 1 - b) o)[σ.n - 1 - b']?).getD .gone else .gone) = (if b' < σ.n then (σ.l[σ.n - 1 - b']?).getD .gone else .gone)
  by_cases h : b' < σ.n
  · rw [if_pos h, if_pos h, List.getElem?_set_ne (by omega)]
  · rw [if_neg h, if_neg h]

def upd (ι : Nat → Loc) (n : Nat) (L : Loc) : Nat → Loc := fun b => if b = n then L else ι b
theorem upd_new (ι : Nat → Loc) (n : Nat) (L : Loc) : upd ι n L n = L := by simp [upd]
theorem upd_old {ι : Nat → Loc} {n b : Nat} {L : Loc} (h : b ≠ n) : upd ι n L b = ι b := by simp [upd, h]

section
variable {D : Tab} {ι : Nat → Loc} {σ : St} {w : World}

theorem Rep.of_heap {w' : World} (h : Rep D ι σ w) (hw : w'.heap = w.heap) : Rep D ι σ w' :=
  ⟨h.len, h.glob, h.gloc, fun b hb => (h.obj b hb).congr (by rw [hw]), h.sep, h.mem⟩

theorem Rep.drew (h : Rep D ι σ w) : Rep D ι σ w.drew := h.of_heap rfl

theorem Ext.drew (ι : Nat → Loc) (σ : St) (w : World) : Ext ι σ w ι σ w.drew :=
  ⟨rfl, rfl, rfl, Nat.le_refl _, Nat.le_refl _, fun _ _ => rfl, fun _ _ _ => rfl, fun b hb hm => .inr ⟨b, hb, hm, id, rfl⟩⟩

theorem kpush {n : Nat} {L : Loc} : ∀ b, b < n → b < n + 1 ∧ upd ι n L b = ι b := fun b hb => ⟨by omega, upd_old (by omega)⟩

/-- a new block -/
theorem Rep.push (h : Rep D ι σ w) {o : AO} {ob : Obj} {L : Loc} (hL : L.block = w.heap.size)
    (ho : ORep (upd ι σ.n L) (· < σ.n + 1) o L (w.alloc ob)) :
    Rep D (upd ι σ.n L) (σ.push o) (w.alloc ob) ∧ Ext ι σ w (upd ι σ.n L) (σ.push o) (w.alloc ob) := by
  have hold : ∀ r, r < w.heap.size → (w.alloc ob).heap[r]? = w.heap[r]? := fun r hr => by
    show (w.heap.push ob)[r]? = _
    rw [Array.getElem?_push, if_neg (by omega)]
  have hobj : ∀ b, b < σ.n → ORep (upd ι σ.n L) (· < σ.n + 1) (σ.getO b) (ι b) (w.alloc ob) := fun b hb => by
    by_cases hg : σ.getO b = .gone
    · rw [hg]; trivial
    · exact ((h.obj b hb).mono kpush).congr (hold _ ((h.obj b hb).lt hg))
  refine ⟨⟨by simp [St.push, h.len], Nat.le_succ_of_le h.glob, fun g hg => ?_, fun b hb => ?_, fun b b' hb hb' hne hm hg => ?_, h.mem⟩, ?_⟩
  · rw [upd_old (by have := h.glob; omega)]; exact h.gloc g hg
  · by_cases he : b = σ.n
    · subst he; rw [getO_push_new, upd_new]; exact ho
    · have hb1 : b < σ.n := by simp only [St.push] at hb; omega
      rw [getO_push_old hb1, upd_old he]
      exact hobj b hb1
  · simp only [St.push] at hb hb'
    by_cases he : b = σ.n
    · subst he
      have hb1 : b' < σ.n := by omega
      rw [getO_push_old hb1] at hg
      rw [upd_new, upd_old (by omega), hL]
      have := (h.obj b' hb1).lt hg
      omega
    · have hb1 : b < σ.n := by omega
      rw [getO_push_old hb1] at hm
      have hg1 : σ.getO b ≠ .gone := by intro e; rw [e] at hm; simp [AO.isMut] at hm
      have hlt := (h.obj b hb1).lt hg1
      by_cases he' : b' = σ.n
      · subst he'; rw [upd_new, upd_old he, hL]; omega
      · have hb2 : b' < σ.n := by omega
        rw [getO_push_old hb2] at hg
        rw [upd_old he, upd_old he']
        exact h.sep b b' hb1 hb2 hne hm hg
  · refine ⟨rfl, rfl, rfl, by simp, by simp [St.push], fun b hb => upd_old (by omega), fun r hr _ => hold r hr, fun b hb hm => ?_⟩
    simp only [St.push] at hb
    by_cases he : b = σ.n
    · subst he; left; rw [upd_new, hL]; exact Nat.le_refl _
    · right
      have hb1 : b < σ.n := by omega
      rw [getO_push_old hb1] at hm ⊢
      exact ⟨b, hb1, hm, id, (by rw [upd_old he])⟩

/-- a block is written in place -/
theorem Rep.set (h : Rep D ι σ w) {b : Nat} {o : AO} {w' : World} (hb : b < σ.n) (hm : (σ.getO b).isMut = true)
    (hs : w'.heap.size = w.heap.size) (hw : ∀ r, r ≠ (ι b).block → w'.heap[r]? = w.heap[r]?)
    (hos : w'.os = w.os ∧ w'.tape = w.tape ∧ w'.output = w.output)
    (ho : ORep ι (· < σ.n) o (ι b) w') : Rep D ι (σ.set b o) w' ∧ Ext ι σ w ι (σ.set b o) w' := by
  refine ⟨⟨by simp [St.set, h.len], h.glob, h.gloc, fun b' hb' => ?_, fun b1 b2 hb1 hb2 hne hm1 hg2 => ?_, h.mem⟩, ?_⟩
  · change b' < σ.n at hb'
    by_cases he : b = b'
    · subst he; rw [getO_set_same h.len hb]; exact ho
    · rw [getO_set_other hb he]
      by_cases hg : σ.getO b' = .gone
      · rw [hg]; trivial
      · exact (h.obj b' hb').congr (hw _ fun e => h.sep b b' hb hb' he hm hg e.symm)
  · change b1 < σ.n at hb1
    change b2 < σ.n at hb2
    by_cases he1 : b = b1
    · subst he1
      rw [getO_set_other hb hne] at hg2
      exact h.sep b b2 hb hb2 hne hm hg2
    · rw [getO_set_other hb he1] at hm1
      by_cases he2 : b = b2
      · subst he2
        exact h.sep b1 b hb1 hb hne hm1 (by intro e; rw [e] at hm; simp [AO.isMut] at hm)
      · rw [getO_set_other hb he2] at hg2
        exact h.sep b1 b2 hb1 hb2 hne hm1 hg2
  · refine ⟨hos.1, hos.2.1, hos.2.2, by omega, Nat.le_refl _, fun _ _ => rfl, fun r hr hno => hw r fun e => hno b hb hm e.symm, fun b' hb' hm' => ?_⟩
    change b' < σ.n at hb'
    right
    by_cases he : b = b'
    · subst he; exact ⟨b, hb, AO.isMut_ne hm, fun _ => hm, rfl⟩
    · rw [getO_set_other hb he] at hm' ⊢
      exact ⟨b', hb', hm', id, rfl⟩

/-- what is known of a block may be forgotten -/
theorem Rep.forget (h : Rep D ι σ w) {b : Nat} (hb : b < σ.n) : Rep D ι (σ.set b .gone) w := by
  refine ⟨by simp [St.set, h.len], h.glob, h.gloc, fun b' hb' => ?_, fun b1 b2 hb1 hb2 hne hm1 hg2 => ?_, h.mem⟩
  · change b' < σ.n at hb'
    by_cases he : b = b'
    · subst he; rw [getO_set_same h.len hb]; trivial
    · rw [getO_set_other hb he]; exact h.obj b' hb'
  · change b1 < σ.n at hb1
    change b2 < σ.n at hb2
    by_cases he1 : b = b1
    · subst he1; rw [getO_set_same h.len hb] at hm1; simp [AO.isMut] at hm1
    · rw [getO_set_other hb he1] at hm1
      by_cases he2 : b = b2
      · subst he2; rw [getO_set_same h.len hb] at hg2; exact (hg2 rfl).elim
      · rw [getO_set_other hb he2] at hg2
        exact h.sep b1 b2 hb1 hb2 hne hm1 hg2

end
end Go.Dt
namespace Go.Dt
section
variable {D : Tab} {P : Program} (F : Fits D P) {ι : Nat → Loc} {σ : St} {w : World}

theorem cellsOf_ok {b : Nat} {cs : List AV} (h : cellsOf σ b = .ok cs) : b < σ.n ∧ ∃ elem own sz, σ.getO b = .cells cs elem own sz := by
  unfold cellsOf at h
  split at h
  · rename_i hb
    split at h
    · rename_i cs' e o s heq
      simp at h; subst h
      exact ⟨hb, e, o, s, heq⟩
    · simp at h
  · simp at h

theorem Rep.cell (R : Rep D ι σ w) {b i : Nat} {cs : List AV} {elem : TypeId} {own : Bool} {sz : Nat} {v : AV} (hb : b < σ.n)
    (ho : σ.getO b = .cells cs elem own sz) (hv : cs[i]? = some v) : w.cell? ((ι b).at i) = some (conc ι v) ∧ ids ι (· < σ.n) v := by
  have := R.obj b hb
  rw [ho] at this
  obtain ⟨h1, h2, arr, fz, h3, h4, h5⟩ := this
  refine ⟨?_, idsL_get h1 hv⟩
  simp only [World.cell?, Loc.at, h3]
  simpa using h4 i v hv

theorem takeN_ok {cs l : List AV} {o n : Nat} (h : takeN cs o n = .ok l) : l = (cs.drop o).take n ∧ l.length = n := by
  unfold takeN at h
  split at h
  · rename_i hl
    simp at h; subst h; exact ⟨rfl, hl⟩
  · simp at h

theorem Rep.loadCells (R : Rep D ι σ w) {b o n : Nat} {cs l : List AV} {elem : TypeId} {own : Bool} {sz : Nat} (hb : b < σ.n)
    (ho : σ.getO b = .cells cs elem own sz) (hl : takeN cs o n = .ok l) :
    (Go.loadCells ((ι b).at o) n).run P w = .ok (concL ι l).toArray w ∧ idsL ι (· < σ.n) l := by
  obtain ⟨h1, h2⟩ := takeN_ok hl
  have hids : idsL ι (· < σ.n) cs := by
    have := R.obj b hb
    rw [ho] at this
    exact this.1
  refine ⟨?_, by rw [h1]; exact idsL_take (idsL_drop hids _) _⟩
  have := run_loadCells_list (P := P) w ((ι b).at o) (concL ι l) (fun j v hj => by
    rw [at_add]
    simp only [concL_getElem?, Option.map_eq_some_iff] at hj
    obtain ⟨x, hx, rfl⟩ := hj
    refine (R.cell hb ho ?_).1
    rw [h1] at hx
    rw [List.getElem?_take] at hx
    split at hx
    · simpa using hx
    · simp at hx)
  simpa [h2] using this

include F
theorem run_loadV (R : Rep D ι σ w) {t : Nat} {a v : AV} (h : loadV D σ t a = .ok v) :
    (Instr.loadAt t (conc ι a)).run P w = .ok (conc ι v) w ∧ ids ι (· < σ.n) v := by
  unfold loadV at h
  split at h
  · rename_i b o
    simp only [bind_ok] at h
    obtain ⟨cs, hcs, d, hd, h⟩ := h
    obtain ⟨hb, elem, own, sz, ho⟩ := cellsOf_ok hcs
    simp only [Instr.loadAt, conc, Instr.sureAddr, Sem.run_bind, Sem.run_pure, Result.andThen_ok, loadVar, run_isAgg F w hd, Sem.run_ite]
    split at h
    · rename_i hagg
      simp only [bind_ok, pure_ok] at h
      obtain ⟨n, hn, l, hl, rfl⟩ := h
      have := R.loadCells (P := P) hb ho hl
      rw [if_pos hagg]
      simp only [run_size F w hn, Result.andThen_ok, this.1, conc]
      exact ⟨trivial, this.2⟩
    · rename_i hagg
      rw [if_neg hagg]
      split at h
      · rename_i x hx
        simp at h; subst h
        have := R.cell hb ho hx
        exact ⟨by simp [this.1], this.2⟩
      · simp at h
  · simp at h

/- maps -/

omit F in
theorem mapOf_ok (R : Rep D ι σ w) {x : AV} {es : List (AV × AV × Nat)} {clock : Nat} (h : mapOf σ x = .ok (es, clock)) :
    (∀ e, e ∈ es → ids ι (· < σ.n) e.1 ∧ ids ι (· < σ.n) e.2.1) ∧
    ((x = .base (.map none) ∧ es = []) ∨ ∃ b, x = .mapv b ∧ b < σ.n ∧ σ.getO b = .map es clock ∧ (ι b).shift = 0 ∧ w.heap[(ι b).block]? = some (.map (es.map (concEntry ι)).toArray clock)) := by
  unfold mapOf at h
  split at h
  · simp at h; obtain ⟨rfl, rfl⟩ := h; simp
  · rename_i b
    split at h
    · rename_i hb
      split at h
      · rename_i es' cl heq
        simp at h
        obtain ⟨rfl, rfl⟩ := h
        have := R.obj b hb
        rw [heq] at this
        exact ⟨this.2.2, .inr ⟨b, rfl, hb, heq, this.1, this.2.1⟩⟩
      · simp at h
    · simp at h
  · simp at h

theorem run_checkFields {d n : Nat} {emp : Bool} {rec_ : Nat → AV → AV → R Bool}
    (hrec : ∀ t x, plainKey D d t = true → rec_ t x x = .ok true → (Instr.checkKey emp n t (conc ι x)).run P w = .ok () w) {xs : List AV} :
    ∀ (fs : List Field), plainFields (plainKey D d) fs = true → eqFields D rec_ xs xs fs = .ok true →
      ((forIn fs PUnit.unit fun f _ =>
          if f.name ≠ "_" then do
            let a ← Go.part f.type (concL ι xs).toArray f.offset
            Instr.checkKey emp n f.type a
            pure (ForInStep.yield PUnit.unit)
          else pure (ForInStep.yield PUnit.unit)) : Sem PUnit).run P w = .ok PUnit.unit w := by
  intro fs
  induction fs with
  | nil => intro _ _; simp
  | cons f fs ih =>
    intro hp h
    simp only [plainFields, Bool.and_eq_true, bne_iff_ne] at hp
    obtain ⟨⟨hn, hf⟩, hfs⟩ := hp
    simp only [eqFields] at h
    rw [if_neg hn] at h
    simp only [bind_ok] at h
    obtain ⟨x, hx, y, hy, r, hr, h⟩ := h
    have hxy : x = y := by rw [hx] at hy; simpa using hy
    subst hxy
    cases r with
    | false => simp at h
    | true =>
      have h' : eqFields D rec_ xs xs fs = .ok true := by simpa using h
      have := hrec _ _ hf hr
      simp only [List.forIn_cons, Sem.run_bind, hn, ne_eq, not_false_eq_true, if_true, run_part F w hx, Result.andThen_ok, this, Sem.run_pure]
      exact ih hfs h'

theorem run_checkElems {d n : Nat} {emp : Bool} {rec_ : Nat → AV → AV → R Bool} {elem sz : Nat} (hp : plainKey D d elem = true) (hsz : size D elem = .ok sz)
    (hrec : ∀ t x, plainKey D d t = true → rec_ t x x = .ok true → (Instr.checkKey emp n t (conc ι x)).run P w = .ok () w) {xs : List AV} :
    ∀ (m i : Nat), eqElems D rec_ elem sz xs xs m i = .ok true →
      ((forIn (List.range' i m) PUnit.unit fun i _ => do
          let s ← sizeOf elem
          let a ← Go.part elem (concL ι xs).toArray (i * s)
          Instr.checkKey emp n elem a
          pure (ForInStep.yield PUnit.unit)) : Sem PUnit).run P w = .ok PUnit.unit w := by
  intro m
  induction m with
  | zero => intro i _; simp
  | succ m ih =>
    intro i h
    simp only [eqElems, bind_ok] at h
    obtain ⟨x, hx, y, hy, r, hr, h⟩ := h
    have hxy : x = y := by rw [hx] at hy; simpa using hy
    subst hxy
    cases r with
    | false => simp at h
    | true =>
      have h' : eqElems D rec_ elem sz xs xs m (i + 1) = .ok true := by simpa using h
      have := hrec _ _ hp hr
      simp only [List.range'_succ, List.forIn_cons, Sem.run_bind, run_size F w hsz, run_part F w hx, Result.andThen_ok, this, Sem.run_pure]
      exact ih _ h'

theorem run_checkKey {emp : Bool} : ∀ (d n t : Nat) (x : AV) (k : Nat), plainKey D d t = true → eqV D k t x x = .ok true → d ≤ n →
    (Instr.checkKey emp n t (conc ι x)).run P w = .ok () w := by
  intro d
  induction d with
  | zero => intro n t x k h; simp [plainKey] at h
  | succ d ih =>
    intro n t x k h hk hn
    obtain ⟨n, rfl⟩ : ∃ j, n = j + 1 := ⟨n - 1, by omega⟩
    obtain ⟨k, rfl⟩ : ∃ j, k = j + 1 := ⟨k - 1, by cases k with | zero => simp [eqV] at hk | succ k => simp⟩
    unfold plainKey at h
    simp only [eqV, bind_ok] at hk
    obtain ⟨ty, hty, hk⟩ := hk
    rw [hty] at h
    simp only [Instr.checkKey, Sem.run_bind, run_und F w hty, Result.andThen_ok]
    split at h
    · rename_i heq; cases heq; simp
    · rename_i heq; cases heq; simp
    · rename_i heq; cases heq; simp
    · rename_i fs heq
      cases heq
      cases x with
      | agg xs =>
        simp only at hk
        split at hk
        · simp only [conc]
          have := run_checkFields F (emp := emp) (n := n) (w := w) (ι := ι) (fun t x hp he => ih n t x k hp he (by omega)) _ h hk
          simp only [Sem.run_bind, ← Array.forIn_toList, this, Result.andThen_ok, Sem.run_pure]
        · simp at hk
      | _ => simp [eqLeaf] at hk
    · rename_i len elem heq
      cases heq
      cases x with
      | agg xs =>
        simp only [bind_ok] at hk
        obtain ⟨sz, hsz, hk⟩ := hk
        simp only [conc]
        have := run_checkElems F (emp := emp) (n := n) (w := w) (ι := ι) h hsz (fun t x hp he => ih n t x k hp he (by omega)) _ _ hk
        simp only [Std.Legacy.Range.forIn_eq_forIn_range', Std.Legacy.Range.size, Nat.sub_zero, Nat.add_one_sub_one, Nat.div_one]
        simp only [Sem.run_bind, this, Result.andThen_ok, Sem.run_pure]
      | _ => simp [eqLeaf] at hk
    · simp at h

omit F in
theorem run_sameNow {d t : Nat} {kind : TypeDesc} {x y : Value} {b : Bool} (ht : P.underlying t = some kind) (h : Instr.sameNow kind x y = some b) :
    (Op.equalIn (d + 1) t x y).run P w = .ok b w := by
  unfold Instr.sameNow at h
  split at h
  · split at h
    · rename_i hk
      subst hk
      simp at h; subst h
      simp [Op.equalIn, run_underlying ht]
    · simp at h
  · simp at h; subst h
    simp [Op.equalIn, run_underlying ht]
  · simp at h; subst h
    simp [Op.equalIn, run_underlying ht]
  · simp at h

theorem run_findKey {t : Nat} {k : AV} {kind : TypeDesc} (ht : und D t = .ok kind) : ∀ (es : List (AV × AV × Nat)) (i : Nat) (r : Option (Nat × AV)), findKey D t k es i = .ok r →
    (∀ r', Instr.findNow kind (conc ι k) (es.map (concEntry ι)) i = some r' → r' = r.map fun p => (p.1, conc ι p.2)) ∧
    (Instr.findAsking t (conc ι k) (es.map (concEntry ι)) i).run P w = .ok (r.map fun p => (p.1, conc ι p.2)) w := by
  intro es
  induction es with
  | nil => intro i r h; simp [findKey] at h; subst h; simp [Instr.findNow, Instr.findAsking]
  | cons e es ih =>
    obtain ⟨k', v, s⟩ := e
    intro i r h
    simp only [findKey, bind_ok] at h
    obtain ⟨b, hb, h⟩ := h
    have heq := run_eqV F (ι := ι) w 10 t k k' b hb 10000 (by omega)
    refine ⟨fun r' hr' => ?_, ?_⟩
    · simp only [List.map_cons, Instr.findNow, concEntry] at hr'
      cases hs : Instr.sameNow kind (conc ι k) (conc ι k') with
      | none => rw [hs] at hr'; simp at hr'
      | some c =>
        have hc : b = c := by
          have h1 := run_sameNow (d := 9999) (w := w) (und_ok F ht) hs
          rw [heq] at h1
          simpa using h1
        subst hc
        rw [hs] at hr'
        cases b with
        | true => simp at hr' h; subst hr'; subst h; rfl
        | false => exact (ih (i + 1) r (by simpa using h)).1 r' hr'
    · simp only [List.map_cons, Instr.findAsking, Sem.run_bind, concEntry, Op.equal, Op.maxDepth, heq, Result.andThen_ok, Sem.run_ite]
      cases b with
      | true => simp at h; subst h; simp
      | false => simpa using (ih (i + 1) r (by simpa using h)).2

theorem run_findKey' {t : Nat} {k : AV} {kind : TypeDesc} (ht : und D t = .ok kind) {es : List (AV × AV × Nat)} {r : Option (Nat × AV)} (h : findKey D t k es 0 = .ok r) :
    (Instr.findKey t (conc ι k) (es.map (concEntry ι))).run P w = .ok (r.map fun p => (p.1, conc ι p.2)) w := by
  obtain ⟨h1, h2⟩ := run_findKey F (ι := ι) (w := w) ht es 0 r h
  simp only [Instr.findKey, Sem.run_bind, run_und F w ht, Result.andThen_ok]
  split
  · rename_i r' hr'
    rw [h1 r' hr']; simp
  · exact h2

omit F in
theorem findKey_mem {t : Nat} {k : AV} : ∀ (es : List (AV × AV × Nat)) (i : Nat) (j : Nat) (v : AV), findKey D t k es i = .ok (some (j, v)) →
    ∃ e, es[j - i]? = some e ∧ i ≤ j ∧ e.2.1 = v ∧ eqV D 10 t k e.1 = .ok true := by
  intro es
  induction es with
  | nil => intro i j v h; simp [findKey] at h
  | cons e es ih =>
    obtain ⟨k', v', s⟩ := e
    intro i j v h
    simp only [findKey, bind_ok] at h
    obtain ⟨b, hb, h⟩ := h
    cases b with
    | true => simp at h; obtain ⟨rfl, rfl⟩ := h; exact ⟨(k', v', s), by simp, Nat.le_refl _, rfl, hb⟩
    | false =>
      obtain ⟨e, h1, h2, h3, h4⟩ := ih (i + 1) j v (by simpa using h)
      refine ⟨e, ?_, by omega, h3, h4⟩
      have : j - i = (j - (i + 1)) + 1 := by omega
      rw [this]; simpa using h1

omit F in
theorem plainKey_und {d t : Nat} (h : plainKey D d t = true) : ∃ ty, und D t = .ok ty := by
  cases d with
  | zero => simp [plainKey] at h
  | succ d =>
    unfold plainKey at h
    split at h <;> first | exact ⟨_, ‹_›⟩ | (simp at h)

theorem run_lookupV (R : Rep D ι σ w) {t : Nat} {x ix v : AV} {ok : Bool} (h : lookupV D σ t x ix ok = .ok v) :
    (Instr.lookup t (conc ι x) (conc ι ix) ok).run P w = .ok (conc ι v) w ∧ ids ι (· < σ.n) v := by
  simp only [lookupV, bind_ok] at h
  obtain ⟨d, hd, h⟩ := h
  split at h
  · rename_i key elem
    split at h
    · rename_i hpk
      simp only [bind_ok] at h
      obtain ⟨⟨es, clock⟩, hm, b, hb, h⟩ := h
      cases b with
      | false => simp at h
      | true =>
        simp only [Bool.not_true, Bool.false_eq_true, if_false, bind_ok] at h
        obtain ⟨r, hr, h⟩ := h
        obtain ⟨hids, hx⟩ := mapOf_ok R hm
        obtain ⟨kd, hkd⟩ := plainKey_und hpk
        have hfk := run_findKey' F (ι := ι) (w := w) hkd hr
        have hck : ∀ emp, (Instr.checkKey emp 10000 key (conc ι ix)).run P w = .ok () w := fun emp => run_checkKey F 10 10000 key ix 10 hpk hb (by omega)
        have hids' : ids ι (· < σ.n) v := by
          cases r with
          | none =>
            simp only [bind_ok, pure_ok] at h
            obtain ⟨z, hz, rfl⟩ := h
            cases ok <;> simp [ids, idsL, boolV, zero_ids hz]
          | some p =>
            obtain ⟨j, y⟩ := p
            simp at h; subst h
            obtain ⟨e, h1, _, h3, _⟩ := findKey_mem _ _ _ _ hr
            have hy : ids ι (· < σ.n) y := h3 ▸ (hids e (List.mem_of_getElem? h1)).2
            cases ok <;> simp [ids, idsL, boolV, hy]
        refine ⟨?_, hids'⟩
        simp only [Instr.lookup, Sem.run_bind, run_und F w hd, Result.andThen_ok]
        rcases hx with ⟨rfl, rfl⟩ | ⟨bb, rfl, hbb, _, _, hheap⟩
        · simp only [conc, Sem.run_bind, Sem.run_pure, Result.andThen_ok, hck]
          have hfk0 : (Instr.findKey key (conc ι ix) []).run P w = .ok (r.map fun p => (p.1, conc ι p.2)) w := by simpa using hfk
          simp only [hfk0, Result.andThen_ok]
          cases r with
          | none =>
            simp only [bind_ok, pure_ok] at h
            obtain ⟨z, hz, rfl⟩ := h
            simp only [Option.map_none, Sem.run_bind, run_zero F (ι := ι) w hz, Result.andThen_ok, Sem.run_pure]
            cases ok <;> simp [conc, concL, boolV]
          | some p =>
            obtain ⟨j, y⟩ := p
            simp at h; subst h
            simp only [Option.map_some, Sem.run_bind, Sem.run_pure, Result.andThen_ok]
            cases ok <;> simp [conc, concL, boolV]
        · have hg : (getObj (ι bb).block).run P w = .ok (.map (es.map (concEntry ι)).toArray clock) w := by
            simp [getObj, Sem.run, hheap]
          simp only [conc, Sem.run_bind, hg, Result.andThen_ok, Sem.run_pure, hck, hfk]
          cases r with
          | none =>
            simp only [bind_ok, pure_ok] at h
            obtain ⟨z, hz, rfl⟩ := h
            simp only [Option.map_none, Sem.run_bind, run_zero F (ι := ι) w hz, Result.andThen_ok, Sem.run_pure]
            cases ok <;> simp [conc, concL, boolV]
          | some p =>
            obtain ⟨j, y⟩ := p
            simp at h; subst h
            simp only [Option.map_some, Sem.run_bind, Sem.run_pure, Result.andThen_ok]
            cases ok <;> simp [conc, concL, boolV]
    · simp at h
  · simp at h

omit F in
theorem bytesL_ok (ι : Nat → Loc) : ∀ {l : List AV} {r : List UInt8}, bytesL l = .ok r → ∃ ns : List Int, concL ι l = ns.map (Value.int .u8) ∧ r = ns.map fun n => UInt8.ofNat n.toNat
  | [], r, h => by
    simp [bytesL] at h
    subst h
    exact ⟨[], rfl, rfl⟩
  | x :: l, r, h => by
    unfold bytesL at h
    split at h
    · rename_i heq; cases heq
    · rename_i n l' heq
      simp only [List.cons.injEq] at heq
      obtain ⟨rfl, rfl⟩ := heq
      simp only [bind_ok, pure_ok] at h
      obtain ⟨r', h1, rfl⟩ := h
      obtain ⟨ns, h2, h3⟩ := bytesL_ok ι h1
      exact ⟨n :: ns, by simp [concL, conc, h2], by simp [h3]⟩
    · simp at h

omit F in
theorem foldl_push : ∀ (ns : List Int) (a : ByteArray), ns.foldl (fun r n => r.push (UInt8.ofNat n.toNat)) a = ⟨⟨a.data.toList ++ ns.map fun n => UInt8.ofNat n.toNat⟩⟩
  | [], a => by simp
  | n :: ns, a => by
    simp only [List.foldl_cons]
    rw [foldl_push ns]
    simp [ByteArray.push]

theorem run_bytesV (R : Rep D ι σ w) {s d : Nat} {x v : AV} (h : bytesV D σ s d x = .ok v) : (Go.convert s d (conc ι x)).run P w = .ok (conc ι v) w ∧ ids ι (· < σ.n) v := by
  simp only [bytesV, bind_ok] at h
  obtain ⟨st, hst, dt, hdt, h⟩ := h
  split at h
  · rename_i el
    simp only [bind_ok] at h
    obtain ⟨et, het, h⟩ := h
    split at h
    · simp at h; subst h
      refine ⟨?_, trivial⟩
      simp only [Go.convert, Sem.run_bind, run_und F w hst, run_und F w hdt, run_und F w het, Result.andThen_ok, conc, Conv.bytesToString, Sem.run_pure, str]
      rfl
    · simp only [bind_ok, pure_ok] at h
      obtain ⟨cs, hcs, l, hl, r, hr, rfl⟩ := h
      obtain ⟨hbn, elem, own, sz', ho⟩ := cellsOf_ok hcs
      obtain ⟨h1, h2⟩ := R.loadCells (P := P) hbn ho hl
      obtain ⟨ns, h3, rfl⟩ := bytesL_ok ι hr
      refine ⟨?_, trivial⟩
      rw [h3] at h1
      generalize hc : conc ι (AV.slice _ _ _ _ _) = cv
      obtain ⟨c, hc'⟩ := conc_slice ι _ _ _ _ _
      rw [hc'] at hc
      subst hc
      simp only [Go.convert, Sem.run_bind, run_und F w hst, run_und F w hdt, run_und F w het, Result.andThen_ok, run_bytesToString w _ _ c ns h1, conc, str, foldl_push]
      rfl
    · simp at h
  · simp at h


theorem run_variablesAt {a : Addr} {u : TypeId} {sz cnt : Nat} (hsh : w.shape? a.block = some (u, cnt)) (hsz : size D u = .ok sz) (h0 : 0 < sz) (ha : sz ∣ a.off) {n : Nat} (hn : a.off + n * sz ≤ cnt) :
    (variablesAt a u n).run P w = .ok true w := by
  obtain ⟨i, hi, rfl⟩ := size_ok F hsz
  have hc : P.cellsOf u = i.size := by simp [Program.cellsOf, hi]
  obtain ⟨dp, hdp⟩ : ∃ j, P.depth = j + 1 := ⟨P.depth - 1, by have := F.depth; omega⟩
  simp only [variablesAt, Sem.run_bind, run_program, Result.andThen_ok]
  have h1 : (shape a.block).run P w = .ok (w.shape? a.block) w := by simp [shape, Sem.run]
  rw [h1, hsh]
  simp only [Result.andThen_ok, Sem.run_pure, Result.ok.injEq, and_true]
  obtain ⟨k, hk⟩ := ha
  have hq : a.off / i.size = k := by rw [hk, Nat.mul_comm]; exact Nat.mul_div_cancel _ h0
  have hr : a.off % i.size = 0 := by rw [hk]; exact Nat.mul_mod_right _ _
  have hle : k + n ≤ cnt / i.size := by
    rw [Nat.le_div_iff_mul_le h0, Nat.add_mul, Nat.mul_comm k, ← hk]
    exact hn
  have hsl : sameLayout P P.depth u u = true := by rw [hdp]; simp [sameLayout]
  have : rowAt P (sameLayout P P.depth · u) P.depth u (cnt / P.cellsOf u) a.off n = true := by
    rw [hc]
    rw [hdp, ← hdp]
    conv => lhs; rw [hdp]
    unfold rowAt
    rw [← hdp]
    simp only [hc]
    rw [if_neg (by omega)]
    simp [hq, hr, hle, hsl]
  rw [hdp, ← hdp]
  conv => lhs; rw [hdp]
  unfold liesAt
  simp [this]

theorem run_ptrV (R : Rep D ι σ w) {s d : Nat} {x v : AV} (h : ptrV D σ s d x = .ok v) : (Go.convert s d (conc ι x)).run P w = .ok (conc ι v) w ∧ ids ι (· < σ.n) v := by
  simp only [ptrV, bind_ok] at h
  obtain ⟨st, hst, dt, hdt, h⟩ := h
  split at h
  · rename_i t b o
    simp only [bind_ok] at h
    obtain ⟨cs, hcs, n, hn, h⟩ := h
    obtain ⟨hb, elem, own, sz, ho⟩ := cellsOf_ok hcs
    split at h
    · rename_i hc
      simp at h; subst h
      have hob := R.obj b hb
      rw [ho] at hob
      obtain ⟨h1, h2, arr, fz, h3, h4, h5⟩ := hob
      refine ⟨?_, hb⟩
      obtain ⟨y, hy⟩ : ∃ y, cs[o]? = some y := ⟨cs[o], List.getElem?_eq_getElem hc.2⟩
      have hlt : (ι b).shift + o < arr.size := (Array.getElem?_eq_some_iff.1 (h4 o y hy)).1
      have hsh : w.shape? (ι b).block = some (elem, arr.size) := by simp [World.shape?, h3]
      have hs1 : (shape (ι b).block).run P w = .ok (some (elem, arr.size)) w := by simp [shape, Sem.run, hsh]
      have hv : (viewAt (ι b).block).run P w = .ok none w := by simp [viewAt, hs1]
      have hci : (cellsIn (ι b).block).run P w = .ok (some arr.size) w := by simp [cellsIn, hs1]
      simp only [Go.convert, Sem.run_bind, run_und F w hst, run_und F w hdt, Result.andThen_ok, conc, Conv.unsafePointer, Conv.seenAt, Loc.at, hv, Sem.run_pure, run_size F w hn, hci]
      have h6 : ¬ (n = 0) := by omega
      have h7 : ¬ ((ι b).shift + o ≥ arr.size) := by omega
      simp [h6, h7]
    · simp at h
  · rename_i u b o
    simp only [bind_ok] at h
    obtain ⟨sz, hsz, h⟩ := h
    split at h
    · rename_i hb
      split at h
      · rename_i cs elem own szb ho
        split at h
        · rename_i hc
          simp at h; subst h
          simp only [Bool.and_eq_true, beq_iff_eq, decide_eq_true_eq] at hc
          obtain ⟨⟨⟨⟨⟨hown, rfl⟩, rfl⟩, h0⟩, hmod⟩, hle⟩ := hc
          have hob := R.obj b hb
          rw [ho] at hob
          obtain ⟨h1, h2, arr, fz, h3, h4, h5⟩ := hob
          obtain ⟨_, _, hdv⟩ := h5 hown
          refine ⟨?_, hb⟩
          have hlen : (ι b).shift + cs.length ≤ arr.size := by
            obtain ⟨y, hy⟩ : ∃ y, cs[cs.length - 1]? = some y := ⟨cs[cs.length - 1]'(by omega), List.getElem?_eq_getElem (by omega)⟩
            have := (Array.getElem?_eq_some_iff.1 (h4 _ y hy)).1
            omega
          have hsh : w.shape? (ι b).block = some (elem, arr.size) := by simp [World.shape?, h3]
          have hs1 : (shape (ι b).block).run P w = .ok (some (elem, arr.size)) w := by simp [shape, Sem.run, hsh]
          have hv : (viewAt (ι b).block).run P w = .ok none w := by simp [viewAt, hs1]
          have hva : (variablesAt ⟨(ι b).block, (ι b).shift + o, none⟩ elem 1).run P w = .ok true w :=
            run_variablesAt F (a := ⟨(ι b).block, (ι b).shift + o, none⟩) hsh hsz h0 ((Nat.dvd_add_right hdv).2 (Nat.dvd_of_mod_eq_zero hmod)) (by simp; omega)
          simp only [Go.convert, Sem.run_bind, run_und F w hst, run_und F w hdt, Result.andThen_ok, conc, Conv.unsafePointer, Conv.seenAt, Loc.at, hv, Sem.run_pure, run_size F w hsz]
          have h6 : ¬ (szb = 0) := by omega
          simp [h6, hva]
        · simp at h
      · simp at h
    · simp at h
  · simp at h

theorem run_convR (R : Rep D ι σ w) {s d : Nat} {x v : AV} (h : convR D σ s d x = .ok v) : (Go.convert s d (conc ι x)).run P w = .ok (conc ι v) w ∧ ids ι (· < σ.n) v := by
  unfold convR at h
  split at h
  · rename_i v' hv
    simp at h; subst h
    refine ⟨run_convertV F (ι := ι) w hv, ?_⟩
    simp only [convertV, bind_ok] at hv
    obtain ⟨_, _, _, _, hv⟩ := hv
    split at hv <;> simp at hv <;> subst hv <;> trivial
  · split at h
    · rename_i v' hv
      simp at h; subst h
      exact run_bytesV F R hv
    · exact run_ptrV F R h

theorem readOp_run (R : Rep D ι σ w) {e : Operand → AV} {o : Oper} {v : AV} (h : readOp D σ e o.op = .ok v) :
    (Go.execOp (fun x => conc ι (e x)) o).run P w = .ok (.value (conc ι v)) w ∧ ids ι (· < σ.n) v := by
  unfold Go.execOp
  generalize o.op = op at h
  unfold readOp at h
  split at h
  · have := run_loadV F R h
    exact ⟨by simp [this.1], this.2⟩
  · have := run_lookupV F R h
    exact ⟨by simp [this.1], this.2⟩
  · have := run_convR F R h
    exact ⟨by simp [this.1], this.2⟩
  · simp at h

end
end Go.Dt
namespace Go.Dt

theorem repeatL_length (z : List AV) : ∀ n, (repeatL z n).length = n * z.length := by
  intro n
  induction n with
  | zero => simp [repeatL]
  | succ n ih => simp [repeatL, ih, Nat.succ_mul, Nat.add_comm]

theorem repeatL_get (z : List AV) (_ : 0 < z.length) : ∀ n i, i < n * z.length → (repeatL z n)[i]? = z[i % z.length]? := by
  intro n
  induction n with
  | zero => intro i h; simp at h
  | succ n ih =>
    intro i h
    simp only [repeatL]
    by_cases hi : i < z.length
    · rw [List.getElem?_append_left hi, Nat.mod_eq_of_lt hi]
    · rw [List.getElem?_append_right (by omega), ih _ (by rw [Nat.succ_mul] at h; omega)]
      congr 1
      exact (Nat.mod_eq_sub_mod (by omega)).symm

theorem idsL_repeat {ι : Nat → Loc} {A : Nat → Prop} {z : List AV} (h : idsL ι A z) : ∀ n, idsL ι A (repeatL z n) := by
  intro n
  induction n with
  | zero => simp [repeatL, idsL]
  | succ n ih => simp only [repeatL]; exact idsL_append.2 ⟨h, ih⟩

theorem range_map_repeat (ι : Nat → Loc) (z : List AV) (n : Nat) :
    ((Array.range (n * z.length)).map ((concL ι z).toArray[· % (concL ι z).toArray.size]!)) = (concL ι (repeatL z n)).toArray := by
  apply Array.ext_getElem?
  intro i
  simp only [Array.getElem?_map, List.getElem?_toArray, concL_getElem?, List.size_toArray, concL_length]
  by_cases hi : i < n * z.length
  · have hz : 0 < z.length := by
      rcases Nat.eq_zero_or_pos z.length with h | h
      · rw [h] at hi; simp at hi
      · exact h
    rw [repeatL_get z hz n i hi, Array.getElem?_range]
    have hm : i % z.length < z.length := Nat.mod_lt _ hz
    simp [hi, concL_eq, hm]
  · have h1 : (repeatL z n)[i]? = none := List.getElem?_eq_none (by rw [repeatL_length]; omega)
    rw [h1, Array.getElem?_range]
    simp [hi]

theorem range0 (f : Nat → Value) : (Array.range 0).map f = #[] := by apply Array.ext'; simp

section
variable {D : Tab} {P : Program} (F : Fits D P) {ι : Nat → Loc} {A : Nat → Prop} (w : World)

theorem run_newRow (elem : TypeId) (cells : Array Value) : (Go.newRow elem cells).run P w = .ok ⟨w.heap.size, 0, none⟩ (w.alloc (.cells cells elem)) := by
  simp [Go.newRow]

/-- what an operation that makes a block comes to -/
structure Makes (P : Program) (ι : Nat → Loc) (A : Nat → Prop) (w : World) (b : Nat) (v : AV) (o : AO) (s : Sem Next) : Prop where
  out : ∃ ob L, s.run P w = .ok (.value (conc (upd ι b L) v)) (w.alloc ob) ∧ L.block = w.heap.size ∧
    ORep (upd ι b L) (fun x => A x ∨ x = b) o L (w.alloc ob) ∧ ids (upd ι b L) (fun x => A x ∨ x = b) v

theorem kupd {b : Nat} {L : Loc} (hb : ¬ A b) : ∀ x, A x → (A x ∨ x = b) ∧ upd ι b L x = ι x :=
  fun _ hx => ⟨.inl hx, upd_old fun e => hb (e ▸ hx)⟩

theorem heap_alloc_new (ob : Obj) : (w.alloc ob).heap[w.heap.size]? = some ob := by
  show (w.heap.push ob)[w.heap.size]? = _
  simp

theorem orep_cells {b : Nat} {cs : List AV} {elem sz : Nat} (hb : ¬ A b) (hc : idsL ι A cs) :
    ORep (upd ι b ⟨w.heap.size, 0, 0, sz⟩) (fun x => A x ∨ x = b) (.cells cs elem true sz) ⟨w.heap.size, 0, 0, sz⟩ (w.alloc (.cells (concL ι cs).toArray elem)) := by
  refine ⟨idsL_mono (kupd hb) cs hc, rfl, (concL ι cs).toArray, (0, 0), heap_alloc_new w _, fun i v hv => ?_, fun _ => ⟨rfl, by show 0 + 0 * sz ≤ _; rw [Nat.zero_mul]; exact Nat.zero_le _, Nat.dvd_zero _⟩⟩
  rw [conc_agree (fun x hx => (kupd hb x hx).2) v (idsL_get hc hv)]
  simp [hv]

include F
omit F in
theorem zeroRow_ok {elem n : Nat} {cs : List AV} (h : zeroRow D elem n = .ok cs) :
    ∃ s, size D elem = .ok s ∧ cs.length = n * s ∧ idsL ι A cs ∧
      ((n * s = 0 ∧ cs = []) ∨ (n * s ≠ 0 ∧ ∃ z, zero D elem = .ok z ∧ ((Array.range (n * s)).map ((conc ι z).cells[· % (conc ι z).cells.size]!)) = (concL ι cs).toArray)) := by
  simp only [zeroRow, bind_ok] at h
  obtain ⟨s, hs, h⟩ := h
  refine ⟨s, hs, ?_⟩
  split at h
  · rename_i h0
    simp at h; subst h
    exact ⟨by simp [h0], by simp [idsL], .inl ⟨h0, rfl⟩⟩
  · rename_i h0
    simp only [bind_ok] at h
    obtain ⟨z, hz, h⟩ := h
    split at h
    · rename_i hl
      simp at h; subst h
      refine ⟨by rw [repeatL_length, hl], idsL_repeat (ids_cells (zero_ids hz A)) _, .inr ⟨h0, z, hz, ?_⟩⟩
      rw [conc_cells, ← hl, range_map_repeat]
    · simp at h

omit F in
theorem sliceElem_ok {t elem : Nat} (h : sliceElem D t = .ok elem) : und D t = .ok (.slice elem) := by
  simp only [sliceElem, bind_ok] at h
  obtain ⟨d, hd, h⟩ := h
  split at h
  · simp at h; subst h; exact hd
  · simp at h

theorem allocOp_run {e : Operand → AV} {o : Oper} {v : AV} {ob : AO} {b : Nat} (hb : ¬ A b) (h : allocOp D e o.op b = .ok (v, ob))
    (hid : ∀ x, x ∈ o.op.operands → ids ι A (e x)) : Makes P ι A w b v ob (Go.execOp (fun x => conc ι (e x)) o) := by
  unfold Go.execOp
  generalize o.op = op at h hid
  unfold allocOp at h
  split at h
  · rename_i elem
    simp only [bind_ok, pure_ok, Prod.mk.injEq] at h
    obtain ⟨z, hz, s, hs, rfl, rfl⟩ := h
    refine ⟨.cells (concL ι z.cells).toArray elem, ⟨w.heap.size, 0, 0, s⟩, ?_, rfl, orep_cells w hb (ids_cells (zero_ids hz A)), by simp [ids]⟩
    simp only [Instr.alloc, Sem.run_bind, run_zero F (ι := ι) w hz, Result.andThen_ok, newVar, run_newRow, Sem.run_pure, conc_cells]
    simp [conc, upd_new, Loc.at]
  · rename_i elem x
    simp only [bind_ok, pure_ok, Prod.mk.injEq] at h
    obtain ⟨s, hs, rfl, rfl⟩ := h
    refine ⟨.cells (concL ι (e x).cells).toArray elem, ⟨w.heap.size, 0, 0, s⟩, ?_, rfl, orep_cells w hb (ids_cells (hid x (by simp [Op.operands]))), by simp [ids]⟩
    simp only [Instr.box, Sem.run_bind, Result.andThen_ok, newVar, run_newRow, Sem.run_pure, conc_cells]
    simp [conc, upd_new, Loc.at]
  · rename_i t len parts
    simp only [bind_ok] at h
    obtain ⟨elem, hel, s, hs, h⟩ := h
    split at h
    · simp at h
    · rename_i hbig
      simp only [bind_ok, pure_ok, Prod.mk.injEq] at h
      obtain ⟨z, hz, cs, hcs, rfl, rfl⟩ := h
      have hd := sliceElem_ok hel
      obtain ⟨s', hs', hl, hzi, hrun⟩ := zeroRow_ok (ι := ι) (A := A) hz
      have : s' = s := by rw [hs] at hs'; simpa using hs'.symm
      subst this
      have hp : ∀ p, p ∈ (parts.toList.map fun p => (p.1, e p.2)) → ids ι A p.2 := by
        intro p hp
        simp only [List.mem_map] at hp
        obtain ⟨q, hq, rfl⟩ := hp
        refine hid q.2 ?_
        simp only [Op.operands, List.mem_toArray, List.mem_map]
        exact ⟨q, hq, rfl⟩
      refine ⟨.cells (concL ι cs).toArray elem, ⟨w.heap.size, 0, 0, s'⟩, ?_, rfl, orep_cells w hb (fill_ids _ _ _ hcs hzi hp), by simp [ids]⟩
      have e1 : (parts.map fun p => (p.1, conc ι (e p.2))) = ((parts.toList.map fun p => (p.1, e p.2)).map fun p => (p.1, conc ι p.2)).toArray := by
        apply Array.ext'; simp
      have h2 := run_fill (ι := ι) _ _ _ hcs
      show (do let v ← Instr.buildSlice t len (parts.map fun p => (p.1, conc ι (e p.2))); pure (Next.value v) : Sem Next).run P w = _
      rw [e1]
      simp only [Instr.buildSlice, Sem.run_bind, run_und F w hd, Result.andThen_ok, run_size F w hs, if_neg hbig]
      rcases hrun with ⟨h0, rfl⟩ | ⟨h0, zv, hzv, hzz⟩
      · simp only [if_pos h0, Sem.run_bind, Sem.run_pure, Result.andThen_ok]
        simp only [h0, range0]
        have h2' := h2
        simp only [concL] at h2'
        simp only [h2', Sem.run_bind, run_newRow, Result.andThen_ok, Sem.run_pure]
        simp [conc, upd_new, Loc.at]
      · simp only [if_neg h0, Sem.run_bind, run_zero F (ι := ι) w hzv, Sem.run_pure, Result.andThen_ok, hzz]
        simp only [h2, Sem.run_bind, run_newRow, Result.andThen_ok, Sem.run_pure]
        simp [conc, upd_new, Loc.at]
  · rename_i t r
    have main : Makes P ι A w b (.mapv b) (.map [] 0) (do pure (.value (.map (some (← newObj (.map #[] 0)))))) := by
      refine ⟨.map #[] 0, ⟨w.heap.size, 0, 0, 0⟩, ?_, rfl, ⟨rfl, heap_alloc_new w _, by simp⟩, by simp [ids]⟩
      simp [conc, upd_new]
    split at h
    · simp at h
      obtain ⟨rfl, rfl⟩ := h
      obtain ⟨ob, L, h1, h2⟩ := main.out
      refine ⟨ob, L, ?_, h2⟩
      rw [← h1]
      simp [Instr.makeMap]
    · rename_i hh
      simp only [bind_ok] at h
      obtain ⟨d, hd, ⟨k, i⟩, hi, h⟩ := h
      split at h
      · simp at h
        obtain ⟨rfl, rfl⟩ := h
        obtain ⟨ob, L, h1, h2⟩ := main.out
        refine ⟨ob, L, ?_, h2⟩
        rw [← h1]
        simp [Instr.makeMap, run_und F w hd, run_asI (ι := ι) hi, asInt, asIntOf]
      · simp at h
  · rename_i t l c
    simp only [bind_ok] at h
    obtain ⟨elem, hel, ⟨kl, il⟩, hl, ⟨kc, ic⟩, hc, i, hi, h⟩ := h
    split at h
    · rename_i hcond
      obtain ⟨c1, c2, c3, c4⟩ := hcond
      simp only [bind_ok, pure_ok, Prod.mk.injEq] at h
      obtain ⟨s, hs, z, hz, rfl, rfl⟩ := h
      have hd := sliceElem_ok hel
      obtain ⟨s', hs', hlen, hzi, hrun⟩ := zeroRow_ok (ι := ι) (A := A) hz
      have : s' = s := by rw [hs] at hs'; simpa using hs'.symm
      subst this
      refine ⟨.cells (concL ι z).toArray elem, ⟨w.heap.size, 0, 0, s'⟩, ?_, rfl, orep_cells w hb hzi, by simp [ids]⟩
      have wl : IntKind.i64.wrap il = il := IntWalk.i64_in _ (by omega)
      have wc : IntKind.i64.wrap ic = ic := IntWalk.i64_in _ (by omega)
      have hbytes : ¬ ((i.bytes : Int) * ic > 2 ^ 48) := by
        have h1 : (i.bytes : Int) * ic ≤ 2 ^ 16 * 2 ^ 30 := Int.mul_le_mul (by omega) (by omega) (by omega) (by omega)
        have : (2 : Int) ^ 16 * 2 ^ 30 ≤ 2 ^ 48 := by decide
        omega
      show (do let v ← Instr.makeSlice t (conc ι (e l)) (conc ι (e c)); pure (Next.value v) : Sem Next).run P w = _
      simp only [Instr.makeSlice, Sem.run_bind, run_und F w hd, Result.andThen_ok, run_asI (ι := ι) hl, run_asI (ι := ι) hc, asInt, asIntOf, Sem.run_pure, run_inf F w hi, wl, wc]
      have hcond : (decide (ic < 0) || decide ((i.bytes : Int) * ic > 2 ^ 48) || decide (il < 0) || decide (il > ic)) = false := by
        simp only [Bool.or_eq_false_iff, decide_eq_false_iff_not]
        exact ⟨⟨⟨by omega, hbytes⟩, by omega⟩, by omega⟩
      rw [if_neg (by rw [hcond]; simp)]
      simp only [Sem.run_bind, run_askRoom, Result.andThen_ok, run_size F w hs]
      rcases hrun with ⟨h0, rfl⟩ | ⟨h0, zv, hzv, hzz⟩
      · simp only [if_pos h0, Sem.run_bind, Sem.run_pure, Result.andThen_ok]
        simp only [h0, range0, run_newRow, Result.andThen_ok]
        simp [conc, upd_new, Loc.at, concL]
      · simp only [if_neg h0, Sem.run_bind, run_zero F (ι := ι) w hzv, Sem.run_pure, Result.andThen_ok, hzz, run_newRow]
        simp [conc, upd_new, Loc.at]
    · simp at h
  · simp at h
end
end Go.Dt
namespace Go.Dt

theorem conc_oneCell' {ι : Nat → Loc} {v : AV} (h : v.oneCell = true) : (conc ι v).oneCell' = true := by
  have := conc_oneCell (ι := ι) h
  cases hv : conc ι v with
  | agg cs => exact ((this cs).1 hv).elim
  | tuple cs => exact ((this cs).2 hv).elim
  | _ => rfl

/-- only block g differs -/
structure Only (g : Nat) (w w' : World) : Prop where
  size : w'.heap.size = w.heap.size
  other : ∀ r, r ≠ g → w'.heap[r]? = w.heap[r]?
  os : w'.os = w.os ∧ w'.tape = w.tape ∧ w'.output = w.output

theorem Only.refl (g : Nat) (w : World) : Only g w w := ⟨rfl, fun _ _ => rfl, rfl, rfl, rfl⟩
theorem Only.trans {g : Nat} {a b c : World} (h : Only g a b) (k : Only g b c) : Only g a c :=
  ⟨k.size.trans h.size, fun r hr => (k.other r hr).trans (h.other r hr), k.os.1.trans h.os.1, k.os.2.1.trans h.os.2.1, k.os.2.2.trans h.os.2.2⟩

theorem only_setCell (w : World) (g o : Nat) (v : Value) : Only g w (w.setCell ⟨g, o, none⟩ v) :=
  ⟨by simp, fun r hr => by simp only [World.setCell, Array.getElem?_modify]; rw [if_neg (by omega)], rfl, rfl, rfl⟩

theorem only_setIf (w : World) (g : Nat) (o : Obj) : Only g w { w with heap := w.heap.setIfInBounds g o } :=
  ⟨by simp, fun r hr => by simp only [Array.getElem?_setIfInBounds]; rw [if_neg (by omega)], rfl, rfl, rfl⟩

theorem run_storeCells (P : Program) (g o : Nat) (e : TypeId) : ∀ (vs : List Value) (i : Nat) (arr : Array Value) (w : World), w.heap[g]? = some (.cells arr e (0, 0)) →
    o + i + vs.length ≤ arr.size → (∀ v, v ∈ vs → v.oneCell' = true) →
    ∃ w' arr', (Go.storeCells ⟨g, o, none⟩ vs i).run P w = .ok () w' ∧ Only g w w' ∧ w'.heap[g]? = some (.cells arr' e (0, 0)) ∧ arr'.size = arr.size ∧
      ∀ j, arr'[j]? = if o + i ≤ j ∧ j < o + i + vs.length then vs[j - (o + i)]? else arr[j]? := by
  intro vs
  induction vs with
  | nil =>
    intro i arr w hg _ _
    exact ⟨w, arr, by simp [Go.storeCells], Only.refl g w, hg, rfl, fun j => by rw [if_neg (by simp only [List.length_nil]; omega)]⟩
  | cons v vs ih =>
    intro i arr w hg hfit hone
    simp only [List.length_cons] at hfit
    have hadd : (⟨g, o, none⟩ : Addr).add i = ⟨g, o + i, none⟩ := by
      unfold Addr.add; split
      · rename_i h; simp [h]
      · rfl
    have hlt : o + i < arr.size := by omega
    have hcell : w.cell? ⟨g, o + i, none⟩ = some arr[o + i] := by simp [World.cell?, hg, hlt]
    have hfr : w.frozen? ⟨g, o + i, none⟩ = false := by simp [World.frozen?, hg]
    have hg' : (w.setCell ⟨g, o + i, none⟩ v).heap[g]? = some (.cells (arr.setIfInBounds (o + i) v) e (0, 0)) := by
      simp [World.setCell, Array.getElem?_modify, hg]
    obtain ⟨w', arr', h1, h2, h3, h4, h5⟩ := ih (i + 1) _ _ hg' (by simp; omega) (fun x hx => hone x (by simp [hx]))
    refine ⟨w', arr', ?_, (only_setCell w g (o + i) v).trans h2, h3, by simp [h4], fun j => ?_⟩
    · simp only [Go.storeCells, Sem.run_bind, hadd, run_store P w _ v _ (hone v (by simp)), hcell, hfr, Bool.false_eq_true, if_false, Result.andThen_ok]
      exact h1
    · rw [h5 j]
      simp only [List.length_cons]
      by_cases hc : o + (i + 1) ≤ j ∧ j < o + (i + 1) + vs.length
      · rw [if_pos hc, if_pos (by omega)]
        have : j - (o + i) = (j - (o + (i + 1))) + 1 := by omega
        rw [this]; simp
      · rw [if_neg hc]
        by_cases hj : j = o + i
        · subst hj
          rw [if_pos (by omega)]
          simp [hlt]
        · rw [if_neg (by omega), Array.getElem?_setIfInBounds_ne (by omega)]

section
variable {D : Tab} {P : Program} (F : Fits D P) {ι : Nat → Loc} {σ : St} {w : World}

/-- a store into a block of one's own -/
theorem run_store_own (R : Rep D ι σ w) {b o : Nat} {l : List AV} {σ' : St} (h : storeCells σ b o l = .ok σ') (hl : idsL ι (· < σ.n) l) :
    ∃ w', (Go.storeCells ((ι b).at o) (concL ι l)).run P w = .ok () w' ∧ Rep D ι σ' w' ∧ Ext ι σ w ι σ' w' := by
  unfold storeCells at h
  split at h
  · simp at h; subst h
    exact ⟨w, by simp [Go.storeCells, concL], R, Ext.refl ι σ w⟩
  · split at h
    · rename_i hb
      split at h
      · rename_i cs elem own sz heq
        split at h
        · rename_i hc
          simp only [Bool.and_eq_true, decide_eq_true_eq] at hc
          obtain ⟨⟨rfl, hfit⟩, hone⟩ := hc
          simp at h; subst h
          have hr := R.obj b hb
          rw [heq] at hr
          obtain ⟨h1, h2, arr, fz, h3, h4, h5⟩ := hr
          obtain ⟨rfl, h6⟩ := h5 rfl
          have harr : ∀ i, i < cs.length → (ι b).shift + i < arr.size := fun i hi => by
            have := h4 i _ (List.getElem?_eq_getElem hi)
            exact (Array.getElem?_eq_some_iff.1 this).1
          have hfit' : (ι b).shift + o + 0 + (concL ι l).length ≤ arr.size := by
            rw [concL_length]
            rcases Nat.eq_zero_or_pos l.length with h0 | h0
            · rw [h0] at hfit ⊢
              rcases Nat.eq_zero_or_pos cs.length with h7 | h7
              · have : l = [] := List.eq_nil_of_length_eq_zero h0
                exact absurd this ‹_›
              · have : l = [] := List.eq_nil_of_length_eq_zero h0
                exact absurd this ‹_›
            · have := harr (o + l.length - 1) (by omega)
              omega
          obtain ⟨w', arr', r1, r2, r3, r4, r5⟩ := run_storeCells P (ι b).block ((ι b).shift + o) elem (concL ι l) 0 arr w h3 hfit' (fun v hv => by
            rw [concL_eq, List.mem_map] at hv
            obtain ⟨x, hx, rfl⟩ := hv
            exact conc_oneCell' (List.all_eq_true.1 hone x hx))
          refine ⟨w', r1, ?_⟩
          refine R.set hb (by rw [heq]; rfl) r2.size r2.other r2.os ⟨idsL_splice hfit h1 hl, h2, arr', (0, 0), r3, fun i v hv => ?_, fun _ => ⟨rfl, by omega⟩⟩
          rw [splice_get _ _ _ _ hfit] at hv
          rw [r5, concL_length]
          split at hv
          · rename_i hc
            rw [if_pos (by omega)]
            have : (ι b).shift + i - ((ι b).shift + o + 0) = i - o := by omega
            rw [this, concL_getElem?, hv]; rfl
          · rename_i hc
            rw [if_neg (by omega)]
            exact h4 i v hv
        · simp at h
      · simp at h
    · simp at h

include F
theorem run_storeV (R : Rep D ι σ w) {t : Nat} {a x : AV} {σ' : St} (h : storeV D σ t a x = .ok σ') (hx : ids ι (· < σ.n) x) :
    ∃ w', (Instr.storeAt t (conc ι a) (conc ι x)).run P w = .ok () w' ∧ Rep D ι σ' w' ∧ Ext ι σ w ι σ' w' := by
  unfold storeV at h
  split at h
  · rename_i b o
    simp only [bind_ok] at h
    obtain ⟨n, hn, h⟩ := h
    split at h
    · rename_i hlen
      obtain ⟨w', h1, h2, h3⟩ := run_store_own (P := P) R h (ids_cells hx)
      refine ⟨w', ?_, h2, h3⟩
      simp only [Instr.storeAt, conc, Instr.sureAddr, Sem.run_bind, Sem.run_pure, Result.andThen_ok, storeVar, run_size F w hn, conc_cells]
      rw [if_neg (by simp [hlen])]
      simpa using h1
    · simp at h
  · simp at h

omit F in
theorem run_setObj (P : Program) (w : World) (r : Nat) (o o' : Obj) (h : w.heap[r]? = some o) (hc : ∀ a b c, o ≠ .cells a b c) :
    (setObj r o').run P w = .ok () { w with heap := w.heap.setIfInBounds r o' } := by
  simp only [setObj, Sem.run, h]
omit F in
theorem run_getObj (P : Program) (w : World) (r : Nat) (o : Obj) (h : w.heap[r]? = some o) (hc : ∀ a b c, o ≠ .cells a b c) :
    (getObj r).run P w = .ok o w := by
  simp only [getObj, Sem.run, h]

omit F in
theorem heap_setIf (w : World) (r : Nat) (o' : Obj) (h : r < w.heap.size) : ({ w with heap := w.heap.setIfInBounds r o' } : World).heap[r]? = some o' := by
  simp [h]

omit F in
theorem beqBase_ok {a b : Value} (h : beqBase a b = true) : a = b := by
  unfold beqBase at h
  split at h <;> simp_all

omit F in
theorem beqFn_ok {a b : Fn} (h : beqFn a b = true) : a = b := by
  unfold beqFn at h
  split at h <;> simp_all

omit F in
mutual
theorem beqA_ok : ∀ (a b : AV), beqA a b = true → a = b
  | .base a, .base b, h => by simp only [beqA] at h; rw [beqBase_ok h]
  | .ptr .., .ptr .., h => by simp [beqA] at h; simp [h]
  | .slice .., .slice .., h => by simp [beqA] at h; simp [h]
  | .sliceZ .., .sliceZ .., h => by simp [beqA] at h; simp [h]
  | .mapv _, .mapv _, h => by simp [beqA] at h; simp [h]
  | .func f a b, .func g a' b', h => by
    simp only [beqA, Bool.and_eq_true] at h
    rw [beqFn_ok h.1.1, beqL_ok a a' h.1.2, beqL_ok b b' h.2]
  | .yield _, .yield _, h => by simp [beqA] at h; simp [h]
  | .iface t v, .iface t' v', h => by
    simp only [beqA, Bool.and_eq_true, beq_iff_eq] at h
    rw [h.1, beqA_ok v v' h.2]
  | .agg l, .agg l', h => by simp only [beqA] at h; rw [beqL_ok l l' h]
  | .tuple l, .tuple l', h => by simp only [beqA] at h; rw [beqL_ok l l' h]
theorem beqL_ok : ∀ (a b : List AV), beqL a b = true → a = b
  | [], [], _ => rfl
  | x :: xs, y :: ys, h => by
    simp only [beqL, Bool.and_eq_true] at h
    rw [beqA_ok x y h.1, beqL_ok xs ys h.2]
end

omit F in
theorem sameBits_plainBase {v : AV} (h : plainBase v = true) (n : Nat) : Instr.sameBits n (conc ι v) (conc ι v) = true := by
  unfold plainBase at h
  split at h
  · cases n <;> simp [conc, Instr.sameBits]
  · cases n <;> simp [conc, Instr.sameBits]
  · cases n <;> simp [conc, Instr.sameBits, Go.beq_toListBytes]
  · simp at h

omit F in
theorem sameBits_plain {v : AV} (h : plainVal v = true) (n : Nat) : Instr.sameBits (n + 1) (conc ι v) (conc ι v) = true := by
  unfold plainVal at h
  split at h
  · rename_i cs
    simp only [conc, Instr.sameBits, Bool.and_eq_true, beq_self_eq_true, true_and]
    have hall : ∀ v, v ∈ cs → plainBase v = true := by simpa using h
    clear h
    induction cs with
    | nil => simp [concL]
    | cons c cs ih =>
      have := ih (fun v hv => hall v (by simp [hv]))
      simp only [concL]
      simp only [List.zip_cons_cons, List.all_cons, Bool.and_eq_true]
      exact ⟨sameBits_plainBase (hall c (by simp)) n, this⟩
  · exact sameBits_plainBase h _

theorem run_mapUpdate (R : Rep D ι σ w) {t : Nat} {m k v : AV} {σ' : St} (h : mapUpdate D σ t m k v = .ok σ') (hk : ids ι (· < σ.n) k) (hv : ids ι (· < σ.n) v) :
    ∃ w', (Instr.mapUpdate t (conc ι m) (conc ι k) (conc ι v)).run P w = .ok () w' ∧ Rep D ι σ' w' ∧ Ext ι σ w ι σ' w' := by
  simp only [mapUpdate, bind_ok] at h
  obtain ⟨d, hd, h⟩ := h
  split at h
  · rename_i key elem b
    split at h
    · rename_i hpk
      simp only [bind_ok] at h
      obtain ⟨⟨es, clock⟩, hm, r0, hr0, h⟩ := h
      cases r0 with
      | false => simp at h
      | true =>
        simp only [Bool.not_true, Bool.false_eq_true, if_false, bind_ok] at h
        obtain ⟨r, hr, h⟩ := h
        obtain ⟨hids, hx⟩ := mapOf_ok R hm
        rcases hx with ⟨hx, _⟩ | ⟨b', hx, hb, heq, hshift, hheap⟩
        · cases hx
        · cases hx
          obtain ⟨kd, hkd⟩ := plainKey_und hpk
          have hfk := run_findKey' F (ι := ι) (w := w) hkd hr
          have hck : ∀ emp, (Instr.checkKey emp 10000 key (conc ι k)).run P w = .ok () w := fun emp => run_checkKey F 10 10000 key k 10 hpk hr0 (by omega)
          have hlt : (ι b).block < w.heap.size := (Array.getElem?_eq_some_iff.1 hheap).1
          have hg := run_getObj P w (ι b).block _ hheap (by simp)
          have hso := fun o' => run_setObj P w (ι b).block _ o' hheap (by simp)
          have hmut : (σ.getO b).isMut = true := by rw [heq]; rfl
          cases r with
          | none =>
            simp at h; subst h
            refine ⟨{ w with heap := w.heap.setIfInBounds (ι b).block (.map ((es.map (concEntry ι)).toArray.push { key := conc ι k, val := conc ι v, born := clock }) (clock + 1)) }, ?_, ?_⟩
            · simp only [Instr.mapUpdate, Sem.run_bind, run_und F w hd, Result.andThen_ok, conc, hg, hck]
              simp only [hfk, Result.andThen_ok, Option.map_none]
              exact hso _
            · have := only_setIf w (ι b).block (.map ((es.map (concEntry ι)).toArray.push { key := conc ι k, val := conc ι v, born := clock }) (clock + 1))
              refine R.set hb hmut this.size this.other this.os ⟨hshift, ?_, ?_⟩
              · rw [heap_setIf w _ _ hlt]
                simp [concEntry]
              · intro e he
                rcases List.mem_append.1 he with he | he
                · exact hids e he
                · simp at he; subst he; exact ⟨hk, hv⟩
          | some p =>
            obtain ⟨i, y⟩ := p
            simp only at h
            obtain ⟨e, he1, _, he3, he4⟩ := findKey_mem _ _ _ _ hr
            simp only [Nat.sub_zero] at he1
            rw [he1] at h
            simp only at h
            split at h
            · rename_i hcc
              simp only [Bool.and_eq_true] at hcc
              have hek : e.1 = k := beqA_ok _ _ hcc.2
              simp at h; subst h
              have hilt : i < es.length := (List.getElem?_eq_some_iff.1 he1).1
              have hes : (es.map (concEntry ι)).toArray[i]? = some (concEntry ι e) := by simp [he1]
              refine ⟨{ w with heap := w.heap.setIfInBounds (ι b).block (.map ((es.map (concEntry ι)).toArray.modify i fun e => { e with key := conc ι k, val := conc ι v }) clock) }, ?_, ?_⟩
              · have hkt : (Instr.keyThatStays (((es.map (concEntry ι)).toArray[i]?.map (·.key)).getD (conc ι k)) (conc ι k)).run P w = .ok (conc ι k) w := by
                  rw [hes]
                  simp only [Option.map_some, Option.getD_some, concEntry, hek, Instr.keyThatStays]
                  rw [if_pos (sameBits_plain hcc.1 9999)]
                  simp
                simp only [Instr.mapUpdate, Sem.run_bind, run_und F w hd, Result.andThen_ok, conc, hg, hck]
                simp only [hfk, Result.andThen_ok, Option.map_some]
                simp only [Sem.run_bind, hkt, Result.andThen_ok]
                exact hso _
              · have := only_setIf w (ι b).block (.map ((es.map (concEntry ι)).toArray.modify i fun e => { e with key := conc ι k, val := conc ι v }) clock)
                refine R.set hb hmut this.size this.other this.os ⟨hshift, ?_, ?_⟩
                · rw [heap_setIf w _ _ hlt]
                  congr 2
                  apply Array.ext'
                  rw [Array.toList_modify]
                  clear hes hfk hck hr hm hheap hg hso heq this hids
                  clear hilt
                  induction es generalizing i with
                  | nil => simp at he1
                  | cons x es ih =>
                    obtain ⟨a, b', c⟩ := x
                    cases i with
                    | zero => simp at he1; subst he1; simp [setVal, concEntry]; exact congrArg _ hek.symm
                    | succ i => simpa [setVal] using ih i (by simpa using he1)
                · intro e' he'
                  have : ∀ (l : List (AV × AV × Nat)) (j : Nat), (∀ e, e ∈ l → ids ι (· < σ.n) e.1 ∧ ids ι (· < σ.n) e.2.1) → ∀ e, e ∈ setVal v j l → ids ι (· < σ.n) e.1 ∧ ids ι (· < σ.n) e.2.1 := by
                    intro l
                    induction l with
                    | nil => intro j _ e he; simp [setVal] at he
                    | cons x l ih =>
                      obtain ⟨a, b', c⟩ := x
                      intro j hl e he
                      cases j with
                      | zero =>
                        simp only [setVal, List.mem_cons] at he
                        rcases he with rfl | he
                        · exact ⟨(hl (a, b', c) (by simp)).1, hv⟩
                        · exact hl e (by simp [he])
                      | succ j =>
                        simp only [setVal, List.mem_cons] at he
                        rcases he with rfl | he
                        · exact hl _ (by simp)
                        · exact ih j (fun e he => hl e (by simp [he])) e he
                  exact this _ _ hids e' he'
            · simp at h
    · simp at h
  · simp at h
end
end Go.Dt
