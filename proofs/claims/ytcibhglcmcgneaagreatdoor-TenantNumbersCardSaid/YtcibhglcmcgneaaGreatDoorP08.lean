/-
  Memory: blocks, reads, writes, slices that grow. No statement of this seat stands here.
-/
import Derived.Test.YtcibhglcmcgneaaGreatDoorP07
namespace Go.Proofs.YtcibhglcmcgneaaGreatDoor
open Go Go.Dt
set_option maxRecDepth 100000

theorem push_n (σ : St) (o : AO) : (σ.push o).n = σ.n + 1 := rfl
theorem loadV_cell {σ : St} {t b o : Nat} {ty : TypeDesc} {cs : List AV} {e sz : Nat} {ow : Bool} {v : AV} (hu : und tab t = .ok ty) (hna : isAggD ty = false) (hb : b < σ.n) (ho : σ.getO b = .cells cs e ow sz)
    (hv : cs[o]? = some v) : loadV tab σ t (.ptr b o) = .ok v := by
  simp [loadV, cellsOf, hb, ho, hu, hna, hv, bindR_eq]
theorem loadV_new {σ : St} {t o : Nat} {ty : TypeDesc} {cs : List AV} {e sz : Nat} {ow : Bool} {v : AV} (hu : und tab t = .ok ty) (hna : isAggD ty = false)
    (hv : cs[o]? = some v) : loadV tab (σ.push (.cells cs e ow sz)) t (.ptr σ.n o) = .ok v :=
  loadV_cell hu hna (by rw [push_n]; omega) getO_push_new hv

def WF (σ : St) : Prop := σ.l.length = σ.n
end Go.Proofs.YtcibhglcmcgneaaGreatDoor
namespace Go.Dt
open Go.Proofs.YtcibhglcmcgneaaGreatDoor
theorem Gw.wf {σ σ' : St} (h : Gw σ σ') (hw : WF σ) : WF σ' := h.len hw
end Go.Dt
namespace Go.Proofs.YtcibhglcmcgneaaGreatDoor
open Go Go.Dt
set_option maxRecDepth 100000
theorem WF.push {σ : St} (h : WF σ) (o : AO) : WF (σ.push o) := by simp [WF, St.push]; exact h
theorem WF.set {σ : St} (h : WF σ) (b : Nat) (o : AO) : WF (σ.set b o) := by simp [WF, St.set]; exact h
theorem set_n (σ : St) (b : Nat) (o : AO) : (σ.set b o).n = σ.n := rfl
end Go.Proofs.YtcibhglcmcgneaaGreatDoor
namespace Go.Dt
open Go.Proofs.YtcibhglcmcgneaaGreatDoor
theorem Gw.set {σ0 σ : St} (h : Gw σ0 σ) {b : Nat} (hb : σ0.n ≤ b) (hlt : b < σ.n) (o : AO) : Gw σ0 (σ.set b o) :=
  ⟨h.n, fun x hx => by rw [getO_set_other hlt (by omega)]; exact h.old x hx, fun hl => by simp [St.set]; exact h.len hl, h.M⟩
end Go.Dt
namespace Go.Proofs.YtcibhglcmcgneaaGreatDoor
open Go Go.Dt
set_option maxRecDepth 100000
theorem storeV_at {σ : St} {t b o n e sz : Nat} {x : AV} {cs : List AV} (hs : size tab t = .ok n) (hx : x.cells.length = n) (h0 : 0 < n) (hb : b < σ.n) (ho : σ.getO b = .cells cs e true sz)
    (hle : o + n ≤ cs.length) (hone : x.cells.all AV.oneCell = true) : storeV tab σ t (.ptr b o) x = .ok (σ.set b (.cells (splice cs o x.cells) e true sz)) := by
  simp only [storeV, hs, bindR_eq, bindR_val, hx, if_true]
  unfold Dt.storeCells
  split
  · rename_i h; rw [h] at hx; simp at hx; omega
  · rw [if_pos hb, ho]
    simp only
    rw [if_pos]
    simp only [Bool.and_eq_true, decide_eq_true_eq, hone, and_true, true_and]
    omega
theorem loadV_agg {σ : St} {t b o n : Nat} {ty : TypeDesc} {cs : List AV} {e sz : Nat} {ow : Bool} (hu : und tab t = .ok ty) (ha : isAggD ty = true) (hn : size tab t = .ok n) (hb : b < σ.n) (ho : σ.getO b = .cells cs e ow sz)
    (hl : ((cs.drop o).take n).length = n) : loadV tab σ t (.ptr b o) = .ok (.agg ((cs.drop o).take n)) := by
  simp only [loadV, cellsOf, hb, ho, hu, ha, hn, takeN, bindR_eq, bindR_val, if_true]
  rw [if_pos hl]
  rfl

/- blocks -/
def At (σ : St) (b : Nat) (o : AO) : Prop := b < σ.n ∧ σ.getO b = o
theorem At.new (σ : St) (o : AO) : At (σ.push o) σ.n o := ⟨by rw [push_n]; omega, getO_push_new⟩
theorem At.push {σ : St} {b : Nat} {o : AO} (h : At σ b o) (o' : AO) : At (σ.push o') b o := ⟨by rw [push_n]; have := h.1; omega, by rw [getO_push_old h.1]; exact h.2⟩
theorem At.set_same {σ : St} {b : Nat} {o : AO} (hw : WF σ) (h : At σ b o) (o' : AO) : At (σ.set b o') b o' := ⟨h.1, getO_set_same hw h.1⟩
theorem At.set_ne {σ : St} {b c : Nat} {o : AO} (h : At σ c o) (hb : b < σ.n) (hne : c ≠ b) (o' : AO) : At (σ.set b o') c o := ⟨h.1, by rw [getO_set_other hb (Ne.symm hne)]; exact h.2⟩

structure Mod (P : List Nat) (σ σ' : St) : Prop where
  n : σ.n ≤ σ'.n
  old : ∀ b, b < σ.n → b ∉ P → σ'.getO b = σ.getO b
  len : σ.l.length = σ.n → σ'.l.length = σ'.n
  M : σ'.M = σ.M
theorem Mod.refl (P : List Nat) (σ : St) : Mod P σ σ := ⟨Nat.le_refl _, fun _ _ _ => rfl, id, rfl⟩
theorem Mod.trans {P : List Nat} {a b c : St} (h : Mod P a b) (k : Mod P b c) : Mod P a c :=
  ⟨Nat.le_trans h.n k.n, fun x hx hp => (k.old x (Nat.lt_of_lt_of_le hx h.n) hp).trans (h.old x hx hp), fun hl => k.len (h.len hl), k.M.trans h.M⟩
/-- what was not yet there may change -/
theorem Mod.trans' {P Q : List Nat} {a b c : St} (h : Mod P a b) (k : Mod Q b c) (hq : ∀ x ∈ Q, x ∈ P ∨ a.n ≤ x) : Mod P a c :=
  ⟨Nat.le_trans h.n k.n, fun x hx hp => (k.old x (Nat.lt_of_lt_of_le hx h.n) (fun hxq => (hq x hxq).elim hp (fun h => by omega))).trans (h.old x hx hp), fun hl => k.len (h.len hl), k.M.trans h.M⟩
theorem Mod.mono {P Q : List Nat} {a b : St} (h : Mod P a b) (hq : ∀ x ∈ P, x ∈ Q ∨ a.n ≤ x) : Mod Q a b :=
  (Mod.refl Q a).trans' h hq
end Go.Proofs.YtcibhglcmcgneaaGreatDoor
namespace Go.Dt
open Go.Proofs.YtcibhglcmcgneaaGreatDoor
theorem Gw.mod {σ σ' : St} (h : Gw σ σ') (P : List Nat) : Mod P σ σ' := ⟨h.n, fun b hb _ => h.old b hb, h.len, h.M⟩
end Go.Dt
namespace Go.Proofs.YtcibhglcmcgneaaGreatDoor
open Go Go.Dt
set_option maxRecDepth 100000
theorem Mod.grow {P : List Nat} {σ σ' : St} (h : Mod P σ σ') (hp : ∀ x ∈ P, σ.n ≤ x) : Gw σ σ' := ⟨h.n, fun b hb => h.old b hb (fun hx => by have := hp b hx; omega), h.len, h.M⟩
theorem Mod.wf {P : List Nat} {σ σ' : St} (h : Mod P σ σ') (hw : WF σ) : WF σ' := h.len hw
theorem At.mod {P : List Nat} {σ σ' : St} {b : Nat} {o : AO} (h : Mod P σ σ') (hp : b ∉ P) (ha : At σ b o) : At σ' b o := ⟨Nat.lt_of_lt_of_le ha.1 h.n, by rw [h.old b ha.1 hp]; exact ha.2⟩
theorem At.grow {σ σ' : St} {b : Nat} {o : AO} (h : Gw σ σ') (ha : At σ b o) : At σ' b o := ⟨Nat.lt_of_lt_of_le ha.1 h.n, by rw [h.old b ha.1]; exact ha.2⟩
theorem Mod.push (P : List Nat) (σ : St) (o : AO) : Mod P σ (σ.push o) := (Gw.push σ o).mod P
theorem Mod.set {P : List Nat} {σ : St} {b : Nat} (hb : b ∈ P) (hlt : b < σ.n) (o : AO) : Mod P σ (σ.set b o) :=
  ⟨Nat.le_refl _, fun x _ hx => by rw [getO_set_other hlt (by intro h; apply hx; rw [← h]; exact hb)], fun hl => by simp [St.set]; exact hl, rfl⟩

/- reads and writes -/
noncomputable def leafB (t : Nat) : Bool := match und tab t with
  | .ok d => !isAggD d
  | .error _ => false
noncomputable def aggB (t n : Nat) : Bool := match und tab t, size tab t with
  | .ok d, .ok m => isAggD d && m == n
  | _, _ => false
noncomputable def sizeB (t n : Nat) : Bool := match size tab t with
  | .ok m => m == n
  | _ => false
theorem ld {σ : St} {t b o : Nat} {cs : List AV} {e sz : Nat} {ow : Bool} {v : AV} (ht : leafB t = true) (h : At σ b (.cells cs e ow sz)) (hv : cs[o]? = some v) : loadV tab σ t (.ptr b o) = .ok v := by
  unfold leafB at ht
  cases hu : und tab t with
  | error e => rw [hu] at ht; cases ht
  | ok d => rw [hu] at ht; exact loadV_cell hu (by simpa using ht) h.1 h.2 hv
theorem lda {σ : St} {t n b o : Nat} {cs : List AV} {e sz : Nat} {ow : Bool} {l : List AV} (ht : aggB t n = true) (h : At σ b (.cells cs e ow sz)) (hl : (cs.drop o).take n = l) (hn : l.length = n) : loadV tab σ t (.ptr b o) = .ok (.agg l) := by
  unfold aggB at ht
  cases hu : und tab t with
  | error e => rw [hu] at ht; cases ht
  | ok d =>
    rw [hu] at ht
    cases hs : size tab t with
    | error e => rw [hs] at ht; cases ht
    | ok m =>
      rw [hs] at ht
      simp only [Bool.and_eq_true, beq_iff_eq] at ht
      obtain ⟨h1, rfl⟩ := ht
      subst hl
      exact loadV_agg hu h1 hs h.1 h.2 hn
theorem sizeB_of {t n : Nat} (ht : sizeB t n = true) : size tab t = .ok n := by
  unfold sizeB at ht
  cases hs : size tab t with
  | error e => rw [hs] at ht; cases ht
  | ok m => rw [hs] at ht; simp only [beq_iff_eq] at ht; rw [ht]
theorem stv {σ : St} {t n b o : Nat} {cs : List AV} {e sz : Nat} {x : AV} (ht : sizeB t n = true) (h : At σ b (.cells cs e true sz)) (hx : x.cells.length = n) (h0 : 0 < n) (hle : o + n ≤ cs.length) (hone : x.cells.all AV.oneCell = true) :
    storeV tab σ t (.ptr b o) x = .ok (σ.set b (.cells (splice cs o x.cells) e true sz)) :=
  storeV_at (sizeB_of ht) hx h0 h.1 h.2 hle hone

/- slices that grow -/
def nilS : AV := .base (.slice none 0 0)
structure Vec (σ : St) (e sz n : Nat) (v : AV) (cs : List AV) (fp : List Nat) : Prop where
  len : cs.length = n * sz
  is : (v = nilS ∧ n = 0 ∧ fp = []) ∨ ∃ b, v = .slice b 0 n none sz ∧ At σ b (.cells cs e true sz) ∧ fp = [b]
theorem Vec.nil (σ : St) (e sz : Nat) : Vec σ e sz 0 nilS [] [] := ⟨by simp, .inl ⟨rfl, rfl, rfl⟩⟩
theorem Vec.mod {σ σ' : St} {e sz n : Nat} {v : AV} {cs : List AV} {fp P : List Nat} (h : Vec σ e sz n v cs fp) (hm : Mod P σ σ') (hp : ∀ x ∈ fp, x ∉ P) : Vec σ' e sz n v cs fp := by
  refine ⟨h.len, ?_⟩
  rcases h.is with h1 | ⟨b, h1, h2, h3⟩
  · exact .inl h1
  · exact .inr ⟨b, h1, h2.mod hm (hp b (by rw [h3]; simp)), h3⟩
theorem Vec.grow {σ σ' : St} {e sz n : Nat} {v : AV} {cs : List AV} {fp : List Nat} (h : Vec σ e sz n v cs fp) (hm : Gw σ σ') : Vec σ' e sz n v cs fp := h.mod (hm.mod []) (by simp)
noncomputable def sliceB (t : Nat) : Bool := match und tab t with
  | .ok (.slice _) => true
  | _ => false
theorem Vec.lenV {σ : St} {e sz n : Nat} {v : AV} {cs : List AV} {fp : List Nat} (h : Vec σ e sz n v cs fp) {t : Nat} (ht : sliceB t = true) : lenV tab t v = .ok (intV .i64 (n : Int)) := by
  unfold sliceB at ht
  split at ht
  · rename_i el hu
    rcases h.is with ⟨h1, h2, _⟩ | ⟨b, h1, _, _⟩
    · subst h1; subst h2; simp [Dt.lenV, hu, nilS, bindR_eq]; rfl
    · subst h1; simp [Dt.lenV, hu, bindR_eq]; rfl
  · cases ht
noncomputable def elemB (t e sz : Nat) : Bool := match sliceElem tab t, size tab e with
  | .ok e', .ok s => e' == e && s == sz
  | _, _ => false
theorem elemB_of {t e sz : Nat} (h : elemB t e sz = true) : sliceElem tab t = .ok e ∧ size tab e = .ok sz := by
  unfold elemB at h
  cases h1 : sliceElem tab t with
  | error _ => rw [h1] at h; cases h
  | ok e' =>
    cases h2 : size tab e with
    | error _ => rw [h1, h2] at h; cases h
    | ok s =>
      rw [h1, h2] at h
      simp only [Bool.and_eq_true, beq_iff_eq] at h
      rw [h.1, h.2]; exact ⟨rfl, rfl⟩
theorem und_elem {t e : Nat} (h : sliceElem tab t = .ok e) : und tab t = .ok (.slice e) := by
  unfold sliceElem at h
  rw [bindR_eq, bindR_ok] at h
  obtain ⟨d, h1, h2⟩ := h
  cases d <;> simp at h2
  rename_i x
  rw [h1, h2]
theorem ixAddr {t e sz b o len i : Nat} {cap : Option Nat} {z : Nat} (ht : elemB t e sz = true) (hi : i < len) : indexAddr tab t (.slice b o len cap z) (intV .i64 (i : Int)) = .ok (.ptr b (o + i * sz)) := by
  obtain ⟨h1, h2⟩ := elemB_of ht
  have hi' : (i : Int) < (len : Int) := by omega
  simp [indexAddr, asI, intV, und_elem h1, h2, bindR_eq, hi']

noncomputable def appB (sT xT e sz : Nat) : Bool := match sliceElem tab sT, size tab e, inf tab e, und tab xT, zero tab e with
  | .ok e', .ok s', .ok i, .ok xd, .ok z => e' == e && s' == sz && decide (0 < i.bytes ∧ i.bytes < 2 ^ 14 ∧ 0 < sz) && !isIntD xd && z.cells.length == sz
  | _, _, _, _, _ => false
theorem app1 {sT xT e sz n : Nat} {σ : St} {v : AV} {cs new : List AV} {fp : List Nat} (hok : appB sT xT e sz = true) (_ : WF σ) (hV : Vec σ e sz n v cs fp) (hn : n + 1 < 1073741824) (hl : new.length = sz) (hone : new.all AV.oneCell = true) :
    ∃ σ', appendV tab (σ.push (.cells new e true sz)) sT xT v (.slice σ.n 0 1 (some 1) sz) = .ok (.slice (σ.n + 1) 0 (n + 1) none sz, σ') ∧ At σ' (σ.n + 1) (.cells (cs ++ new) e true sz) ∧ Mod fp σ σ' ∧ σ'.n = σ.n + 2 := by
  unfold appB at hok
  split at hok
  · rename_i e' s' i xd z h1 h2 h3 h4 h5
    simp only [Bool.and_eq_true, beq_iff_eq, decide_eq_true_eq, Bool.not_eq_true'] at hok
    obtain ⟨⟨⟨⟨rfl, rfl⟩, hb⟩, hx⟩, hz⟩ := hok
    have hsrc : srcCells (σ.push (.cells new e' true s')) s' (.slice σ.n 0 1 (some 1) s') = .ok (new, 1) := by
      have hlt : σ.n < (σ.push (.cells new e' true s')).n := by rw [push_n]; omega
      have ht : new.take s' = new := List.take_of_length_le (by omega)
      simp [srcCells, cellsOf, hlt, getO_push_new, takeN, bindR_eq, ht, hl]
    have hc : (!(decide (1 < 2 ^ 30) && decide (0 < i.bytes ∧ i.bytes < 2 ^ 14 ∧ 0 < s') && !isIntD xd && z.cells.length == s')) = false := by
      simp only [Bool.not_eq_false', Bool.and_eq_true, decide_eq_true_eq, beq_iff_eq, hx, Bool.not_false, hz, and_true]
      exact ⟨by omega, hb⟩
    rcases hV.is with ⟨rfl, rfl, rfl⟩ | ⟨b, rfl, hat, rfl⟩
    · have hcs : cs = [] := List.length_eq_zero_iff.1 (by rw [hV.len]; simp)
      subst hcs
      refine ⟨(σ.push (.cells new e' true s')).push (.cells new e' true s'), ?_, ?_, ?_, by simp [push_n]⟩
      · simp only [appendV, h1, h2, h3, h4, h5, hsrc, bindR_eq, bindR_val, hc, nilS]
        rfl
      · exact At.new _ _
      · exact (Mod.push _ _ _).trans (Mod.push _ _ _)
    · have hat1 := hat.push (.cells new e' true s')
      have hold : (cs.drop 0).take (n * s') = cs := by rw [List.drop_zero]; exact List.take_of_length_le (by rw [hV.len]; omega)
      refine ⟨((σ.push (.cells new e' true s')).set b .gone).push (.cells (cs ++ new) e' true s'), ?_, ?_, ?_, by simp [push_n, set_n]⟩
      · have c2 : (!(decide (n + 1 < 2 ^ 30) && true)) = false := by simp; omega
        simp only [appendV, h1, h2, h3, h4, h5, hsrc, bindR_eq, bindR_val, hc, c2, cellsOf, hat1.1, hat1.2, if_true, takeN, hold, hV.len, hone, beq_self_eq_true, Bool.and_self, Bool.not_true, Nat.zero_mod, Bool.true_and]
        rw [if_neg (by simp), if_neg (by simp), if_neg (by simp), if_neg (by simp)]
        rfl
      · exact At.new _ _
      · exact ((Mod.push _ _ _).trans (Mod.set (by simp) hat1.1 _)).trans (Mod.push _ _ _)
  · cases hok
theorem Vec.app {e sz n : Nat} {σ' : St} {cs new : List AV} {b : Nat} (hl : cs.length = n * sz) (hn : new.length = sz) (h : At σ' b (.cells (cs ++ new) e true sz)) : Vec σ' e sz (n + 1) (.slice b 0 (n + 1) none sz) (cs ++ new) [b] :=
  ⟨by rw [List.length_append, hl, hn, Nat.add_mul, Nat.one_mul], .inr ⟨b, rfl, h, rfl⟩⟩
/- values under a condition -/
theorem bindR_cond {α β : Type} (b : Bool) (x y : α) (F : α → R β) : bindR (bif b then .ok x else .ok y : R α) F = F (bif b then x else y) := by cases b <;> rfl
theorem cond_loadV (c : Bool) (σ : St) (t : Nat) (x y : AV) (z : R AV) : (bif c then loadV tab σ t (bif c then x else y) else z) = bif c then loadV tab σ t x else z := by cases c <;> rfl
theorem cond_field (c : Bool) (t f : Nat) (x y : AV) (z : R AV) : (bif c then fieldAddr tab t (bif c then x else y) f else z) = bif c then fieldAddr tab t x f else z := by cases c <;> rfl
theorem cond_len (c : Bool) (t : Nat) (x y : AV) (z : R AV) : (bif c then Dt.lenV tab t (bif c then x else y) else z) = bif c then Dt.lenV tab t x else z := by cases c <;> rfl
theorem cond_binl (c : Bool) (op : BinOp) (t : Nat) (k : Bool) (x y w : AV) (z : R AV) : (bif c then Dt.binOp tab op t (bif c then x else y) w k else z) = bif c then Dt.binOp tab op t x w k else z := by cases c <;> rfl
theorem cond_binr (c : Bool) (op : BinOp) (t : Nat) (k : Bool) (x y w : AV) (z : R AV) : (bif c then Dt.binOp tab op t w (bif c then x else y) k else z) = bif c then Dt.binOp tab op t w x k else z := by cases c <;> rfl
theorem cond_ok (c : Bool) (x y : AV) (z : R AV) : (bif c then .ok (bif c then x else y) else z) = bif c then .ok x else z := by cases c <;> rfl
theorem cond_pick1 (c : Bool) (x y a w : AV) (z : R AV) : (bif c then pickV (bif c then x else y) a w else z) = bif c then pickV x a w else z := by cases c <;> rfl
theorem cond_isB (c d : Bool) (y : AV) (hy : isBoolV y true = false) : isBoolV (bif c then boolV d else y) true = (c && d) := by cases c <;> simp [hy]
theorem pick_or (b c : Bool) (y : AV) : pickV (boolV b) (boolV true) (bif !b then boolV c else y) = .ok (boolV (b || c)) := by cases b <;> rfl
theorem pick_and (b c : Bool) (y : AV) : pickV (boolV b) (bif b then boolV c else y) (boolV false) = .ok (boolV (b && c)) := by cases b <;> rfl

theorem pick_t (x y : AV) : pickV (boolV true) x y = .ok x := eqBy rfl
theorem pick_f (x y : AV) : pickV (boolV false) x y = .ok y := eqBy rfl

/- a record -/
theorem cond_ixa (c : Bool) (t : Nat) (x y i j : AV) (z : R AV) : (bif c then indexAddr tab t (bif c then x else y) (bif c then i else j) else z) = bif c then indexAddr tab t x i else z := by cases c <;> rfl

theorem ixA0 {t e sz b len i : Nat} {cap : Option Nat} {z : Nat} (ht : elemB t e sz = true) (hi : i < len) : indexAddr tab t (.slice b 0 len cap z) (intV .i64 (i : Int)) = .ok (.ptr b (i * sz)) := by
  rw [ixAddr ht hi, Nat.zero_add]

/- rows of cells -/
theorem rows_at (sz : Nat) : ∀ (rows : List (List AV)) (_ : ∀ r ∈ rows, r.length = sz) (i : Nat) (r : List AV), rows[i]? = some r → (rows.flatten.drop (i * sz)).take sz = r
  | [], _, i, r, h => by simp at h
  | a :: l, hl, 0, r, h => by
    have : a = r := by simpa using h
    subst this
    have := hl a (by simp)
    subst this
    simp
  | a :: l, hl, i + 1, r, h => by
    have ha := hl a (by simp)
    have h1 : (a ++ l.flatten).drop sz = l.flatten := by subst ha; simp
    rw [List.flatten_cons, Nat.add_mul, Nat.one_mul, Nat.add_comm, ← List.drop_drop, h1]
    exact rows_at sz l (fun x hx => hl x (by simp [hx])) i r (by simpa using h)
theorem rows_len (sz : Nat) : ∀ (rows : List (List AV)) (_ : ∀ r ∈ rows, r.length = sz), rows.flatten.length = rows.length * sz
  | [], _ => by simp
  | a :: l, hl => by rw [List.flatten_cons, List.length_append, hl a (by simp), rows_len sz l (fun x hx => hl x (by simp [hx])), List.length_cons, Nat.add_mul, Nat.one_mul, Nat.add_comm]

/- items one behind the other -/
theorem len_sl {t b o n : Nat} {cap : Option Nat} {sz : Nat} (ht : sliceB t = true) : lenV tab t (.slice b o n cap sz) = .ok (intV .i64 (n : Int)) := by
  unfold sliceB at ht
  split at ht
  · rename_i el hu
    simp [Dt.lenV, hu, bindR_eq]; rfl
  · cases ht

theorem cond_cond {α : Type} (c : Bool) (x y z : α) : (bif c then (bif c then x else y) else z) = bif c then x else z := by cases c <;> rfl
theorem cond_isBu (c d : Bool) : isBoolV (bif c then boolV d else AV.undef) true = (c && d) := by cases c <;> cases d <;> rfl
theorem cond_W (c : Bool) (n : Nat) (x y : AV) (σ : St) (z : R (AEnd × St)) : (bif c then W n [bif c then x else y] σ else z) = bif c then W n [x] σ else z := by cases c <;> rfl
theorem retK_cond {ρ : Type} (c : Bool) (x y : AV) (σ : St) (k : AV → St → R ρ) (kp : AV → St → R ρ) : retK (bif c then (.ret x, σ) else (.ret y, σ)) k kp = k (bif c then x else y) σ := by cases c <;> rfl
theorem cond_not (c : Bool) (x y : AV) (z : R AV) : (bif c then Dt.unOp .not (bif c then x else y) else z) = bif c then Dt.unOp .not x else z := by cases c <;> rfl
theorem pick_in (c d e : Bool) (y y' : AV) (z : R AV) : (bif c then pickV (bif c then boolV d else y) (bif (c && d) then boolV e else y') (boolV false) else z) = bif c then .ok (boolV (d && e)) else z := by cases c <;> cases d <;> rfl

theorem splice_app (l : List AV) : ∀ (A B : List AV) (k : Nat), splice (A ++ B) (A.length + k) l = A ++ splice B k l
  | [], B, k => by simp
  | a :: A, B, k => by
    rw [List.cons_append, List.length_cons, (by omega : A.length + 1 + k = (A.length + k) + 1)]
    show a :: splice (A ++ B) (A.length + k) l = _
    rw [splice_app l A B k]; rfl
end Go.Proofs.YtcibhglcmcgneaaGreatDoor
namespace Go.Proofs.YtcibhglcmcgneaaGreatDoor
open Go Go.Dt
set_option maxRecDepth 100000

theorem wrapI {n : Int} (h1 : -9223372036854775808 ≤ n) (h2 : n < 9223372036854775808) : IntKind.i64.wrap n = n := by
  simp only [IntKind.wrap, IntKind.bits, IntKind.signed]
  simp
  omega

theorem W6 (n m : Int) (hm : 0 < m) (hm2 : m < 4611686018427387904) (σ : St) : W 6 [intV .i64 n, intV .i64 m] σ = .ok (.ret (intV .i64 (n % m)), σ) := by
  refine w6 (by simp) ?_
  rw [ec6]
  have d1 : decide (m < 1) = false := by simp; omega
  have hr := intOp_rem .i64 n m (by omega)
  have e1 := Int.tmod_lt_of_pos n hm
  have e2 : -m < n.tmod m := by
    rcases Int.le_total 0 n with h | h
    · have := Int.tmod_nonneg m h; omega
    · obtain ⟨k, hk⟩ : ∃ k, n = -k := ⟨-n, by omega⟩
      subst hk
      rw [Int.neg_tmod]
      have := Int.tmod_lt_of_pos k hm
      omega
  have e0 : n % m = n.tmod m % m := by
    have h3 : n = n.tmod m + m * n.tdiv m := by have := Int.tmod_add_mul_tdiv n m; omega
    conv => lhs; rw [h3]
    rw [Int.add_mul_emod_self_left]
  by_cases hneg : n.tmod m < 0
  · have d2 : decide (n.tmod m < 0) = true := by simp; omega
    have e3 : n % m = n.tmod m + m := by
      rw [e0, ← Int.add_emod_right, Int.emod_eq_of_lt (by omega) (by omega)]
    simp (decide := true) only [mv_eq, g1_eq, bindR_val, condR_boolV, condT, condF, binOp_int, intOp_add, intOp_lss, puts_cons, puts_nil, putE_same, putE_ne, hr, d1, d2, ec6_1_1_1_1, r6]
    rw [wrapI (by omega) (by omega), e3]
  · have d2 : decide (n.tmod m < 0) = false := by simp; omega
    have e3 : n % m = n.tmod m := by
      rw [e0, Int.emod_eq_of_lt (by omega) e1]
    simp (decide := true) only [mv_eq, g1_eq, bindR_val, condR_boolV, condF, binOp_int, intOp_add, intOp_lss, puts_cons, puts_nil, putE_same, putE_ne, hr, d1, d2, ec6_1_1_1_1, r6]
    rw [e3]
end Go.Proofs.YtcibhglcmcgneaaGreatDoor
namespace Go.Dt
/- what is told of trees at a glance -/
def plainV : Value → Bool
  | .bool _ | .int _ _ | .string _ => true
  | .slice none 0 0 => true
  | _ => false
def plT : Tt → Bool
  | .b v => plainV v
  | .s _ _ _ _ => true
  | _ => false
theorem plainV_one {v : Value} (h : plainV v = true) : AV.oneCell (.base v) = true := by
  cases v <;> first | rfl | (simp [plainV] at h)
theorem plainV_refl {v : Value} (h : plainV v = true) : beqBase v v = true := by
  unfold plainV at h
  split at h
  · simp [beqBase]
  · simp [beqBase]
  · rename_i s
    cases s with | mk b => cases b; simp [beqBase]
  · simp [beqBase]
  · cases h
theorem Dp.cell {σ : St} {lo hi : Nat} : ∀ {t : Tt} {x : AV}, Dp σ lo hi t x → plT t = true → AV.oneCell x = true ∧ beqA x x = true ∧ ∀ n, hi ≤ n → bndA n x = true
  | .b v, x, h, hp => by
    simp only [Dp] at h
    subst h
    exact ⟨plainV_one hp, by unfold beqA; exact plainV_refl hp, fun n _ => rfl⟩
  | .s e len sz cs, x, h, hp => by
    simp only [Dp] at h
    obtain ⟨b, l, rfl, h1, h2, h3, h4, h5⟩ := h
    refine ⟨rfl, by simp [beqA], fun n hn => ?_⟩
    show Nat.blt b n = true
    rw [blt_eq]; simp; omega
  | .a cs, x, h, hp => by cases hp
  | .t cs, x, h, hp => by cases hp
theorem DpL.cells {σ : St} {lo hi : Nat} : ∀ {ts : List Tt} {l : List AV}, DpL σ lo hi ts l → ts.all plT = true → l.all AV.oneCell = true ∧ beqL l l = true ∧ ∀ n, hi ≤ n → bndL n l = true
  | [], l, h, hp => by
    simp only [DpL] at h
    subst h
    exact ⟨rfl, rfl, fun _ _ => rfl⟩
  | t :: ts, l, h, hp => by
    simp only [DpL] at h
    obtain ⟨x, r, rfl, h1, h2⟩ := h
    simp only [List.all_cons, Bool.and_eq_true] at hp
    obtain ⟨a1, a2, a3⟩ := h1.cell hp.1
    obtain ⟨b1, b2, b3⟩ := DpL.cells h2 hp.2
    refine ⟨by simp [a1, b1], by unfold beqL; rw [a2, b2]; rfl, fun n hn => ?_⟩
    unfold bndL
    rw [a3 n hn, b3 n hn]; rfl

theorem DpL.at {σ : St} {lo hi : Nat} : ∀ {ts : List Tt} {l : List AV}, DpL σ lo hi ts l → ∀ (i : Nat) (v : Value), ts[i]? = some (.b v) → l[i]? = some (.base v)
  | [], _, _, i, v, h => by simp at h
  | t :: ts, l, h, i, v, hv => by
    simp only [DpL] at h
    obtain ⟨x, r, rfl, h1, h2⟩ := h
    cases i with
    | zero =>
      simp at hv
      subst hv
      simp only [Dp] at h1
      subst h1
      rfl
    | succ i => simpa using DpL.at h2 i v (by simpa using hv)
end Go.Dt
namespace Go.Proofs.YtcibhglcmcgneaaGreatDoor
open Go Go.Dt
set_option maxRecDepth 100000

/- rows of queries -/
def RowsQ (x : Nat → Int → List Tt) (σ : St) (lo hi : Nat) : List (List AV) → List (Nat × Int) → Prop
  | [], [] => True
  | r :: rs, q :: qs => DpL σ lo hi (x q.1 q.2) r ∧ RowsQ x σ lo hi rs qs
  | _, _ => False
/-- a family of rows -/
structure Fam (x : Nat → Int → List Tt) : Prop where
  len : ∀ j m, (x j m).length = 24
  pl : ∀ j m, (x j m).all plT = true
theorem fam0 : Fam x0 where
  len := fun j m => by unfold x0; split <;> rfl
  pl := fun j m => by unfold x0; split <;> rfl
theorem fam2 : Fam x2 where
  len := fun j m => by unfold x2; split <;> rfl
  pl := fun j m => by unfold x2; split <;> rfl

theorem RowsQ.mono {x : Nat → Int → List Tt} {σ σ' : St} {lo hi lo' hi' : Nat} (h0 : lo' ≤ lo) (h1 : hi ≤ hi') (hb : ∀ b, lo ≤ b → b < hi → σ.getO b ≠ .gone → σ'.getO b = σ.getO b) :
    ∀ {rs : List (List AV)} {qs : List (Nat × Int)}, RowsQ x σ lo hi rs qs → RowsQ x σ' lo' hi' rs qs
  | [], [], _ => trivial
  | _ :: _, _ :: _, h => ⟨DpL.mono h0 h1 hb _ _ h.1, RowsQ.mono h0 h1 hb h.2⟩
  | [], _ :: _, h => h.elim
  | _ :: _, [], h => h.elim
theorem RowsQ.lens {x : Nat → Int → List Tt} (F : Fam x) {σ : St} {lo hi : Nat} : ∀ {rs : List (List AV)} {qs : List (Nat × Int)}, RowsQ x σ lo hi rs qs → (∀ r ∈ rs, r.length = 24) ∧ rs.length = qs.length
  | [], [], _ => ⟨by simp, rfl⟩
  | r :: rs, q :: qs, h => by
    obtain ⟨h1, h2⟩ := RowsQ.lens F h.2
    refine ⟨?_, by simp [h2]⟩
    intro y hy
    rcases List.mem_cons.1 hy with rfl | hy
    · rw [h.1.length, F.len]
    · exact h1 y hy
  | [], _ :: _, h => h.elim
  | _ :: _, [], h => h.elim
theorem RowsQ.flen {x : Nat → Int → List Tt} (F : Fam x) {σ : St} {lo hi : Nat} {rs : List (List AV)} {qs : List (Nat × Int)} (h : RowsQ x σ lo hi rs qs) : rs.flatten.length = qs.length * 24 := by
  obtain ⟨h1, h2⟩ := h.lens F
  rw [rows_len 24 rs h1, h2]
theorem RowsQ.get {x : Nat → Int → List Tt} {σ : St} {lo hi : Nat} : ∀ {rs : List (List AV)} {qs : List (Nat × Int)}, RowsQ x σ lo hi rs qs → ∀ (i : Nat) (q : Nat × Int), qs[i]? = some q → ∃ r, rs[i]? = some r ∧ DpL σ lo hi (x q.1 q.2) r
  | [], [], _, i, q, hq => by simp at hq
  | r :: rs, q0 :: qs, h, 0, q, hq => by
    simp at hq; subst hq
    exact ⟨r, rfl, h.1⟩
  | r :: rs, q0 :: qs, h, i + 1, q, hq => by
    obtain ⟨r', h1, h2⟩ := RowsQ.get h.2 i q (by simpa using hq)
    exact ⟨r', by simpa using h1, h2⟩
  | [], _ :: _, h, _, _, _ => h.elim
  | _ :: _, [], h, _, _, _ => h.elim
theorem RowsQ.app {x : Nat → Int → List Tt} {σ : St} {lo hi : Nat} : ∀ {rs rs' : List (List AV)} {qs qs' : List (Nat × Int)}, RowsQ x σ lo hi rs qs → RowsQ x σ lo hi rs' qs' → RowsQ x σ lo hi (rs ++ rs') (qs ++ qs')
  | [], _, [], _, _, k => k
  | _ :: _, _, _ :: _, _, h, k => ⟨h.1, RowsQ.app h.2 k⟩
  | [], _, _ :: _, _, h, _ => h.elim
  | _ :: _, _, [], _, h, _ => h.elim
theorem RowsQ.take {x : Nat → Int → List Tt} {σ : St} {lo hi : Nat} : ∀ {rs : List (List AV)} {qs : List (Nat × Int)} (n : Nat), RowsQ x σ lo hi rs qs → RowsQ x σ lo hi (rs.take n) (qs.take n)
  | _, _, 0, _ => by simp [RowsQ]
  | [], [], n + 1, _ => by simp [RowsQ]
  | _ :: _, _ :: _, n + 1, h => ⟨h.1, RowsQ.take n h.2⟩
  | [], _ :: _, _ + 1, h => h.elim
  | _ :: _, [], _ + 1, h => h.elim
theorem RowsQ.drop {x : Nat → Int → List Tt} {σ : St} {lo hi : Nat} : ∀ {rs : List (List AV)} {qs : List (Nat × Int)} (n : Nat), RowsQ x σ lo hi rs qs → RowsQ x σ lo hi (rs.drop n) (qs.drop n)
  | _, _, 0, h => by simpa using h
  | [], [], n + 1, _ => by simp [RowsQ]
  | _ :: _, _ :: _, n + 1, h => RowsQ.drop n h.2
  | [], _ :: _, _ + 1, h => h.elim
  | _ :: _, [], _ + 1, h => h.elim
theorem RowsQ.one {x : Nat → Int → List Tt} (F : Fam x) {σ : St} {lo hi : Nat} : ∀ {rs : List (List AV)} {qs : List (Nat × Int)}, RowsQ x σ lo hi rs qs → rs.flatten.all AV.oneCell = true
  | [], [], _ => rfl
  | r :: rs, q :: qs, h => by
    rw [List.flatten_cons, List.all_append, (h.1.cells (F.pl _ _)).1, RowsQ.one F h.2]; rfl
  | [], _ :: _, h => h.elim
  | _ :: _, [], h => h.elim

/- a list of queries -/
structure QL (x : Nat → Int → List Tt) (σ : St) (lo hi : Nat) (v : AV) (qs : List (Nat × Int)) : Prop where
  is : (v = nilS ∧ qs = []) ∨ ∃ b cap rows rest, v = .slice b 0 qs.length cap 24 ∧ lo ≤ b ∧ b < hi ∧ At σ b (.cells (rows.flatten ++ rest) 68 true 24) ∧ RowsQ x σ lo b rows qs
/-- a list that was made by appending -/
structure QV (x : Nat → Int → List Tt) (σ : St) (lo hi : Nat) (v : AV) (qs : List (Nat × Int)) : Prop where
  is : (v = nilS ∧ qs = []) ∨ ∃ b rows, v = .slice b 0 qs.length none 24 ∧ lo ≤ b ∧ b < hi ∧ At σ b (.cells rows.flatten 68 true 24) ∧ RowsQ x σ lo b rows qs
theorem QV.ql {x : Nat → Int → List Tt} {σ : St} {lo hi : Nat} {v : AV} {qs : List (Nat × Int)} (h : QV x σ lo hi v qs) : QL x σ lo hi v qs := by
  rcases h.is with h | ⟨b, rows, h1, h2, h3, h4, h5⟩
  · exact ⟨.inl h⟩
  · exact ⟨.inr ⟨b, none, rows, [], h1, h2, h3, by simpa using h4, h5⟩⟩
theorem At.same {σ σ' : St} {b : Nat} {o : AO} (h : At σ b o) (hn : σ.n ≤ σ'.n) (he : σ'.getO b = σ.getO b) : At σ' b o := ⟨Nat.lt_of_lt_of_le h.1 hn, he.trans h.2⟩
theorem QL.mono {x : Nat → Int → List Tt} {σ σ' : St} {lo hi lo' hi' : Nat} {v : AV} {qs : List (Nat × Int)} (h : QL x σ lo hi v qs) (h0 : lo' ≤ lo) (h1 : hi ≤ hi') (hn : σ.n ≤ σ'.n)
    (hb : ∀ b, lo ≤ b → b < hi → σ.getO b ≠ .gone → σ'.getO b = σ.getO b) : QL x σ' lo' hi' v qs := by
  rcases h.is with h | ⟨b, cap, rows, rest, k1, k2, k3, k4, k5⟩
  · exact ⟨.inl h⟩
  · refine ⟨.inr ⟨b, cap, rows, rest, k1, by omega, by omega, k4.same hn (hb b k2 k3 (by rw [k4.2]; simp)), ?_⟩⟩
    exact k5.mono h0 (Nat.le_refl _) fun c hc1 hc2 hg => hb c hc1 (by omega) hg
theorem QV.mono {x : Nat → Int → List Tt} {σ σ' : St} {lo hi lo' hi' : Nat} {v : AV} {qs : List (Nat × Int)} (h : QV x σ lo hi v qs) (h0 : lo' ≤ lo) (h1 : hi ≤ hi') (hn : σ.n ≤ σ'.n)
    (hb : ∀ b, lo ≤ b → b < hi → σ.getO b ≠ .gone → σ'.getO b = σ.getO b) : QV x σ' lo' hi' v qs := by
  rcases h.is with h | ⟨b, rows, k1, k2, k3, k4, k5⟩
  · exact ⟨.inl h⟩
  · refine ⟨.inr ⟨b, rows, k1, by omega, by omega, k4.same hn (hb b k2 k3 (by rw [k4.2]; simp)), ?_⟩⟩
    exact k5.mono h0 (Nat.le_refl _) fun c hc1 hc2 hg => hb c hc1 (by omega) hg
theorem QL.gw {x : Nat → Int → List Tt} {σ σ' : St} {lo hi : Nat} {v : AV} {qs : List (Nat × Int)} (h : QL x σ lo hi v qs) (g : Gw σ σ') : QL x σ' lo hi v qs :=
  h.mono (Nat.le_refl _) (Nat.le_refl _) g.n fun b _ _ hg => g.old b (getO_gone hg)
theorem QV.gw {x : Nat → Int → List Tt} {σ σ' : St} {lo hi : Nat} {v : AV} {qs : List (Nat × Int)} (h : QV x σ lo hi v qs) (g : Gw σ σ') : QV x σ' lo hi v qs :=
  h.mono (Nat.le_refl _) (Nat.le_refl _) g.n fun b _ _ hg => g.old b (getO_gone hg)

theorem sl24 : sliceB 24 = true := by kernel_rfl
theorem el24 : elemB 24 68 24 = true := by kernel_rfl
theorem a68 : aggB 68 24 = true := by kernel_rfl
theorem QL.cell {x : Nat → Int → List Tt} {σ : St} {lo hi : Nat} {v : AV} {qs : List (Nat × Int)} (h : QL x σ lo hi v qs) : AV.oneCell v = true ∧ beqA v v = true ∧ (∀ n, hi ≤ n → bndA n v = true) ∧ v.cells = [v] := by
  rcases h.is with ⟨rfl, _⟩ | ⟨b, cap, rows, rest, rfl, k2, k3, _⟩
  · exact ⟨rfl, rfl, fun _ _ => rfl, rfl⟩
  · refine ⟨rfl, by simp [beqA], fun n hn => ?_, rfl⟩
    show Nat.blt b n = true
    rw [blt_eq]; simp; omega
theorem QL.lenV {x : Nat → Int → List Tt} {σ : St} {lo hi : Nat} {v : AV} {qs : List (Nat × Int)} (h : QL x σ lo hi v qs) : lenV tab 24 v = .ok (intV .i64 (qs.length : Int)) := by
  rcases h.is with ⟨rfl, rfl⟩ | ⟨b, cap, rows, rest, rfl, k2, k3, _⟩
  · exact (Vec.nil σ 68 24).lenV sl24
  · exact len_sl sl24
/-- a query of the list -/
theorem QL.get {x : Nat → Int → List Tt} (F : Fam x) {σ : St} {lo hi : Nat} {v : AV} {qs : List (Nat × Int)} (h : QL x σ lo hi v qs) {i : Nat} {q : Nat × Int} (hq : qs[i]? = some q) :
    ∃ b r, indexAddr tab 24 v (intV .i64 (i : Int)) = .ok (.ptr b (i * 24)) ∧ loadV tab σ 68 (.ptr b (i * 24)) = .ok (.agg r) ∧ DpL σ lo hi (x q.1 q.2) r ∧ r.length = 24 := by
  have hi' : i < qs.length := (List.getElem?_eq_some_iff.1 hq).1
  rcases h.is with ⟨rfl, rfl⟩ | ⟨b, cap, rows, rest, rfl, k2, k3, k4, k5⟩
  · simp at hq
  · obtain ⟨r, hr, hd⟩ := k5.get i q hq
    have hl := k5.lens F
    have hrl : r.length = 24 := by rw [hd.length, F.len]
    refine ⟨b, r, ixA0 el24 hi', lda a68 k4 ?_ hrl, DpL.mono (Nat.le_refl _) (Nat.le_of_lt k3) (fun _ _ _ _ => rfl) _ _ hd, hrl⟩
    have hrows := rows_at 24 rows hl.1 i r hr
    have hle : i * 24 + 24 ≤ rows.flatten.length := by rw [k5.flen F]; omega
    rw [List.drop_append_of_le_length (by omega), List.take_append_of_le_length (by rw [List.length_drop]; omega)]
    exact hrows
end Go.Proofs.YtcibhglcmcgneaaGreatDoor
namespace Go.Proofs.YtcibhglcmcgneaaGreatDoor
open Go Go.Dt
set_option maxRecDepth 100000

theorem l3 : leafB 3 = true := by kernel_rfl
theorem l4 : leafB 4 = true := by kernel_rfl
theorem l9 : leafB 9 = true := by kernel_rfl
theorem l23 : leafB 23 = true := by kernel_rfl
theorem l24 : leafB 24 = true := by kernel_rfl
theorem l25 : leafB 25 = true := by kernel_rfl
theorem l37 : leafB 37 = true := by kernel_rfl
theorem a33 : aggB 33 4 = true := by kernel_rfl
theorem a41 : aggB 41 5 = true := by kernel_rfl
theorem a29 : aggB 29 7 = true := by kernel_rfl
theorem a27 : aggB 27 3 = true := by kernel_rfl
theorem a70 : aggB 70 2 = true := by kernel_rfl
theorem a55 : aggB 55 12 = true := by kernel_rfl
theorem s24 : sizeB 24 1 = true := by kernel_rfl
theorem s25 : sizeB 25 1 = true := by kernel_rfl
theorem s27 : sizeB 27 3 = true := by kernel_rfl
theorem s29 : sizeB 29 7 = true := by kernel_rfl
theorem s68 : sizeB 68 24 = true := by kernel_rfl
theorem s3 : sizeB 3 1 = true := by kernel_rfl
theorem s37 : sizeB 37 1 = true := by kernel_rfl
theorem s70 : sizeB 70 2 = true := by kernel_rfl
theorem s55 : sizeB 55 12 = true := by kernel_rfl
theorem box33 (a b c d : AV) (n : Nat) : boxA tab 33 (.agg [a, b, c, d]) n = .ok (.ptr n 0, .cells [a, b, c, d] 33 true 4) := by kernel_rfl
theorem box41 (a b c d e : AV) (n : Nat) : boxA tab 41 (.agg [a, b, c, d, e]) n = .ok (.ptr n 0, .cells [a, b, c, d, e] 41 true 5) := by kernel_rfl
theorem box29 (a b c d e f g : AV) (n : Nat) : boxA tab 29 (.agg [a, b, c, d, e, f, g]) n = .ok (.ptr n 0, .cells [a, b, c, d, e, f, g] 29 true 7) := by kernel_rfl
theorem box94 (a b c d e f g : AV) (n : Nat) : boxA tab 94 (.agg [a, b, c, d, e, f, g]) n = .ok (.ptr n 0, .cells [a, b, c, d, e, f, g] 94 true 7) := by kernel_rfl
theorem box3 (a : Int) (n : Nat) : boxA tab 3 (intV .i64 a) n = .ok (.ptr n 0, .cells [intV .i64 a] 3 true 1) := by kernel_rfl
theorem box68 (l : List AV) (n : Nat) : boxA tab 68 (.agg l) n = .ok (.ptr n 0, .cells l 68 true 24) := by kernel_rfl
theorem build94 (a b c d e f g : AV) : Dt.build tab 94 [(0, .agg [a, b, c, d, e, f, g])] = .ok (.agg [a, b, c, d, e, f, g]) := by kernel_rfl
theorem build29 : Dt.build tab 29 [] = .ok (.agg [boolV false, intV .u64 0, intV .i64 0, nilS, intV .i64 0, nilS, intV .i64 0]) := by kernel_rfl
def z29 : List AV := [boolV false, intV .u64 0, intV .i64 0, nilS, intV .i64 0, nilS, intV .i64 0]
theorem alloc29 (n : Nat) : allocA tab 29 n = .ok (.ptr n 0, .cells z29 29 true 7) := by kernel_rfl
def z68 : List AV := [intV .i64 0, intV .i64 0, intV .i64 0, intV .i64 0, intV .i64 0, boolV false, intV .u64 0, nilS, str [], nilS, intV .u64 0, nilS, nilS, nilS, nilS, intV .u64 0, intV .i64 0, nilS, intV .i64 0, intV .u64 0, boolV false, intV .u64 0, nilS, nilS]
theorem alloc68 (n : Nat) : allocA tab 68 n = .ok (.ptr n 0, .cells z68 68 true 24) := by kernel_rfl
theorem fa29_0 (b o : Nat) : fieldAddr tab 29 (.ptr b o) 0 = .ok (.ptr b o) := by kernel_rfl
theorem fa29_1 (b o : Nat) : fieldAddr tab 29 (.ptr b o) 1 = .ok (.ptr b (o + 1)) := by kernel_rfl
theorem fa29_2 (b o : Nat) : fieldAddr tab 29 (.ptr b o) 2 = .ok (.ptr b (o + 2)) := by kernel_rfl
theorem fa29_3 (b o : Nat) : fieldAddr tab 29 (.ptr b o) 3 = .ok (.ptr b (o + 3)) := by kernel_rfl
theorem fa29_4 (b o : Nat) : fieldAddr tab 29 (.ptr b o) 4 = .ok (.ptr b (o + 4)) := by kernel_rfl
theorem fa27_0 (b o : Nat) : fieldAddr tab 27 (.ptr b o) 0 = .ok (.ptr b o) := by kernel_rfl
theorem fa27_1 (b o : Nat) : fieldAddr tab 27 (.ptr b o) 1 = .ok (.ptr b (o + 1)) := by kernel_rfl
theorem fa27_2 (b o : Nat) : fieldAddr tab 27 (.ptr b o) 2 = .ok (.ptr b (o + 2)) := by kernel_rfl
theorem fa94_0 (b o : Nat) : fieldAddr tab 94 (.ptr b o) 0 = .ok (.ptr b o) := by kernel_rfl
theorem fa68_0 (b o : Nat) : fieldAddr tab 68 (.ptr b o) 0 = .ok (.ptr b o) := by kernel_rfl
theorem fa68_2 (b o : Nat) : fieldAddr tab 68 (.ptr b o) 2 = .ok (.ptr b (o + 13)) := by kernel_rfl
theorem fa68_3 (b o : Nat) : fieldAddr tab 68 (.ptr b o) 3 = .ok (.ptr b (o + 21)) := by kernel_rfl
theorem fa65_0 (b o : Nat) : fieldAddr tab 65 (.ptr b o) 0 = .ok (.ptr b o) := by kernel_rfl
theorem fa62_3 (b o : Nat) : fieldAddr tab 62 (.ptr b o) 3 = .ok (.ptr b (o + 3)) := by kernel_rfl
theorem fa41_1 (b o : Nat) : fieldAddr tab 41 (.ptr b o) 1 = .ok (.ptr b (o + 1)) := by kernel_rfl
theorem fa41_2 (b o : Nat) : fieldAddr tab 41 (.ptr b o) 2 = .ok (.ptr b (o + 2)) := by kernel_rfl
theorem fa41_3 (b o : Nat) : fieldAddr tab 41 (.ptr b o) 3 = .ok (.ptr b (o + 3)) := by kernel_rfl
theorem nilCheck_ptr (b o : Nat) : nilCheckV (.ptr b o) = .ok (.ptr b o) := rfl
theorem app24 : appB 24 24 68 24 = true := by kernel_rfl
theorem bs24' (a0 a1 a2 a3 a4 a5 a6 a7 a8 a9 b0 b1 b2 b3 b4 b5 b6 b7 b8 b9 c0 c1 c2 c3 : AV) (n : Nat) : buildSliceA tab 24 1 [(0, .agg [a0, a1, a2, a3, a4, a5, a6, a7, a8, a9, b0, b1, b2, b3, b4, b5, b6, b7, b8, b9, c0, c1, c2, c3])] n = .ok (.slice n 0 1 (some 1) 24, .cells [a0, a1, a2, a3, a4, a5, a6, a7, a8, a9, b0, b1, b2, b3, b4, b5, b6, b7, b8, b9, c0, c1, c2, c3] 68 true 24) := by kernel_rfl
theorem bs24 (r : List AV) (hl : r.length = 24) (n : Nat) : buildSliceA tab 24 1 [(0, .agg r)] n = .ok (.slice n 0 1 (some 1) 24, .cells r 68 true 24) := by
  match r, hl with
  | [a0, a1, a2, a3, a4, a5, a6, a7, a8, a9, b0, b1, b2, b3, b4, b5, b6, b7, b8, b9, c0, c1, c2, c3], _ => exact bs24' a0 a1 a2 a3 a4 a5 a6 a7 a8 a9 b0 b1 b2 b3 b4 b5 b6 b7 b8 b9 c0 c1 c2 c3 n

/-- memory but for the blocks from lo on -/
structure Up (lo : Nat) (σ σ' : St) : Prop where
  n : σ.n ≤ σ'.n
  old : ∀ b, b < σ.n → b < lo → σ'.getO b = σ.getO b
  len : σ.l.length = σ.n → σ'.l.length = σ'.n
  M : σ'.M = σ.M
end Go.Proofs.YtcibhglcmcgneaaGreatDoor
namespace Go.Dt
open Go.Proofs.YtcibhglcmcgneaaGreatDoor
theorem Gw.up {σ σ' : St} (g : Gw σ σ') (lo : Nat) : Up lo σ σ' := ⟨g.n, fun b hb _ => g.old b hb, g.len, g.M⟩
end Go.Dt
namespace Go.Proofs.YtcibhglcmcgneaaGreatDoor
open Go Go.Dt
set_option maxRecDepth 100000
theorem Up.gw {lo : Nat} {σ σ' : St} (u : Up lo σ σ') (h : σ.n ≤ lo) : Gw σ σ' := ⟨u.n, fun b hb => u.old b hb (by omega), u.len, u.M⟩
theorem Up.trans {lo : Nat} {a b c : St} (h : Up lo a b) (k : Up lo b c) : Up lo a c :=
  ⟨Nat.le_trans h.n k.n, fun x hx hl => (k.old x (Nat.lt_of_lt_of_le hx h.n) hl).trans (h.old x hx hl), fun hl => k.len (h.len hl), k.M.trans h.M⟩
theorem Up.le {lo lo' : Nat} {a b : St} (h : Up lo a b) (hl : lo' ≤ lo) : Up lo' a b := ⟨h.n, fun x hx hl' => h.old x hx (by omega), h.len, h.M⟩
theorem Up.set {lo : Nat} {σ : St} {b : Nat} (hb : lo ≤ b) (hlt : b < σ.n) (o : AO) : Up lo σ (σ.set b o) :=
  ⟨Nat.le_refl _, fun x _ hl => getO_set_other hlt (by omega), fun h => by simp [St.set]; exact h, rfl⟩
theorem At.up {lo : Nat} {σ σ' : St} {b : Nat} {o : AO} (h : At σ b o) (u : Up lo σ σ') (hl : b < lo) : At σ' b o := ⟨Nat.lt_of_lt_of_le h.1 u.n, (u.old b h.1 hl).trans h.2⟩
theorem At.gw {σ σ' : St} {b : Nat} {o : AO} (h : At σ b o) (g : Gw σ σ') : At σ' b o := ⟨Nat.lt_of_lt_of_le h.1 g.n, (g.old b h.1).trans h.2⟩

/-- a query is appended -/
theorem appQ {x : Nat → Int → List Tt} (F : Fam x) {s : St} (hw : WF s) {lo hi : Nat} {v : AV} {qs : List (Nat × Int)} (h : QV x s lo hi v qs) (h0 : lo ≤ hi) (hh : hi ≤ s.n) {r : List AV} {j : Nat} {m : Int} (hr : DpL s hi s.n (x j m) r) (hn : qs.length + 1 < 1073741824) :
    ∃ v2 s2, appendV tab (s.push (.cells r 68 true 24)) 24 24 v (.slice s.n 0 1 (some 1) 24) = .ok (v2, s2) ∧ s2.n = s.n + 2 ∧ QV x s2 lo s2.n v2 (qs ++ [(j, m)]) ∧ Up lo s s2 := by
  have hrl : r.length = 24 := by rw [hr.length, F.len]
  have hro := (hr.cells (F.pl j m)).1
  have key : ∃ cs fp rows, Vec s 68 24 qs.length v cs fp ∧ cs = rows.flatten ∧ RowsQ x s lo hi rows qs ∧ (∀ y ∈ fp, lo ≤ y ∧ y < s.n ∧ RowsQ x s lo y rows qs) ∧ (fp = [] → rows = []) := by
    rcases h.is with ⟨rfl, rfl⟩ | ⟨b, rows, rfl, k2, k3, k4, k5⟩
    · exact ⟨[], [], [], Vec.nil s 68 24, rfl, by simp [RowsQ], by simp, by simp⟩
    · refine ⟨rows.flatten, [b], rows, ⟨k5.flen F, .inr ⟨b, rfl, k4, rfl⟩⟩, rfl, k5.mono (Nat.le_refl _) (Nat.le_of_lt k3) (fun _ _ _ _ => rfl), ?_, by simp⟩
      intro y hy
      simp only [List.mem_singleton] at hy
      subst hy
      exact ⟨k2, k4.1, k5⟩
  obtain ⟨cs, fp, rows, hV, rfl, hrows, hfp, hfp0⟩ := key
  obtain ⟨s2, e1, e2, e3, e4⟩ := app1 (new := r) app24 hw hV hn hrl hro
  refine ⟨_, s2, e1, e4, ?_, ?_⟩
  · refine ⟨.inr ⟨s.n + 1, rows ++ [r], by simp, by omega, by omega, ?_, ?_⟩⟩
    · simpa using e2
    · refine RowsQ.app ?_ ⟨?_, trivial⟩
      · cases fp with
        | nil => rw [hfp0 rfl] at hrows ⊢; exact hrows.mono (Nat.le_refl _) (by omega) (by
            intro b hb1 hb2 hg
            exact e3.old b (by omega) (by simp))
        | cons y ys =>
          obtain ⟨f1, f2, f3⟩ := hfp y (by simp)
          have hys : ys = [] := by
            rcases hV.is with ⟨_, _, h3⟩ | ⟨b, _, _, h3⟩
            · cases h3
            · cases h3; rfl
          subst hys
          exact f3.mono (Nat.le_refl _) (by omega) (by
            intro b hb1 hb2 hg
            refine e3.old b (by omega) ?_
            simp only [List.mem_singleton]
            omega)
      · refine DpL.mono h0 (by omega) ?_ _ _ hr
        intro b hb1 hb2 hg
        refine e3.old b (by omega) ?_
        intro hb
        rcases h.is with ⟨rfl, rfl⟩ | ⟨c, rows', rfl, k2, k3, k4, k5⟩
        · rcases hV.is with ⟨_, _, h3⟩ | ⟨c, h3, _, _⟩
          · rw [h3] at hb; cases hb
          · cases h3
        · rcases hV.is with ⟨h3, _, _⟩ | ⟨c', h3, _, h4⟩
          · cases h3
          · cases h3
            rw [h4] at hb
            simp only [List.mem_singleton] at hb
            omega
  · exact ⟨by omega, fun b hb hl => e3.old b hb (fun hf => by have := (hfp b hf).1; omega), fun hl => e3.len hl, e3.M⟩
end Go.Proofs.YtcibhglcmcgneaaGreatDoor
