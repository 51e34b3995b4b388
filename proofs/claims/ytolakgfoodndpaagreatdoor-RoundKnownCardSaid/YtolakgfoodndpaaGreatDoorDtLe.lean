/-
  The staged reading says no more than the plain one: trees, integers, pure operations. No statement of this seat stands here.
-/
import Derived.Test.YtolakgfoodndpaaGreatDoorDtFast
import Derived.Test.YtolakgfoodndpaaGreatDoorDtReg2
namespace Go.Dt

def Le {α : Type} (x y : R α) : Prop := ∀ a, x = .ok a → y = .ok a

theorem Le.refl {α : Type} (x : R α) : Le x x := fun _ h => h
theorem Le.of_eq {α : Type} {x y : R α} (h : x = y) : Le x y := h ▸ Le.refl x
theorem Le.error {α : Type} {e : String} {y : R α} : Le (.error e : R α) y := fun _ h => by cases h
theorem Le.trans {α : Type} {x y z : R α} (h : Le x y) (k : Le y z) : Le x z := fun a ha => k a (h a ha)
theorem Le.bind {α β : Type} {x y : R α} {f g : α → R β} (h : Le x y) (k : ∀ a, x = .ok a → Le (f a) (g a)) :
    Le (match x with | .ok a => f a | .error e => .error e) (y >>= g) := by
  cases x with
  | error e => exact Le.error
  | ok a =>
    have := h a rfl
    rw [this]
    exact k a rfl

theorem Le.step {α β : Type} {x y : R α} {F : R β} {g : α → R β} (h : Le x y) (he : ∀ e, x = .error e → ∃ e', F = .error e') (ho : ∀ a, x = .ok a → Le F (g a)) : Le F (y >>= g) := by
  cases hx : x with
  | error e =>
    obtain ⟨e', hF⟩ := he e hx
    rw [hF]; exact Le.error
  | ok a =>
    have hy := h a hx
    rw [hy]
    exact ho a hx

/- trees -/
theorem beq_eq (a b : Nat) : Nat.beq a b = decide (a = b) := by
  by_cases h : a = b
  · subst h; simp
  · have : Nat.beq a b = false := by
      cases hb : Nat.beq a b with
      | false => rfl
      | true => exact (h (Nat.eq_of_beq_eq_true hb)).elim
    simp [h, this]
theorem blt_eq (a b : Nat) : Nat.blt a b = decide (a < b) := by
  by_cases h : a < b
  · simp [h, Nat.blt, Nat.ble_eq_true_of_le h]
  · have : Nat.blt a b = false := by
      cases hb : Nat.blt a b with
      | false => rfl
      | true => exact (h (by simpa [Nat.blt_eq] using hb)).elim
    simp [h, this]
theorem ble_eq' (a b : Nat) : Nat.ble a b = decide (a ≤ b) := by
  by_cases h : a ≤ b
  · simp [h, Nat.ble_eq_true_of_le h]
  · have : Nat.ble a b = false := by
      cases hb : Nat.ble a b with
      | false => rfl
      | true => exact (h (Nat.le_of_ble_eq_true hb)).elim
    simp [h, this]

theorem sel_upd (i j : Nat) (hi : i < 8) (hj : j < 8) (g : RT → RT) (t : RT) : (sel i).run ((updN j).run g t) = if i = j then g ((sel j).run t) else (sel i).run t := by
  have h1 : i = 0 ∨ i = 1 ∨ i = 2 ∨ i = 3 ∨ i = 4 ∨ i = 5 ∨ i = 6 ∨ i = 7 := by omega
  have h2 : j = 0 ∨ j = 1 ∨ j = 2 ∨ j = 3 ∨ j = 4 ∨ j = 5 ∨ j = 6 ∨ j = 7 := by omega
  rcases h1 with rfl | rfl | rfl | rfl | rfl | rfl | rfl | rfl <;> rcases h2 with rfl | rfl | rfl | rfl | rfl | rfl | rfl | rfl <;> cases t <;> rfl

theorem gc_succ (d k : Nat) (t : RT) : (gc (d + 1) k).run t = (gc d (k / 8)).run ((sel (k % 8)).run t) := rfl
theorem sc_succ (d k : Nat) (v : AV) (t : RT) : (sc (d + 1) k).run v t = (updN (k % 8)).run (fun t => (sc d (k / 8)).run v t) t := rfl

theorem gc_sc : ∀ (d k j : Nat) (v : AV) (t : RT), k < 8 ^ d → j < 8 ^ d → (gc d j).run ((sc d k).run v t) = if j = k then v else (gc d j).run t := by
  intro d
  induction d with
  | zero =>
    intro k j v t hk hj
    have : j = k := by simp at hk hj; omega
    simp only [this, if_true]
    rfl
  | succ d ih =>
    intro k j v t hk hj
    rw [gc_succ, gc_succ, sc_succ, sel_upd _ _ (Nat.mod_lt _ (by omega)) (Nat.mod_lt _ (by omega))]
    have hk' : k / 8 < 8 ^ d := by rw [Nat.pow_succ] at hk; omega
    have hj' : j / 8 < 8 ^ d := by rw [Nat.pow_succ] at hj; omega
    by_cases h : j % 8 = k % 8
    · rw [if_pos h, ih _ _ _ _ hk' hj', h]
      by_cases h2 : j / 8 = k / 8
      · have : j = k := by omega
        simp [h2, this]
      · have : j ≠ k := fun e => h2 (by rw [e])
        simp [h2, this]
    · rw [if_neg h]
      have : j ≠ k := fun e => h (by rw [e])
      simp [this]

theorem gc_e : ∀ (d k : Nat), (gc d k).run .e = .undef := by
  intro d
  induction d with
  | zero => intro k; rfl
  | succ d ih =>
    intro k
    rw [gc_succ]
    have : ∀ i, (sel i).run .e = .e := by
      intro i
      unfold sel
      cases Nat.beq i 0 <;> cases Nat.beq i 1 <;> cases Nat.beq i 2 <;> cases Nat.beq i 3 <;> cases Nat.beq i 4 <;> cases Nat.beq i 5 <;> cases Nat.beq i 6 <;> rfl
    rw [this]
    exact ih _

theorem depF_ok : ∀ (f d m : Nat), m ≤ f + 1 → d ≤ depF f d m ∧ m ≤ 8 ^ (depF f d m - d) := by
  intro f
  induction f with
  | zero => intro d m h; simp [depF]; omega
  | succ f ih =>
    intro d m h
    unfold depF
    rw [ble_eq']
    by_cases hm : m ≤ 1
    · simp only [hm, decide_true, cond_true]
      refine ⟨Nat.le_refl _, ?_⟩
      simp; omega
    · simp only [hm, decide_false, cond_false]
      have hm' : (Nat.add m 7).div 8 = (m + 7) / 8 := rfl
      rw [hm']
      obtain ⟨h1, h2⟩ := ih (d + 1) ((m + 7) / 8) (by omega)
      refine ⟨Nat.le_trans (Nat.le_succ d) h1, ?_⟩
      have h3 : depF f (d + 1) ((m + 7) / 8) - d = (depF f (d + 1) ((m + 7) / 8) - (d + 1)) + 1 := by omega
      show m ≤ 8 ^ (depF f (d + 1) ((m + 7) / 8) - d)
      rw [h3, Nat.pow_succ]
      omega

theorem dep_ok (n : Nat) : n ≤ 8 ^ dep n := by
  have := (depF_ok n 0 n (Nat.le_succ n)).2
  simpa [dep] using this

/-- the tree holds the list -/
structure TR (n : Nat) (T : RT) (L : List AV) : Prop where
  len : L.length = n
  get : ∀ k, k < n → (gc (dep n) k).run T = L.getD k .undef

theorem TR.getC {n : Nat} {T : RT} {L : List AV} (h : TR n T L) (k : Nat) : (getC n k).run T = L.getD k .undef := by
  unfold Dt.getC
  rw [blt_eq]
  by_cases hk : k < n
  · simp only [hk, decide_true, cond_true]; exact h.get k hk
  · simp only [hk, decide_false, cond_false]
    rw [List.getD_eq_getElem?_getD, List.getElem?_eq_none (by rw [h.len]; omega)]
    rfl

theorem TR.set {n : Nat} {T : RT} {L : List AV} (h : TR n T L) (k : Nat) (v : AV) : TR n ((setT n k).run v T) (L.set k v) := by
  unfold setT
  rw [blt_eq]
  by_cases hk : k < n
  · simp only [hk, decide_true, cond_true]
    refine ⟨by rw [List.length_set]; exact h.len, fun j hj => ?_⟩
    rw [gc_sc _ _ _ _ _ (Nat.lt_of_lt_of_le hk (dep_ok n)) (Nat.lt_of_lt_of_le hj (dep_ok n)), List.getD_eq_getElem?_getD, List.getElem?_set]
    by_cases e : j = k
    · subst e; simp [h.len, hk]
    · have e' : ¬ k = j := fun x => e x.symm
      simp only [e, e', if_false]
      rw [h.get j hj, List.getD_eq_getElem?_getD]
  · simp only [hk, decide_false, cond_false]
    rw [List.set_eq_of_length_le (by rw [h.len]; omega)]
    exact h

theorem TR.put {n : Nat} {T : RT} {L : List AV} (h : TR n T L) (d : Option Tmp) (v : AV) : TR n ((putC n d).run v T) (put L d v) := by
  cases d with
  | none => exact h
  | some d => exact h.set d v

theorem TR.ev {D : Tab} {n : Nat} {T : RT} {L : List AV} (h : TR n T L) (x : Operand) : (opd D n x).run T = evalO D L x := by
  cases x with
  | tmp t => exact h.getC t
  | const v => rfl
  | global g =>
    simp only [opd, evalO, blt_eq]
    by_cases hg : g < D.nglob <;> simp [hg]
  | func f => rfl

theorem TR.opds {D : Tab} {n : Nat} {T : RT} {L : List AV} (h : TR n T L) : (fun x => (opd D n x).run T) = evalO D L := funext fun x => h.ev x

/- integers -/
theorem same_eq (a b : IntKind) : IntKind.same a b = decide (a = b) := by
  cases a <;> cases b <;> rfl

theorem bif_self {α : Type} {c : Bool} {a b : α} (h : c = true → a = b) : (bif c then a else b) = b := by
  cases c with
  | false => rfl
  | true => exact h rfl

theorem wrap_i64 (m : Nat) (h : m < 9223372036854775808) : IntKind.i64.wrap (.ofNat m) = .ofNat m := by
  simp only [IntKind.wrap, IntKind.signed, IntKind.bits]
  simp
  omega
theorem wrap_u64 (m : Nat) (h : m < 18446744073709551616) : IntKind.u64.wrap (.ofNat m) = .ofNat m := by
  simp only [IntKind.wrap, IntKind.signed, IntKind.bits]
  simp
  omega
theorem wrap_u8 (m : Nat) (h : m < 256) : IntKind.u8.wrap (.ofNat m) = .ofNat m := by
  simp only [IntKind.wrap, IntKind.signed, IntKind.bits]
  simp
  omega
theorem wrap_i32 (m : Nat) (h : m < 2147483648) : IntKind.i32.wrap (.ofNat m) = .ofNat m := by
  simp only [IntKind.wrap, IntKind.signed, IntKind.bits]
  simp
  omega
theorem wrap_neg64 (m : Nat) (h : m < 9223372036854775808) : IntKind.i64.wrap (.negSucc m) = .negSucc m := by
  simp only [IntKind.wrap, IntKind.signed, IntKind.bits]
  simp
  omega

theorem blt_lt {a b : Nat} (h : Nat.blt a b = true) : a < b := by rw [blt_eq] at h; exact of_decide_eq_true h

theorem wrapS_eq (k : IntKind) (n : Int) : wrapS k n = k.wrap n := by
  cases n with
  | ofNat m =>
    cases k with
    | i64 => exact bif_self fun h => (wrap_i64 m (blt_lt h)).symm
    | u64 => exact bif_self fun h => (wrap_u64 m (blt_lt h)).symm
    | u8 => exact bif_self fun h => (wrap_u8 m (blt_lt h)).symm
    | i32 => exact bif_self fun h => (wrap_i32 m (blt_lt h)).symm
    | _ => rfl
  | negSucc m =>
    cases k with
    | i64 => exact bif_self fun h => (wrap_neg64 m (blt_lt h)).symm
    | _ => rfl

theorem ltI_eq (a b : Int) : ltI a b = decide (a < b) := by
  cases a <;> cases b <;> simp only [ltI, blt_eq] <;> simp <;> omega
theorem eqI_eq (a b : Int) : eqI a b = (a == b) := by
  have h : (a == b) = decide (a = b) := by by_cases e : a = b <;> simp [e]
  rw [h]
  cases a with
  | ofNat m =>
    cases b with
    | ofNat n => simp only [eqI, beq_eq]; congr 1; simp; omega
    | negSucc n => simp [eqI]
  | negSucc m =>
    cases b with
    | ofNat n => simp [eqI]
    | negSucc n => simp only [eqI, beq_eq]; congr 1; simp; omega

end Go.Dt
