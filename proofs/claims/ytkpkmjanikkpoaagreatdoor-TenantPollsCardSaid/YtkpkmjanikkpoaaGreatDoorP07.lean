/-
  A quick look at a plan. No statement of this seat stands here.
-/
import Derived.Test.YtkpkmjanikkpoaaGreatDoorP06
import Derived.Test.YtkpkmjanikkpoaaGreatDoorP00
namespace Go.Dt

def isTmp (d : Option Tmp) (t : Tmp) : Bool :=
  match d with
  | some x => Nat.beq x t
  | none => false
/-- who writes a temporary -/
noncomputable def wMask (t : Tmp) (l : List Oper) : Nat → Nat :=
  List.rec (motive := fun _ => Nat → Nat) (fun _ => 0) (fun o _ ih i => bif isTmp o.dst t then Nat.lor (Nat.shiftLeft 1 i) (ih (Nat.succ i)) else ih (Nat.succ i)) l
noncomputable def dirM (l : List Edge) : Nat :=
  List.rec (motive := fun _ => Nat) 0 (fun e _ ih => bif Region.binds .any e then Nat.lor (Nat.shiftLeft 1 e.on) ih else ih) l
noncomputable def looksF (ops : List Oper) (m b : Nat) (l : List Tmp) : Bool :=
  List.rec (motive := fun _ => Bool) true (fun t _ ih => bif Nat.beq (Nat.land (wMask t ops 0) m) 0 then bif Nat.beq (Nat.land (wMask t ops 0) b) (wMask t ops 0) then ih else false else false) l
noncomputable def nextF (bs : List Nat) (i : Nat) (rest : List PlanItem) : Bool :=
  List.rec (motive := fun _ => Bool) true (fun it _ ih => bif it.act then bitOf (nthN bs it.i) i else ih) rest
def loF (bs as : List Nat) (it : PlanItem) : Bool :=
  bif Nat.beq it.lo 0 then true else
    match as[Nat.sub it.lo 1]? with
    | some a => bitOf (nthN bs it.i) a
    | none => false
noncomputable def dstF (ops : List Oper) (mr : Nat) (d : Option Tmp) : Bool :=
  match d with
  | some d => Nat.beq (Nat.land (wMask d ops 0) mr) 0
  | none => true
noncomputable def nthOp (l : List Oper) : Nat → Option Oper :=
  List.rec (motive := fun _ => Nat → Option Oper) (fun _ => none) (fun o _ ih i => bif Nat.beq i 0 then some o else ih (Nat.sub i 1)) l

noncomputable def chkF (arr : Array Oper) (_ : Nat) (ops : List Oper) (bs as : List Nat) (l : List PlanItem) : Nat → Option Nat :=
  List.rec (motive := fun _ => Nat → Option Nat) (fun _ => some 0) (fun it rest ih seen =>
    match ih (Nat.lor seen (Nat.shiftLeft 1 it.i)) with
    | none => none
    | some mr =>
      match nthOp ops it.i with
      | none => none
      | some o =>
        bif isSelect o.op then none else
        bif bitOf seen it.i then none else
        bif Nat.beq (Nat.land (dirM o.after.toList) seen) (dirM o.after.toList) then
        bif nextF bs it.i rest then
        bif loF bs as it then
        bif looksF ops (Nat.lor mr (Nat.shiftLeft 1 it.i)) (nthN bs it.i) (looksAt arr o) then
        bif dstF ops mr o.dst then some (Nat.lor mr (Nat.shiftLeft 1 it.i)) else none
        else none else none else none else none) l

noncomputable def actsP (l : List PlanItem) : List Nat := List.rec (motive := fun _ => List Nat) [] (fun it _ ih => bif it.act then it.i :: ih else ih) l

noncomputable def takeO (l : List Oper) : Nat → List Oper :=
  List.rec (motive := fun _ => Nat → List Oper) (fun _ => []) (fun o _ ih k => bif Nat.beq k 0 then [] else o :: ih (Nat.sub k 1)) l
noncomputable def dropN (l : List Nat) : Nat → List Nat :=
  List.rec (motive := fun _ => Nat → List Nat) (fun _ => []) (fun o l ih k => bif Nat.beq k 0 then o :: l else ih (Nat.sub k 1)) l
/-- each of these masks holds all of m -/
noncomputable def aheadF (m : Nat) (l : List Nat) : Bool :=
  List.rec (motive := fun _ => Bool) true (fun b _ ih => bif Nat.beq (Nat.land m b) m then ih else false) l
noncomputable def keepF (m : Nat) (l : List PlanItem) : List PlanItem :=
  List.rec (motive := fun _ => List PlanItem) [] (fun it _ ih => bif Nat.blt it.i m then it :: ih else ih) l

noncomputable def drawOkF (ops : Array Oper) (m : Nat) : Bool :=
  bif Nat.ble m ops.toList.length then
  bif aheadF (Nat.sub (Nat.shiftLeft 1 m) 1) (dropN (befL ops.toList [] 0) m) then
  match chkF ops m (takeO ops.toList m) (befL ops.toList [] 0) (actsP (keepF m (planOf ops))) (keepF m (planOf ops)) 0 with
  | some k => Nat.beq k (Nat.sub (Nat.shiftLeft 1 m) 1)
  | none => false
  else false else false

/- what it says -/
theorem shl_bit (i j : Nat) : (Nat.shiftLeft 1 i).testBit j = decide (i = j) := by
  have : Nat.shiftLeft 1 i = 2 ^ i := Nat.one_shiftLeft i
  rw [this, Nat.testBit_two_pow]
theorem lor_bit (a b j : Nat) : (Nat.lor a b).testBit j = (a.testBit j || b.testBit j) := Nat.testBit_or a b j
theorem land_bit (a b j : Nat) : (Nat.land a b).testBit j = (a.testBit j && b.testBit j) := Nat.testBit_and a b j

theorem nthOp_eq : ∀ (l : List Oper) (i : Nat), nthOp l i = l[i]?
  | [], i => rfl
  | o :: l, 0 => rfl
  | o :: l, i + 1 => by
    have : nthOp (o :: l) (i + 1) = nthOp l i := rfl
    rw [this, nthOp_eq l i]
    simp

theorem wMask_bit (t : Tmp) : ∀ (l : List Oper) (i j : Nat), (wMask t l i).testBit j = true ↔ ∃ k, j = i + k ∧ (l[k]?).bind (·.dst) = some t
  | [], i, j => by simp [wMask]
  | o :: l, i, j => by
    have hc : wMask t (o :: l) i = bif isTmp o.dst t then Nat.lor (Nat.shiftLeft 1 i) (wMask t l (i + 1)) else wMask t l (i + 1) := rfl
    rw [hc]
    have ih := wMask_bit t l (i + 1) j
    have hd : isTmp o.dst t = true ↔ o.dst = some t := by
      unfold isTmp
      cases o.dst with
      | none => simp
      | some x => simp only [beq_dec]; simp
    have hk : (∃ k, j = i + k ∧ ((o :: l)[k]?).bind (·.dst) = some t) ↔ ((j = i ∧ o.dst = some t) ∨ ∃ k, j = i + 1 + k ∧ (l[k]?).bind (·.dst) = some t) := by
      constructor
      · rintro ⟨k, h1, h2⟩
        cases k with
        | zero => exact .inl ⟨by omega, by simpa using h2⟩
        | succ k => exact .inr ⟨k, by omega, by simpa using h2⟩
      · rintro (⟨h1, h2⟩ | ⟨k, h1, h2⟩)
        · exact ⟨0, by omega, by simpa using h2⟩
        · exact ⟨k + 1, by omega, by simpa using h2⟩
    rw [hk]
    cases ht : isTmp o.dst t with
    | true =>
      simp only [cond_true]
      rw [lor_bit, shl_bit, Bool.or_eq_true, ih]
      have := hd.1 ht
      constructor
      · rintro (h | h)
        · exact .inl ⟨(of_decide_eq_true h).symm, this⟩
        · exact .inr h
      · rintro (h | h)
        · exact .inl (decide_eq_true h.1.symm)
        · exact .inr h
    | false =>
      simp only [cond_false]
      rw [ih]
      have hn : o.dst ≠ some t := fun e => by rw [hd.2 e] at ht; cases ht
      constructor
      · exact .inr
      · rintro (h | h)
        · exact (hn h.2).elim
        · exact h

theorem dirM_bit : ∀ (l : List Edge) (e : Edge), e ∈ l → Region.binds .any e = true → (dirM l).testBit e.on = true
  | e' :: l, e, he, hb => by
    have hc : dirM (e' :: l) = bif Region.binds .any e' then Nat.lor (Nat.shiftLeft 1 e'.on) (dirM l) else dirM l := rfl
    rw [hc]
    rcases List.mem_cons.1 he with rfl | he
    · rw [hb]
      simp only [cond_true]
      rw [lor_bit, shl_bit]
      simp
    · have ih := dirM_bit l e he hb
      cases Region.binds .any e' with
      | true => simp only [cond_true]; rw [lor_bit, ih]; simp
      | false => exact ih

theorem land_sub {a b : Nat} (h : Nat.beq (Nat.land a b) a = true) {j : Nat} (hj : a.testBit j = true) : b.testBit j = true := by
  rw [beq_dec] at h
  have h' := of_decide_eq_true h
  have : (Nat.land a b).testBit j = true := by rw [h']; exact hj
  rw [land_bit, Bool.and_eq_true] at this
  exact this.2
theorem land_zero {a b : Nat} (h : Nat.beq (Nat.land a b) 0 = true) {j : Nat} (ha : a.testBit j = true) (hb : b.testBit j = true) : False := by
  rw [beq_dec] at h
  have h' := of_decide_eq_true h
  have : (Nat.land a b).testBit j = true := by rw [land_bit, ha, hb]; rfl
  rw [h'] at this
  simp at this

theorem takeO_eq : ∀ (l : List Oper) (k : Nat), takeO l k = l.take k
  | [], k => by simp [takeO]
  | o :: l, 0 => rfl
  | o :: l, k + 1 => by
    have : takeO (o :: l) (k + 1) = o :: takeO l k := rfl
    rw [this, takeO_eq l k]
    rfl
theorem dropN_eq : ∀ (l : List Nat) (k : Nat), dropN l k = l.drop k
  | [], k => by simp [dropN]
  | o :: l, 0 => rfl
  | o :: l, k + 1 => by
    have : dropN (o :: l) (k + 1) = dropN l k := rfl
    rw [this, dropN_eq l k]
    rfl
theorem keepF_eq (m : Nat) : ∀ l : List PlanItem, keepF m l = l.filter fun it => Nat.blt it.i m
  | [] => rfl
  | it :: l => by
    have : keepF m (it :: l) = bif Nat.blt it.i m then it :: keepF m l else keepF m l := rfl
    rw [this, keepF_eq m l]
    cases h : Nat.blt it.i m <;> simp [h]

section
variable {arr : Array Oper} {m : Nat} {bs as : List Nat}

theorem dst_list {j : Nat} (hj : j < m) (t : Tmp) : dstAt arr j = some t ↔ ((arr.toList.take m)[j]?).bind (·.dst) = some t := by
  unfold dstAt
  rw [List.getElem?_take, if_pos hj, Array.getElem?_toList]

theorem looksF_ok {k b : Nat} : ∀ {l : List Tmp}, looksF (arr.toList.take m) k b l = true → ∀ t, t ∈ l →
    (∀ j, j < m → dstAt arr j = some t → k.testBit j = false) ∧ ∀ j, j < m → dstAt arr j = some t → b.testBit j = true
  | t' :: l, h, t, ht => by
    have hc : looksF (arr.toList.take m) k b (t' :: l) = (bif Nat.beq (Nat.land (wMask t' (arr.toList.take m) 0) k) 0 then bif Nat.beq (Nat.land (wMask t' (arr.toList.take m) 0) b) (wMask t' (arr.toList.take m) 0) then looksF (arr.toList.take m) k b l else false else false) := rfl
    rw [hc] at h
    cases h1 : Nat.beq (Nat.land (wMask t' (arr.toList.take m) 0) k) 0 with
    | false => rw [h1] at h; cases h
    | true =>
      rw [h1] at h
      simp only [cond_true] at h
      cases h2 : Nat.beq (Nat.land (wMask t' (arr.toList.take m) 0) b) (wMask t' (arr.toList.take m) 0) with
      | false => rw [h2] at h; cases h
      | true =>
        rw [h2] at h
        simp only [cond_true] at h
        rcases List.mem_cons.1 ht with rfl | ht
        · have hw : ∀ j, j < m → dstAt arr j = some t → (wMask t (arr.toList.take m) 0).testBit j = true := fun j hjm hj => (wMask_bit t (arr.toList.take m) 0 j).2 ⟨j, by omega, (dst_list hjm t).1 hj⟩
          refine ⟨fun j hjm hj => ?_, fun j hjm hj => land_sub h2 (hw j hjm hj)⟩
          cases hm : k.testBit j with
          | false => rfl
          | true => exact (land_zero h1 (hw j hjm hj) hm).elim
        · exact looksF_ok h t ht

theorem nextF_eq (i : Nat) : ∀ rest : List PlanItem, nextF bs i rest = match firstAct rest with | some a => bitOf (nthN bs a) i | none => true
  | [] => rfl
  | it :: rest => by
    have hc : nextF bs i (it :: rest) = bif it.act then bitOf (nthN bs it.i) i else nextF bs i rest := rfl
    rw [hc, nextF_eq i rest]
    have hf : firstAct (it :: rest) = if it.act then some it.i else firstAct rest := rfl
    rw [hf]
    cases it.act <;> rfl

theorem isBefore_nth (i j : Nat) (arr : Array Oper) : isBefore (befA arr) i j = bitOf (nthN (befL arr.toList [] 0) j) i := by
  rw [bitOf_eq, nthN_eq]
  unfold isBefore befA
  simp

theorem chkF_ok : ∀ (l : List PlanItem) (seen k : Nat) (sl : List Nat), chkF arr m (arr.toList.take m) (befL arr.toList [] 0) as l seen = some k → (∀ it, it ∈ l → it.i < m) → (∀ i, seen.testBit i = sl.contains i) →
    planChk arr m (befA arr) as sl l = true ∧ (∀ j, k.testBit j = true ↔ ∃ it, it ∈ l ∧ it.i = j)
  | [], seen, k, sl, h, _, hs => by
    have : k = 0 := by
      have hc : chkF arr m (arr.toList.take m) (befL arr.toList [] 0) as [] seen = some 0 := rfl
      rw [hc] at h
      exact (Option.some.inj h).symm
    subst this
    exact ⟨rfl, fun j => by simp⟩
  | it :: rest, seen, k, sl, h, hlt, hs => by
    have hc : chkF arr m (arr.toList.take m) (befL arr.toList [] 0) as (it :: rest) seen =
      (match chkF arr m (arr.toList.take m) (befL arr.toList [] 0) as rest (Nat.lor seen (Nat.shiftLeft 1 it.i)) with
      | none => none
      | some mr =>
        match nthOp (arr.toList.take m) it.i with
        | none => none
        | some o =>
          bif isSelect o.op then none else
          bif bitOf seen it.i then none else
          bif Nat.beq (Nat.land (dirM o.after.toList) seen) (dirM o.after.toList) then
          bif nextF (befL arr.toList [] 0) it.i rest then
          bif loF (befL arr.toList [] 0) as it then
          bif looksF (arr.toList.take m) (Nat.lor mr (Nat.shiftLeft 1 it.i)) (nthN (befL arr.toList [] 0) it.i) (looksAt arr o) then
          bif dstF (arr.toList.take m) mr o.dst then some (Nat.lor mr (Nat.shiftLeft 1 it.i)) else none
          else none else none else none else none) := rfl
    have hit : it.i < m := hlt it (by simp)
    rw [hc] at h
    split at h
    · cases h
    · rename_i mr hgo
      split at h
      · cases h
      · rename_i o hop
        rw [nthOp_eq, List.getElem?_take, if_pos hit, Array.getElem?_toList] at hop
        cases h1 : isSelect o.op with
        | true => rw [h1] at h; cases h
        | false =>
        rw [h1] at h; simp only [cond_false] at h
        cases h2 : bitOf seen it.i with
        | true => rw [h2] at h; cases h
        | false =>
        rw [h2] at h; simp only [cond_false] at h
        cases h3 : Nat.beq (Nat.land (dirM o.after.toList) seen) (dirM o.after.toList) with
        | false => rw [h3] at h; cases h
        | true =>
        rw [h3] at h; simp only [cond_true] at h
        cases h4 : nextF (befL arr.toList [] 0) it.i rest with
        | false => rw [h4] at h; cases h
        | true =>
        rw [h4] at h; simp only [cond_true] at h
        cases h5 : loF (befL arr.toList [] 0) as it with
        | false => rw [h5] at h; cases h
        | true =>
        rw [h5] at h; simp only [cond_true] at h
        cases h6 : looksF (arr.toList.take m) (Nat.lor mr (Nat.shiftLeft 1 it.i)) (nthN (befL arr.toList [] 0) it.i) (looksAt arr o) with
        | false => rw [h6] at h; cases h
        | true =>
        rw [h6] at h; simp only [cond_true] at h
        cases h7 : dstF (arr.toList.take m) mr o.dst with
        | false => rw [h7] at h; cases h
        | true =>
        rw [h7] at h; simp only [cond_true, Option.some.injEq] at h
        have hseen : ∀ i, (Nat.lor seen (Nat.shiftLeft 1 it.i)).testBit i = (it.i :: sl).contains i := fun i => by
          rw [lor_bit, shl_bit, hs i, List.contains_cons, Bool.or_comm]
          congr 1
          by_cases e : it.i = i
          · subst e; simp
          · have : ¬ i = it.i := fun x => e x.symm
            simp [e, this]
        obtain ⟨ih1, ih2⟩ := chkF_ok rest _ mr _ hgo (fun x hx => hlt x (List.mem_cons_of_mem _ hx)) hseen
        have hm : ∀ j, k.testBit j = true ↔ ∃ x, x ∈ it :: rest ∧ x.i = j := fun j => by
          rw [← h, lor_bit, shl_bit, Bool.or_eq_true, ih2 j]
          constructor
          · rintro (⟨x, hx, hj⟩ | hj)
            · exact ⟨x, List.mem_cons_of_mem _ hx, hj⟩
            · exact ⟨it, by simp, of_decide_eq_true hj⟩
          · rintro ⟨x, hx, hj⟩
            rcases List.mem_cons.1 hx with rfl | hx
            · exact .inr (decide_eq_true hj)
            · exact .inl ⟨x, hx, hj⟩
        refine ⟨?_, hm⟩
        have hb : Nat.blt it.i m = true := by rw [blt_dec]; exact decide_eq_true hit
        unfold planChk
        simp only [hop, h1, hb, ih1, Bool.and_true, Bool.and_eq_true, Bool.not_false, Bool.true_and]
        refine ⟨⟨⟨⟨⟨?_, ?_⟩, ?_⟩, ?_⟩, ?_⟩, ?_⟩
        · rw [← hs, ← bitOf_eq, h2]; rfl
        · rw [List.all_eq_true]
          intro e he
          cases hb : Region.binds .any e with
          | false => rfl
          | true =>
            simp only [Bool.not_true, Bool.false_or]
            rw [← hs]
            exact land_sub h3 (dirM_bit _ e he hb)
        · rw [nextF_eq] at h4
          split
          · rename_i a ha
            rw [ha] at h4
            rw [isBefore_nth]
            exact h4
          · rfl
        · unfold loF at h5
          rw [beq_dec] at h5
          by_cases h0 : it.lo = 0
          · simp [h0]
          · simp only [h0, decide_false, cond_false] at h5
            rw [Bool.or_eq_true]
            right
            have hsub : as[it.lo - 1]? = as[Nat.sub it.lo 1]? := rfl
            rw [hsub]
            split
            · rename_i a ha
              rw [ha] at h5
              rw [isBefore_nth]
              exact h5
            · rename_i ha
              rw [ha] at h5
              exact h5
        · rw [List.all_eq_true]
          intro t ht
          obtain ⟨k1, k2⟩ := looksF_ok h6 t ht
          rw [Bool.and_eq_true]
          constructor
          · rw [Bool.not_eq_true']
            unfold writes
            rw [List.any_eq_false]
            intro x hx hd
            have hd' : dstAt arr x.i = some t := by simpa using hd
            have := k1 _ (hlt x hx) hd'
            rw [h] at this
            rw [(hm x.i).2 ⟨x, hx, rfl⟩] at this
            cases this
          · rw [List.all_eq_true]
            intro j hj
            have hjm : j < m := by simpa using hj
            by_cases hd : dstAt arr j = some t
            · rw [Bool.or_eq_true]
              right
              rw [isBefore_nth, bitOf_eq]
              exact k2 j hjm hd
            · simp [hd]
        · unfold dstF at h7
          split
          · rename_i d hd
            rw [hd] at h7
            simp only at h7
            rw [Bool.not_eq_true']
            unfold writes
            rw [List.any_eq_false]
            intro x hx hdx
            have hd' : dstAt arr x.i = some d := by simpa using hdx
            exact land_zero h7 ((wMask_bit d (arr.toList.take m) 0 x.i).2 ⟨x.i, by omega, (dst_list (hlt x (List.mem_cons_of_mem _ hx)) d).1 hd'⟩) ((ih2 x.i).2 ⟨x, hx, rfl⟩)
          · rfl

theorem actsP_eq : ∀ l : List PlanItem, actsP l = (l.filter (·.act)).map (·.i)
  | [] => rfl
  | it :: l => by
    have hc : actsP (it :: l) = bif it.act then it.i :: actsP l else actsP l := rfl
    rw [hc, actsP_eq l]
    cases h : it.act <;> simp [h]

theorem ones_bit (m i : Nat) : (Nat.sub (Nat.shiftLeft 1 m) 1).testBit i = decide (i < m) := by
  have h3 : Nat.sub (Nat.shiftLeft 1 m) 1 = 2 ^ m - 1 := by
    have : Nat.shiftLeft 1 m = 2 ^ m := Nat.one_shiftLeft _
    rw [this]
    rfl
  rw [h3, Nat.testBit_two_pow_sub_one]

theorem aheadF_ok {k : Nat} : ∀ {l : List Nat}, aheadF k l = true → ∀ b, b ∈ l → ∀ i, k.testBit i = true → b.testBit i = true
  | b' :: l, h, b, hb, i, hi => by
    have hc : aheadF k (b' :: l) = bif Nat.beq (Nat.land k b') k then aheadF k l else false := rfl
    rw [hc] at h
    cases h1 : Nat.beq (Nat.land k b') k with
    | false => rw [h1] at h; cases h
    | true =>
      rw [h1] at h
      rcases List.mem_cons.1 hb with rfl | hb
      · exact land_sub h1 hi
      · exact aheadF_ok h b hb i hi

theorem befL_length : ∀ (l : List Oper) (acc : List Nat) (k : Nat), (befL l acc k).length = l.length
  | [], _, _ => rfl
  | o :: l, acc, k => by simp [befL, befL_length l]

theorem drawOkF_ok {ops : Array Oper} {m : Nat} (h : drawOkF ops m = true) : drawOk ops m = true := by
  unfold drawOkF at h
  cases h1 : Nat.ble m ops.toList.length with
  | false => rw [h1] at h; cases h
  | true =>
    rw [h1] at h
    simp only [cond_true] at h
    cases h2 : aheadF (Nat.sub (Nat.shiftLeft 1 m) 1) (dropN (befL ops.toList [] 0) m) with
    | false => rw [h2] at h; cases h
    | true =>
      rw [h2] at h
      simp only [cond_true] at h
      rw [takeO_eq, keepF_eq] at h
      split at h
      · rename_i k hgo
        have hlt : ∀ it, it ∈ (planOf ops).filter (fun it => Nat.blt it.i m) → it.i < m := fun it hit => by
          have := (List.mem_filter.1 hit).2
          rw [blt_dec] at this
          exact of_decide_eq_true this
        obtain ⟨k1, k2⟩ := chkF_ok _ _ _ [] hgo hlt (by simp)
        unfold drawOk
        simp only [Bool.and_eq_true]
        refine ⟨⟨⟨by simpa using h1, ?_⟩, ?_⟩, ?_⟩
        · simp only [aheadOk, idxs, List.all_eq_true, List.mem_range, Bool.or_eq_true]
          intro i hi j hj
          by_cases hjm : j < m
          · left; rw [blt_dec]; exact decide_eq_true hjm
          · right
            rw [isBefore_nth, bitOf_eq, nthN_eq, List.getD_eq_getElem?_getD]
            have hjl : j < (befL ops.toList [] 0).length := by rw [befL_length]; simpa using hj
            rw [List.getElem?_eq_getElem hjl, Option.getD_some]
            refine aheadF_ok h2 _ ?_ i (by rw [ones_bit]; exact decide_eq_true hi)
            rw [dropN_eq, List.mem_iff_getElem?]
            refine ⟨j - m, ?_⟩
            rw [List.getElem?_drop]
            have : m + (j - m) = j := by omega
            rw [this, List.getElem?_eq_getElem hjl]
        · rw [actsP_eq] at k1
          exact k1
        · rw [List.all_eq_true]
          intro i hi
          have him : i < m := by simpa using hi
          rw [beq_dec] at h
          have hm := of_decide_eq_true h
          have hbit : k.testBit i = true := by rw [hm, ones_bit]; exact decide_eq_true him
          obtain ⟨it, hit, rfl⟩ := (k2 i).1 hbit
          rw [List.any_eq_true]
          exact ⟨it, hit, by simp⟩
      · cases h
end
end Go.Dt
namespace Go.Dt


inductive AItem where
  | code (c : Code)
  | inBlock (id : Nat)
  | inLoop (body : Code)
  | inScope (body : Code)
  | beginRound

structure AFr where
  fn : FuncId
  T : List AV
  todo : List AItem
  defers : List ADef
  round : Option Nat

def exitTo (id : Nat) : List AItem → Option (List AItem)
  | .inBlock id' :: k => if id' == id then some k else exitTo id k
  | _ :: k => exitTo id k
  | [] => none
def gotoIn (l : Nat) : List AItem → Option (List AItem)
  | .inScope body :: k =>
    match findLabel body l with
    | some rest => some (.code rest :: .inScope body :: k)
    | none => gotoIn l k
  | _ :: k => gotoIn l k
  | [] => none

def resultV (D : Tab) (σ : St) (T : List AV) : List ResultVar → R (List AV)
  | [] => .ok []
  | .tmp t :: l => do
    let r ← resultV D σ T l
    return T.getD t .undef :: r
  | .cell a t :: l => do
    let v ← loadV D σ t (T.getD a .undef)
    let r ← resultV D σ T l
    return v :: r
def resultsV (D : Tab) (σ : St) (f : FuncId) (T : List AV) : R AV :=
  match D.func f with
  | some fn => do
    let vs ← resultV D σ T fn.results.toList
    match vs with
    | [v] => return v
    | vs => return .tuple vs
  | none => .error "results"

def replUndef : Nat → List AV
  | 0 => []
  | n + 1 => .undef :: replUndef n

def enterFr (D : Tab) (f : FuncId) (args : List AV) : R AFr :=
  match D.func f with
  | some fn => match fn.body with
    | some c => .ok { fn := f, T := args ++ replUndef (fn.ntmps - args.length), todo := [.code c], defers := [], round := none }
    | none => .error "body"
  | none => .error "enter"

def setParams : List (Tmp × AV) → List AV → List AV
  | [], T => T
  | (t, a) :: l, T => setParams l (T.set t a)

def getLoop (σ : St) (l : Nat) : R ALoop :=
  if l < σ.n then
    match σ.getO l with
    | .loop r => .ok r
    | _ => .error "loop"
  else .error "loop"



structure Fns where
  run : AFr → Pan → St → R (AEnd × Pan × St)
  finish : FuncId → List AV → List ADef → Option AV → Pan → St → R (AEnd × Pan × St)
  endLoop : AFr → Nat → AEnd → Pan → St → R (AEnd × Pan × St)
  call : CallT
  round : RoundT

def goF (F : Fns) (nx : ANext) (σ : St) : R (AEnd × St) :=
  match nx with
  | .enter f args => F.call f args σ
  | .round l args => F.round l args σ
  | _ => .error "goF"

def leaveF (F : Fns) (fr : AFr) (jump : Option Code) (pan : Pan) (σ : St) : R (AEnd × Pan × St) :=
  match fr.round with
  | none =>
    match jump with
    | none => F.finish fr.fn fr.T fr.defers none pan σ
    | some .ret => F.finish fr.fn fr.T fr.defers none pan σ
    | _ => .error "leave"
  | some l =>
    if fr.defers.isEmpty then do
      let r ← getLoop σ l
      return (.ret (boolV jump.isNone), pan, σ.set l (.loop { r with state := if jump.isNone then .ready else .done, pending := jump }))
    else .error "defers in a round"

def panicF (F : Fns) (fr : AFr) (v : AV) (pan : Pan) (σ : St) : R (AEnd × Pan × St) :=
  match fr.round with
  | none => F.finish fr.fn fr.T fr.defers (some v) pan σ
  | some _ => if fr.defers.isEmpty then .ok (.panic v, pan, σ) else .error "defers in a round"

def runF (D : Tab) (F : Fns) (fr : AFr) (pan : Pan) (σ : St) : R (AEnd × Pan × St) :=
  match fr.todo with
  | [] => leaveF F fr none pan σ
  | .inBlock _ :: k => F.run { fr with todo := k } pan σ
  | .inScope _ :: k => F.run { fr with todo := k } pan σ
  | .inLoop body :: k => F.run { fr with todo := .code body :: .inLoop body :: k } pan σ
  | .beginRound :: k =>
    match fr.round with
    | some l => do
      let r ← getLoop σ l
      if r.state = .ready then F.run { fr with todo := k } pan (σ.set l (.loop { r with state := .busy }))
      else .error "beginRound"
    | none => .error "beginRound"
  | .code c :: k =>
    match c with
    | .ret => leaveF F fr (some .ret) pan σ
    | .skip => F.run { fr with todo := k } pan σ
    | .label _ => F.run { fr with todo := k } pan σ
    | .seq a b => F.run { fr with todo := .code a :: .code b :: k } pan σ
    | .cond c thn els => do
      let b ← asB (evalO D fr.T c)
      F.run { fr with todo := .code (if b then thn else els) :: k } pan σ
    | .block id body => F.run { fr with todo := .code body :: .inBlock id :: k } pan σ
    | .loop body => F.run { fr with todo := .code body :: .inLoop body :: k } pan σ
    | .scope body => F.run { fr with todo := .code body :: .inScope body :: k } pan σ
    | .exit id =>
      match exitTo id k with
      | some k => F.run { fr with todo := k } pan σ
      | none => leaveF F fr (some (.exit id)) pan σ
    | .goto l =>
      match gotoIn l k with
      | some k => F.run { fr with todo := k } pan σ
      | none => leaveF F fr (some (.goto l)) pan σ
    | .region _ ops draw => do
      let r ← runRegion D F.call F.round fr.round.isSome ops draw fr.T fr.defers pan σ
      match r with
      | .go T ds pan σ => F.run { fr with T, defers := ds, todo := k } pan σ
      | .panic v T ds pan σ => panicF F { fr with T, defers := ds } v pan σ
    | .rangeFunc f params assign body =>
      match fr.round with
      | some l0 => do
        let r0 ← getLoop σ l0
        let nx ← callV D (evalO D fr.T f) [.yield σ.n]
        let lp : ALoop := { state := .ready, pending := none, fn := fr.fn, T := fr.T, params := params.toList, assign, body, defers := r0.defers }
        let (e, σ') ← goF F nx (σ.push (.loop lp))
        F.endLoop { fr with todo := k } σ.n e pan σ'
      | none => do
        let nx ← callV D (evalO D fr.T f) [.yield (σ.n + 1)]
        let lp : ALoop := { state := .ready, pending := none, fn := fr.fn, T := fr.T, params := params.toList, assign, body, defers := σ.n }
        let (e, σ') ← goF F nx ((σ.push (.deferred (some []))).push (.loop lp))
        F.endLoop { fr with todo := k, defers := .collected σ.n :: fr.defers } (σ.n + 1) e pan σ'
    | .refuse _ => .error "refuse"

/-- behind the call of a range over a function -/
def endLoopF (F : Fns) (fr : AFr) (l : Nat) (e : AEnd) (pan : Pan) (σ : St) : R (AEnd × Pan × St) :=
  match e with
  | .ret _ => do
    let r ← getLoop σ l
    if r.state = .busy then .error "endLoop busy" else
    match r.pending with
    | none => F.run fr pan (σ.set l (.loop { r with state := .exhausted }))
    | some c => F.run { fr with todo := .code c :: fr.todo } pan (σ.set l (.loop { r with state := .exhausted }))
  | .panic v => panicF F fr v pan σ

def finishF (D : Tab) (F : Fns) (fn : FuncId) (T : List AV) (ds : List ADef) (mode : Option AV) (pan : Pan) (σ : St) : R (AEnd × Pan × St) :=
  match ds with
  | [] =>
    match mode with
    | none => do
      let v ← resultsV D σ fn T
      return (.ret v, pan, σ)
    | some v => .ok (.panic v, pan, σ)
  | .collected r :: ds => do
    let o ← σ.get r
    match o with
    | .deferred (some calls) => F.finish fn T (calls ++ ds) mode pan (σ.set r (.deferred none))
    | _ => .error "collected"
  | .fn g cap args :: ds => do
    let nx ← invokeT D g cap args
    match nx with
    | .enter f args => do
      let fr ← enterFr D f args
      let (e, p, σ) ← F.run fr (mode.map fun v => (v, false)) σ
      match e with
      | .ret _ =>
        match p with
        | some (v, false) => F.finish fn T ds (some v) pan σ
        | _ => F.finish fn T ds none pan σ
      | .panic v =>
        match p with
        | none => F.finish fn T ds (some v) pan σ
        | some _ => .error "panic in a deferred call while panicking"
    | _ => .error "deferred call"

def plainF (D : Tab) (F : Fns) (f : FuncId) (args : List AV) (σ : St) : R (AEnd × St) := do
  let fr ← enterFr D f args
  let (e, _, σ) ← F.run fr none σ
  return (e, σ)

def bareSt (M : MTree) (l : List AO) : St := { n := l.length, l, M }

/-- one call of a pure function in a memory of its own -/
def pureF (D : Tab) (F : Fns) (f : FuncId) (args : List AV) (σX : St) : R (Memo × MTree) := do
  let fr ← enterFr D f args
  let (e, _, σ2) ← F.run fr none σX
  match e with
  | .ret v =>
    if nodup (refsA σ2 copyFuel v) then do
      let (y, σY) ← copyA true σ2 copyFuel v (freshSt D .e)
      if nodup (refsA (bareSt .e σY.l) copyFuel y) then return ({ f, args, heap := σX.l, val := y, res := σY.l }, σ2.M)
      else .error "pure result shares"
    else .error "pure result shares"
  | .panic _ => .error "pure panics"

def memoF (m : Memo) (σ : St) : R (AEnd × St) := do
  let (v, σ) ← copyA true (bareSt .e m.res) copyFuel m.val σ
  return (.ret v, σ)

def callF (D : Tab) (F : Fns) (f : FuncId) (args : List AV) (σ : St) : R (AEnd × St) :=
  if D.pure f then do
    let (args', σX) ← copyL (copyA false σ copyFuel) args (freshSt D σ.M)
    match findMemo f args' σX.l (σX.M.get (pth f)) with
    | some m => memoF m σ
    | none => do
      let (m, M) ← pureF D F f args' σX
      memoF m { σ with M := M.add m (pth f) }
  else plainF D F f args σ

def roundF (D : Tab) (F : Fns) (l : Nat) (args : List AV) (σ : St) : R (AEnd × St) := do
  let r ← getLoop σ l
  match D.func r.fn with
  | none => .error "round"
  | some _ =>
    if r.params.length = args.length then do
      let (e, _, σ) ← F.run { fn := r.fn, T := setParams (r.params.zip args) r.T, todo := [.code r.assign, .beginRound, .code r.body], defers := [], round := some l } none σ
      return (e, σ)
    else .error "yield number of arguments"

def noFns : Fns where
  run := fun _ _ _ => .error "fuel"
  finish := fun _ _ _ _ _ _ => .error "fuel"
  endLoop := fun _ _ _ _ _ => .error "fuel"
  call := fun _ _ _ => .error "fuel"
  round := fun _ _ _ => .error "fuel"

def nextFns (D : Tab) (F : Fns) : Fns where
  run := runF D F
  finish := finishF D F
  endLoop := endLoopF F
  call := callF D F
  round := roundF D F

def fns (D : Tab) : Nat → Fns
  | 0 => noFns
  | n + 1 => nextFns D (fns D n)

end Go.Dt
