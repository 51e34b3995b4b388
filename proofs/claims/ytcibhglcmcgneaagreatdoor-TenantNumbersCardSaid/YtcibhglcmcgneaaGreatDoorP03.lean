/-
  A quick look at a plan. No statement of this seat stands here.
-/
import Derived.Test.YtcibhglcmcgneaaGreatDoorP02
import Derived.Test.YtcibhglcmcgneaaGreatDoorP00
namespace Go.Dt

def isTmp (d : Option Tmp) (t : Tmp) : Bool :=
  match d with
  | some x => Nat.beq x t
  | none => false
/-- who writes a temporary -/
noncomputable def wMask (t : Tmp) (l : List Oper) : Nat → Nat :=
  List.rec (motive := fun _ => Nat → Nat) (fun _ => 0) (fun o _ ih i => bif isTmp o.dst t then Nat.lor (Nat.shiftLeft 1 i) (ih (Nat.succ i)) else ih (Nat.succ i)) l
noncomputable def dirM (l : List Edge) : Nat :=
  List.rec (motive := fun _ => Nat) 0 (fun e _ ih => bif Region.binds .any e then Nat.lor (Nat.shiftLeft 1 e.on) ih else ih) l
noncomputable def looksF (ops : List Oper) (m b : Nat) (l : List Tmp) : Bool :=
  List.rec (motive := fun _ => Bool) true (fun t _ ih => bif Nat.beq (Nat.land (wMask t ops 0) m) 0 then bif Nat.beq (Nat.land (wMask t ops 0) b) (wMask t ops 0) then ih else false else false) l
noncomputable def nextF (bs : List Nat) (i : Nat) (rest : List PlanItem) : Bool :=
  List.rec (motive := fun _ => Bool) true (fun it _ ih => bif it.act then bitOf (nthN bs it.i) i else ih) rest
def loF (bs as : List Nat) (it : PlanItem) : Bool :=
  bif Nat.beq it.lo 0 then true else
    match as[Nat.sub it.lo 1]? with
    | some a => bitOf (nthN bs it.i) a
    | none => false
noncomputable def dstF (ops : List Oper) (mr : Nat) (d : Option Tmp) : Bool :=
  match d with
  | some d => Nat.beq (Nat.land (wMask d ops 0) mr) 0
  | none => true
noncomputable def nthOp (l : List Oper) : Nat → Option Oper :=
  List.rec (motive := fun _ => Nat → Option Oper) (fun _ => none) (fun o _ ih i => bif Nat.beq i 0 then some o else ih (Nat.sub i 1)) l

noncomputable def chkF (arr : Array Oper) (_ : Nat) (ops : List Oper) (bs as : List Nat) (l : List PlanItem) : Nat → Option Nat :=
  List.rec (motive := fun _ => Nat → Option Nat) (fun _ => some 0) (fun it rest ih seen =>
    match ih (Nat.lor seen (Nat.shiftLeft 1 it.i)) with
    | none => none
    | some mr =>
      match nthOp ops it.i with
      | none => none
      | some o =>
        bif isSelect o.op then none else
        bif bitOf seen it.i then none else
        bif Nat.beq (Nat.land (dirM o.after.toList) seen) (dirM o.after.toList) then
        bif nextF bs it.i rest then
        bif loF bs as it then
        bif looksF ops (Nat.lor mr (Nat.shiftLeft 1 it.i)) (nthN bs it.i) (looksAt arr o) then
        bif dstF ops mr o.dst then some (Nat.lor mr (Nat.shiftLeft 1 it.i)) else none
        else none else none else none else none) l

noncomputable def actsP (l : List PlanItem) : List Nat := List.rec (motive := fun _ => List Nat) [] (fun it _ ih => bif it.act then it.i :: ih else ih) l

noncomputable def takeO (l : List Oper) : Nat → List Oper :=
  List.rec (motive := fun _ => Nat → List Oper) (fun _ => []) (fun o _ ih k => bif Nat.beq k 0 then [] else o :: ih (Nat.sub k 1)) l
noncomputable def dropN (l : List Nat) : Nat → List Nat :=
  List.rec (motive := fun _ => Nat → List Nat) (fun _ => []) (fun o l ih k => bif Nat.beq k 0 then o :: l else ih (Nat.sub k 1)) l
/-- each of these masks holds all of m -/
noncomputable def aheadF (m : Nat) (l : List Nat) : Bool :=
  List.rec (motive := fun _ => Bool) true (fun b _ ih => bif Nat.beq (Nat.land m b) m then ih else false) l
noncomputable def keepF (m : Nat) (l : List PlanItem) : List PlanItem :=
  List.rec (motive := fun _ => List PlanItem) [] (fun it _ ih => bif Nat.blt it.i m then it :: ih else ih) l

noncomputable def drawOkF (ops : Array Oper) (m : Nat) : Bool :=
  bif Nat.ble m ops.toList.length then
  bif aheadF (Nat.sub (Nat.shiftLeft 1 m) 1) (dropN (befL ops.toList [] 0) m) then
  match chkF ops m (takeO ops.toList m) (befL ops.toList [] 0) (actsP (keepF m (planOf ops))) (keepF m (planOf ops)) 0 with
  | some k => Nat.beq k (Nat.sub (Nat.shiftLeft 1 m) 1)
  | none => false
  else false else false

/- what it says -/
theorem shl_bit (i j : Nat) : (Nat.shiftLeft 1 i).testBit j = decide (i = j) := by
  have : Nat.shiftLeft 1 i = 2 ^ i := Nat.one_shiftLeft i
  rw [this, Nat.testBit_two_pow]
theorem lor_bit (a b j : Nat) : (Nat.lor a b).testBit j = (a.testBit j || b.testBit j) := Nat.testBit_or a b j
theorem land_bit (a b j : Nat) : (Nat.land a b).testBit j = (a.testBit j && b.testBit j) := Nat.testBit_and a b j

theorem nthOp_eq : ∀ (l : List Oper) (i : Nat), nthOp l i = l[i]?
  | [], i => rfl
  | o :: l, 0 => rfl
  | o :: l, i + 1 => by
    have : nthOp (o :: l) (i + 1) = nthOp l i := rfl
    rw [this, nthOp_eq l i]
    simp

theorem wMask_bit (t : Tmp) : ∀ (l : List Oper) (i j : Nat), (wMask t l i).testBit j = true ↔ ∃ k, j = i + k ∧ (l[k]?).bind (·.dst) = some t
  | [], i, j => by simp [wMask]
  | o :: l, i, j => by
    have hc : wMask t (o :: l) i = bif isTmp o.dst t then Nat.lor (Nat.shiftLeft 1 i) (wMask t l (i + 1)) else wMask t l (i + 1) := rfl
    rw [hc]
    have ih := wMask_bit t l (i + 1) j
    have hd : isTmp o.dst t = true ↔ o.dst = some t := by
      unfold isTmp
      cases o.dst with
      | none => simp
      | some x => simp only [beq_dec]; simp
    have hk : (∃ k, j = i + k ∧ ((o :: l)[k]?).bind (·.dst) = some t) ↔ ((j = i ∧ o.dst = some t) ∨ ∃ k, j = i + 1 + k ∧ (l[k]?).bind (·.dst) = some t) := by
      constructor
      · rintro ⟨k, h1, h2⟩
        cases k with
        | zero => exact .inl ⟨by omega, by simpa using h2⟩
        | succ k => exact .inr ⟨k, by omega, by simpa using h2⟩
      · rintro (⟨h1, h2⟩ | ⟨k, h1, h2⟩)
        · exact ⟨0, by omega, by simpa using h2⟩
        · exact ⟨k + 1, by omega, by simpa using h2⟩
    rw [hk]
    cases ht : isTmp o.dst t with
    | true =>
      simp only [cond_true]
      rw [lor_bit, shl_bit, Bool.or_eq_true, ih]
      have := hd.1 ht
      constructor
      · rintro (h | h)
        · exact .inl ⟨(of_decide_eq_true h).symm, this⟩
        · exact .inr h
      · rintro (h | h)
        · exact .inl (decide_eq_true h.1.symm)
        · exact .inr h
    | false =>
      simp only [cond_false]
      rw [ih]
      have hn : o.dst ≠ some t := fun e => by rw [hd.2 e] at ht; cases ht
      constructor
      · exact .inr
      · rintro (h | h)
        · exact (hn h.2).elim
        · exact h

theorem dirM_bit : ∀ (l : List Edge) (e : Edge), e ∈ l → Region.binds .any e = true → (dirM l).testBit e.on = true
  | e' :: l, e, he, hb => by
    have hc : dirM (e' :: l) = bif Region.binds .any e' then Nat.lor (Nat.shiftLeft 1 e'.on) (dirM l) else dirM l := rfl
    rw [hc]
    rcases List.mem_cons.1 he with rfl | he
    · rw [hb]
      simp only [cond_true]
      rw [lor_bit, shl_bit]
      simp
    · have ih := dirM_bit l e he hb
      cases Region.binds .any e' with
      | true => simp only [cond_true]; rw [lor_bit, ih]; simp
      | false => exact ih

theorem land_sub {a b : Nat} (h : Nat.beq (Nat.land a b) a = true) {j : Nat} (hj : a.testBit j = true) : b.testBit j = true := by
  rw [beq_dec] at h
  have h' := of_decide_eq_true h
  have : (Nat.land a b).testBit j = true := by rw [h']; exact hj
  rw [land_bit, Bool.and_eq_true] at this
  exact this.2
theorem land_zero {a b : Nat} (h : Nat.beq (Nat.land a b) 0 = true) {j : Nat} (ha : a.testBit j = true) (hb : b.testBit j = true) : False := by
  rw [beq_dec] at h
  have h' := of_decide_eq_true h
  have : (Nat.land a b).testBit j = true := by rw [land_bit, ha, hb]; rfl
  rw [h'] at this
  simp at this

theorem takeO_eq : ∀ (l : List Oper) (k : Nat), takeO l k = l.take k
  | [], k => by simp [takeO]
  | o :: l, 0 => rfl
  | o :: l, k + 1 => by
    have : takeO (o :: l) (k + 1) = o :: takeO l k := rfl
    rw [this, takeO_eq l k]
    rfl
theorem dropN_eq : ∀ (l : List Nat) (k : Nat), dropN l k = l.drop k
  | [], k => by simp [dropN]
  | o :: l, 0 => rfl
  | o :: l, k + 1 => by
    have : dropN (o :: l) (k + 1) = dropN l k := rfl
    rw [this, dropN_eq l k]
    rfl
theorem keepF_eq (m : Nat) : ∀ l : List PlanItem, keepF m l = l.filter fun it => Nat.blt it.i m
  | [] => rfl
  | it :: l => by
    have : keepF m (it :: l) = bif Nat.blt it.i m then it :: keepF m l else keepF m l := rfl
    rw [this, keepF_eq m l]
    cases h : Nat.blt it.i m <;> simp [h]

section
variable {arr : Array Oper} {m : Nat} {bs as : List Nat}

theorem dst_list {j : Nat} (hj : j < m) (t : Tmp) : dstAt arr j = some t ↔ ((arr.toList.take m)[j]?).bind (·.dst) = some t := by
  unfold dstAt
  rw [List.getElem?_take, if_pos hj, Array.getElem?_toList]

theorem looksF_ok {k b : Nat} : ∀ {l : List Tmp}, looksF (arr.toList.take m) k b l = true → ∀ t, t ∈ l →
    (∀ j, j < m → dstAt arr j = some t → k.testBit j = false) ∧ ∀ j, j < m → dstAt arr j = some t → b.testBit j = true
  | t' :: l, h, t, ht => by
    have hc : looksF (arr.toList.take m) k b (t' :: l) = (bif Nat.beq (Nat.land (wMask t' (arr.toList.take m) 0) k) 0 then bif Nat.beq (Nat.land (wMask t' (arr.toList.take m) 0) b) (wMask t' (arr.toList.take m) 0) then looksF (arr.toList.take m) k b l else false else false) := rfl
    rw [hc] at h
    cases h1 : Nat.beq (Nat.land (wMask t' (arr.toList.take m) 0) k) 0 with
    | false => rw [h1] at h; cases h
    | true =>
      rw [h1] at h
      simp only [cond_true] at h
      cases h2 : Nat.beq (Nat.land (wMask t' (arr.toList.take m) 0) b) (wMask t' (arr.toList.take m) 0) with
      | false => rw [h2] at h; cases h
      | true =>
        rw [h2] at h
        simp only [cond_true] at h
        rcases List.mem_cons.1 ht with rfl | ht
        · have hw : ∀ j, j < m → dstAt arr j = some t → (wMask t (arr.toList.take m) 0).testBit j = true := fun j hjm hj => (wMask_bit t (arr.toList.take m) 0 j).2 ⟨j, by omega, (dst_list hjm t).1 hj⟩
          refine ⟨fun j hjm hj => ?_, fun j hjm hj => land_sub h2 (hw j hjm hj)⟩
          cases hm : k.testBit j with
          | false => rfl
          | true => exact (land_zero h1 (hw j hjm hj) hm).elim
        · exact looksF_ok h t ht

theorem nextF_eq (i : Nat) : ∀ rest : List PlanItem, nextF bs i rest = match firstAct rest with | some a => bitOf (nthN bs a) i | none => true
  | [] => rfl
  | it :: rest => by
    have hc : nextF bs i (it :: rest) = bif it.act then bitOf (nthN bs it.i) i else nextF bs i rest := rfl
    rw [hc, nextF_eq i rest]
    have hf : firstAct (it :: rest) = if it.act then some it.i else firstAct rest := rfl
    rw [hf]
    cases it.act <;> rfl

theorem isBefore_nth (i j : Nat) (arr : Array Oper) : isBefore (befA arr) i j = bitOf (nthN (befL arr.toList [] 0) j) i := by
  rw [bitOf_eq, nthN_eq]
  unfold isBefore befA
  simp

theorem chkF_ok : ∀ (l : List PlanItem) (seen k : Nat) (sl : List Nat), chkF arr m (arr.toList.take m) (befL arr.toList [] 0) as l seen = some k → (∀ it, it ∈ l → it.i < m) → (∀ i, seen.testBit i = sl.contains i) →
    planChk arr m (befA arr) as sl l = true ∧ (∀ j, k.testBit j = true ↔ ∃ it, it ∈ l ∧ it.i = j)
  | [], seen, k, sl, h, _, hs => by
    have : k = 0 := by
      have hc : chkF arr m (arr.toList.take m) (befL arr.toList [] 0) as [] seen = some 0 := rfl
      rw [hc] at h
      exact (Option.some.inj h).symm
    subst this
    exact ⟨rfl, fun j => by simp⟩
  | it :: rest, seen, k, sl, h, hlt, hs => by
    have hc : chkF arr m (arr.toList.take m) (befL arr.toList [] 0) as (it :: rest) seen =
      (match chkF arr m (arr.toList.take m) (befL arr.toList [] 0) as rest (Nat.lor seen (Nat.shiftLeft 1 it.i)) with
      | none => none
      | some mr =>
        match nthOp (arr.toList.take m) it.i with
        | none => none
        | some o =>
          bif isSelect o.op then none else
          bif bitOf seen it.i then none else
          bif Nat.beq (Nat.land (dirM o.after.toList) seen) (dirM o.after.toList) then
          bif nextF (befL arr.toList [] 0) it.i rest then
          bif loF (befL arr.toList [] 0) as it then
          bif looksF (arr.toList.take m) (Nat.lor mr (Nat.shiftLeft 1 it.i)) (nthN (befL arr.toList [] 0) it.i) (looksAt arr o) then
          bif dstF (arr.toList.take m) mr o.dst then some (Nat.lor mr (Nat.shiftLeft 1 it.i)) else none
          else none else none else none else none) := rfl
    have hit : it.i < m := hlt it (by simp)
    rw [hc] at h
    split at h
    · cases h
    · rename_i mr hgo
      split at h
      · cases h
      · rename_i o hop
        rw [nthOp_eq, List.getElem?_take, if_pos hit, Array.getElem?_toList] at hop
        cases h1 : isSelect o.op with
        | true => rw [h1] at h; cases h
        | false =>
        rw [h1] at h; simp only [cond_false] at h
        cases h2 : bitOf seen it.i with
        | true => rw [h2] at h; cases h
        | false =>
        rw [h2] at h; simp only [cond_false] at h
        cases h3 : Nat.beq (Nat.land (dirM o.after.toList) seen) (dirM o.after.toList) with
        | false => rw [h3] at h; cases h
        | true =>
        rw [h3] at h; simp only [cond_true] at h
        cases h4 : nextF (befL arr.toList [] 0) it.i rest with
        | false => rw [h4] at h; cases h
        | true =>
        rw [h4] at h; simp only [cond_true] at h
        cases h5 : loF (befL arr.toList [] 0) as it with
        | false => rw [h5] at h; cases h
        | true =>
        rw [h5] at h; simp only [cond_true] at h
        cases h6 : looksF (arr.toList.take m) (Nat.lor mr (Nat.shiftLeft 1 it.i)) (nthN (befL arr.toList [] 0) it.i) (looksAt arr o) with
        | false => rw [h6] at h; cases h
        | true =>
        rw [h6] at h; simp only [cond_true] at h
        cases h7 : dstF (arr.toList.take m) mr o.dst with
        | false => rw [h7] at h; cases h
        | true =>
        rw [h7] at h; simp only [cond_true, Option.some.injEq] at h
        have hseen : ∀ i, (Nat.lor seen (Nat.shiftLeft 1 it.i)).testBit i = (it.i :: sl).contains i := fun i => by
          rw [lor_bit, shl_bit, hs i, List.contains_cons, Bool.or_comm]
          congr 1
          by_cases e : it.i = i
          · subst e; simp
          · have : ¬ i = it.i := fun x => e x.symm
            simp [e, this]
        obtain ⟨ih1, ih2⟩ := chkF_ok rest _ mr _ hgo (fun x hx => hlt x (List.mem_cons_of_mem _ hx)) hseen
        have hm : ∀ j, k.testBit j = true ↔ ∃ x, x ∈ it :: rest ∧ x.i = j := fun j => by
          rw [← h, lor_bit, shl_bit, Bool.or_eq_true, ih2 j]
          constructor
          · rintro (⟨x, hx, hj⟩ | hj)
            · exact ⟨x, List.mem_cons_of_mem _ hx, hj⟩
            · exact ⟨it, by simp, of_decide_eq_true hj⟩
          · rintro ⟨x, hx, hj⟩
            rcases List.mem_cons.1 hx with rfl | hx
            · exact .inr (decide_eq_true hj)
            · exact .inl ⟨x, hx, hj⟩
        refine ⟨?_, hm⟩
        have hb : Nat.blt it.i m = true := by rw [blt_dec]; exact decide_eq_true hit
        unfold planChk
        simp only [hop, h1, hb, ih1, Bool.and_true, Bool.and_eq_true, Bool.not_false, Bool.true_and]
        refine ⟨⟨⟨⟨⟨?_, ?_⟩, ?_⟩, ?_⟩, ?_⟩, ?_⟩
        · rw [← hs, ← bitOf_eq, h2]; rfl
        · rw [List.all_eq_true]
          intro e he
          cases hb : Region.binds .any e with
          | false => rfl
          | true =>
            simp only [Bool.not_true, Bool.false_or]
            rw [← hs]
            exact land_sub h3 (dirM_bit _ e he hb)
        · rw [nextF_eq] at h4
          split
          · rename_i a ha
            rw [ha] at h4
            rw [isBefore_nth]
            exact h4
          · rfl
        · unfold loF at h5
          rw [beq_dec] at h5
          by_cases h0 : it.lo = 0
          · simp [h0]
          · simp only [h0, decide_false, cond_false] at h5
            rw [Bool.or_eq_true]
            right
            have hsub : as[it.lo - 1]? = as[Nat.sub it.lo 1]? := rfl
            rw [hsub]
            split
            · rename_i a ha
              rw [ha] at h5
              rw [isBefore_nth]
              exact h5
            · rename_i ha
              rw [ha] at h5
              exact h5
        · rw [List.all_eq_true]
          intro t ht
          obtain ⟨k1, k2⟩ := looksF_ok h6 t ht
          rw [Bool.and_eq_true]
          constructor
          · rw [Bool.not_eq_true']
            unfold writes
            rw [List.any_eq_false]
            intro x hx hd
            have hd' : dstAt arr x.i = some t := by simpa using hd
            have := k1 _ (hlt x hx) hd'
            rw [h] at this
            rw [(hm x.i).2 ⟨x, hx, rfl⟩] at this
            cases this
          · rw [List.all_eq_true]
            intro j hj
            have hjm : j < m := by simpa using hj
            by_cases hd : dstAt arr j = some t
            · rw [Bool.or_eq_true]
              right
              rw [isBefore_nth, bitOf_eq]
              exact k2 j hjm hd
            · simp [hd]
        · unfold dstF at h7
          split
          · rename_i d hd
            rw [hd] at h7
            simp only at h7
            rw [Bool.not_eq_true']
            unfold writes
            rw [List.any_eq_false]
            intro x hx hdx
            have hd' : dstAt arr x.i = some d := by simpa using hdx
            exact land_zero h7 ((wMask_bit d (arr.toList.take m) 0 x.i).2 ⟨x.i, by omega, (dst_list (hlt x (List.mem_cons_of_mem _ hx)) d).1 hd'⟩) ((ih2 x.i).2 ⟨x, hx, rfl⟩)
          · rfl

theorem actsP_eq : ∀ l : List PlanItem, actsP l = (l.filter (·.act)).map (·.i)
  | [] => rfl
  | it :: l => by
    have hc : actsP (it :: l) = bif it.act then it.i :: actsP l else actsP l := rfl
    rw [hc, actsP_eq l]
    cases h : it.act <;> simp [h]

theorem ones_bit (m i : Nat) : (Nat.sub (Nat.shiftLeft 1 m) 1).testBit i = decide (i < m) := by
  have h3 : Nat.sub (Nat.shiftLeft 1 m) 1 = 2 ^ m - 1 := by
    have : Nat.shiftLeft 1 m = 2 ^ m := Nat.one_shiftLeft _
    rw [this]
    rfl
  rw [h3, Nat.testBit_two_pow_sub_one]

theorem aheadF_ok {k : Nat} : ∀ {l : List Nat}, aheadF k l = true → ∀ b, b ∈ l → ∀ i, k.testBit i = true → b.testBit i = true
  | b' :: l, h, b, hb, i, hi => by
    have hc : aheadF k (b' :: l) = bif Nat.beq (Nat.land k b') k then aheadF k l else false := rfl
    rw [hc] at h
    cases h1 : Nat.beq (Nat.land k b') k with
    | false => rw [h1] at h; cases h
    | true =>
      rw [h1] at h
      rcases List.mem_cons.1 hb with rfl | hb
      · exact land_sub h1 hi
      · exact aheadF_ok h b hb i hi

theorem befL_length : ∀ (l : List Oper) (acc : List Nat) (k : Nat), (befL l acc k).length = l.length
  | [], _, _ => rfl
  | o :: l, acc, k => by simp [befL, befL_length l]

theorem drawOkF_ok {ops : Array Oper} {m : Nat} (h : drawOkF ops m = true) : drawOk ops m = true := by
  unfold drawOkF at h
  cases h1 : Nat.ble m ops.toList.length with
  | false => rw [h1] at h; cases h
  | true =>
    rw [h1] at h
    simp only [cond_true] at h
    cases h2 : aheadF (Nat.sub (Nat.shiftLeft 1 m) 1) (dropN (befL ops.toList [] 0) m) with
    | false => rw [h2] at h; cases h
    | true =>
      rw [h2] at h
      simp only [cond_true] at h
      rw [takeO_eq, keepF_eq] at h
      split at h
      · rename_i k hgo
        have hlt : ∀ it, it ∈ (planOf ops).filter (fun it => Nat.blt it.i m) → it.i < m := fun it hit => by
          have := (List.mem_filter.1 hit).2
          rw [blt_dec] at this
          exact of_decide_eq_true this
        obtain ⟨k1, k2⟩ := chkF_ok _ _ _ [] hgo hlt (by simp)
        unfold drawOk
        simp only [Bool.and_eq_true]
        refine ⟨⟨⟨by simpa using h1, ?_⟩, ?_⟩, ?_⟩
        · simp only [aheadOk, idxs, List.all_eq_true, List.mem_range, Bool.or_eq_true]
          intro i hi j hj
          by_cases hjm : j < m
          · left; rw [blt_dec]; exact decide_eq_true hjm
          · right
            rw [isBefore_nth, bitOf_eq, nthN_eq, List.getD_eq_getElem?_getD]
            have hjl : j < (befL ops.toList [] 0).length := by rw [befL_length]; simpa using hj
            rw [List.getElem?_eq_getElem hjl, Option.getD_some]
            refine aheadF_ok h2 _ ?_ i (by rw [ones_bit]; exact decide_eq_true hi)
            rw [dropN_eq, List.mem_iff_getElem?]
            refine ⟨j - m, ?_⟩
            rw [List.getElem?_drop]
            have : m + (j - m) = j := by omega
            rw [this, List.getElem?_eq_getElem hjl]
        · rw [actsP_eq] at k1
          exact k1
        · rw [List.all_eq_true]
          intro i hi
          have him : i < m := by simpa using hi
          rw [beq_dec] at h
          have hm := of_decide_eq_true h
          have hbit : k.testBit i = true := by rw [hm, ones_bit]; exact decide_eq_true him
          obtain ⟨it, hit, rfl⟩ := (k2 i).1 hbit
          rw [List.any_eq_true]
          exact ⟨it, hit, by simp⟩
      · cases h
end
end Go.Dt
namespace Go.Dt


inductive AItem where
  | code (c : Code)
  | inBlock (id : Nat)
  | inLoop (body : Code)
  | inScope (body : Code)
  | beginRound

structure AFr where
  fn : FuncId
  T : List AV
  todo : List AItem
  defers : List ADef
  round : Option Nat

def exitTo (id : Nat) : List AItem → Option (List AItem)
  | .inBlock id' :: k => if id' == id then some k else exitTo id k
  | _ :: k => exitTo id k
  | [] => none
def gotoIn (l : Nat) : List AItem → Option (List AItem)
  | .inScope body :: k =>
    match findLabel body l with
    | some rest => some (.code rest :: .inScope body :: k)
    | none => gotoIn l k
  | _ :: k => gotoIn l k
  | [] => none

def resultV (D : Tab) (σ : St) (T : List AV) : List ResultVar → R (List AV)
  | [] => .ok []
  | .tmp t :: l => do
    let r ← resultV D σ T l
    return T.getD t .undef :: r
  | .cell a t :: l => do
    let v ← loadV D σ t (T.getD a .undef)
    let r ← resultV D σ T l
    return v :: r
def resultsV (D : Tab) (σ : St) (f : FuncId) (T : List AV) : R AV :=
  match D.func f with
  | some fn => do
    let vs ← resultV D σ T fn.results.toList
    match vs with
    | [v] => return v
    | vs => return .tuple vs
  | none => .error "results"

def replUndef : Nat → List AV
  | 0 => []
  | n + 1 => .undef :: replUndef n

def enterFr (D : Tab) (f : FuncId) (args : List AV) : R AFr :=
  match D.func f with
  | some fn => match fn.body with
    | some c => .ok { fn := f, T := args ++ replUndef (fn.ntmps - args.length), todo := [.code c], defers := [], round := none }
    | none => .error "body"
  | none => .error "enter"

def setParams : List (Tmp × AV) → List AV → List AV
  | [], T => T
  | (t, a) :: l, T => setParams l (T.set t a)

def getLoop (σ : St) (l : Nat) : R ALoop :=
  if l < σ.n then
    match σ.getO l with
    | .loop r => .ok r
    | _ => .error "loop"
  else .error "loop"



structure Fns where
  run : AFr → Pan → St → R (AEnd × Pan × St)
  finish : FuncId → List AV → List ADef → Option AV → Pan → St → R (AEnd × Pan × St)
  endLoop : AFr → Nat → AEnd → Pan → St → R (AEnd × Pan × St)
  call : CallT
  round : RoundT

def goF (F : Fns) (nx : ANext) (σ : St) : R (AEnd × St) :=
  match nx with
  | .enter f args => F.call f args σ
  | .round l args => F.round l args σ
  | _ => .error "goF"

def leaveF (F : Fns) (fr : AFr) (jump : Option Code) (pan : Pan) (σ : St) : R (AEnd × Pan × St) :=
  match fr.round with
  | none =>
    match jump with
    | none => F.finish fr.fn fr.T fr.defers none pan σ
    | some .ret => F.finish fr.fn fr.T fr.defers none pan σ
    | _ => .error "leave"
  | some l =>
    if fr.defers.isEmpty then do
      let r ← getLoop σ l
      return (.ret (boolV jump.isNone), pan, σ.set l (.loop { r with state := if jump.isNone then .ready else .done, pending := jump }))
    else .error "defers in a round"

def panicF (F : Fns) (fr : AFr) (v : AV) (pan : Pan) (σ : St) : R (AEnd × Pan × St) :=
  match fr.round with
  | none => F.finish fr.fn fr.T fr.defers (some v) pan σ
  | some _ => if fr.defers.isEmpty then .ok (.panic v, pan, σ) else .error "defers in a round"

def runF (D : Tab) (F : Fns) (fr : AFr) (pan : Pan) (σ : St) : R (AEnd × Pan × St) :=
  match fr.todo with
  | [] => leaveF F fr none pan σ
  | .inBlock _ :: k => F.run { fr with todo := k } pan σ
  | .inScope _ :: k => F.run { fr with todo := k } pan σ
  | .inLoop body :: k => F.run { fr with todo := .code body :: .inLoop body :: k } pan σ
  | .beginRound :: k =>
    match fr.round with
    | some l => do
      let r ← getLoop σ l
      if r.state = .ready then F.run { fr with todo := k } pan (σ.set l (.loop { r with state := .busy }))
      else .error "beginRound"
    | none => .error "beginRound"
  | .code c :: k =>
    match c with
    | .ret => leaveF F fr (some .ret) pan σ
    | .skip => F.run { fr with todo := k } pan σ
    | .label _ => F.run { fr with todo := k } pan σ
    | .seq a b => F.run { fr with todo := .code a :: .code b :: k } pan σ
    | .cond c thn els => do
      let b ← asB (evalO D fr.T c)
      F.run { fr with todo := .code (if b then thn else els) :: k } pan σ
    | .block id body => F.run { fr with todo := .code body :: .inBlock id :: k } pan σ
    | .loop body => F.run { fr with todo := .code body :: .inLoop body :: k } pan σ
    | .scope body => F.run { fr with todo := .code body :: .inScope body :: k } pan σ
    | .exit id =>
      match exitTo id k with
      | some k => F.run { fr with todo := k } pan σ
      | none => leaveF F fr (some (.exit id)) pan σ
    | .goto l =>
      match gotoIn l k with
      | some k => F.run { fr with todo := k } pan σ
      | none => leaveF F fr (some (.goto l)) pan σ
    | .region _ ops draw => do
      let r ← runRegion D F.call F.round fr.round.isSome ops draw fr.T fr.defers pan σ
      match r with
      | .go T ds pan σ => F.run { fr with T, defers := ds, todo := k } pan σ
      | .panic v T ds pan σ => panicF F { fr with T, defers := ds } v pan σ
    | .rangeFunc f params assign body =>
      match fr.round with
      | some l0 => do
        let r0 ← getLoop σ l0
        let nx ← callV D (evalO D fr.T f) [.yield σ.n]
        let lp : ALoop := { state := .ready, pending := none, fn := fr.fn, T := fr.T, params := params.toList, assign, body, defers := r0.defers }
        let (e, σ') ← goF F nx (σ.push (.loop lp))
        F.endLoop { fr with todo := k } σ.n e pan σ'
      | none => do
        let nx ← callV D (evalO D fr.T f) [.yield (σ.n + 1)]
        let lp : ALoop := { state := .ready, pending := none, fn := fr.fn, T := fr.T, params := params.toList, assign, body, defers := σ.n }
        let (e, σ') ← goF F nx ((σ.push (.deferred (some []))).push (.loop lp))
        F.endLoop { fr with todo := k, defers := .collected σ.n :: fr.defers } (σ.n + 1) e pan σ'
    | .refuse _ => .error "refuse"

/-- behind the call of a range over a function -/
def endLoopF (F : Fns) (fr : AFr) (l : Nat) (e : AEnd) (pan : Pan) (σ : St) : R (AEnd × Pan × St) :=
  match e with
  | .ret _ => do
    let r ← getLoop σ l
    if r.state = .busy then .error "endLoop busy" else
    match r.pending with
    | none => F.run fr pan (σ.set l (.loop { r with state := .exhausted }))
    | some c => F.run { fr with todo := .code c :: fr.todo } pan (σ.set l (.loop { r with state := .exhausted }))
  | .panic v => panicF F fr v pan σ

def finishF (D : Tab) (F : Fns) (fn : FuncId) (T : List AV) (ds : List ADef) (mode : Option AV) (pan : Pan) (σ : St) : R (AEnd × Pan × St) :=
  match ds with
  | [] =>
    match mode with
    | none => do
      let v ← resultsV D σ fn T
      return (.ret v, pan, σ)
    | some v => .ok (.panic v, pan, σ)
  | .collected r :: ds => do
    let o ← σ.get r
    match o with
    | .deferred (some calls) => F.finish fn T (calls ++ ds) mode pan (σ.set r (.deferred none))
    | _ => .error "collected"
  | .fn g cap args :: ds => do
    let nx ← invokeT D g cap args
    match nx with
    | .enter f args => do
      let fr ← enterFr D f args
      let (e, p, σ) ← F.run fr (mode.map fun v => (v, false)) σ
      match e with
      | .ret _ =>
        match p with
        | some (v, false) => F.finish fn T ds (some v) pan σ
        | _ => F.finish fn T ds none pan σ
      | .panic v =>
        match p with
        | none => F.finish fn T ds (some v) pan σ
        | some _ => .error "panic in a deferred call while panicking"
    | _ => .error "deferred call"

def plainF (D : Tab) (F : Fns) (f : FuncId) (args : List AV) (σ : St) : R (AEnd × St) := do
  let fr ← enterFr D f args
  let (e, _, σ) ← F.run fr none σ
  return (e, σ)

def bareSt (M : MTree) (l : List AO) : St := { n := l.length, l, M }

/-- one call of a pure function in a memory of its own -/
def pureF (D : Tab) (F : Fns) (f : FuncId) (args : List AV) (σX : St) : R (Memo × MTree) := do
  let fr ← enterFr D f args
  let (e, _, σ2) ← F.run fr none σX
  match e with
  | .ret v =>
    if nodup (refsA σ2 copyFuel v) then do
      let (y, σY) ← copyA true σ2 copyFuel v (freshSt D .e)
      if nodup (refsA (bareSt .e σY.l) copyFuel y) then return ({ f, args, heap := σX.l, val := y, res := σY.l }, σ2.M)
      else .error "pure result shares"
    else .error "pure result shares"
  | .panic _ => .error "pure panics"

def memoF (m : Memo) (σ : St) : R (AEnd × St) := do
  let (v, σ) ← copyA true (bareSt .e m.res) copyFuel m.val σ
  return (.ret v, σ)

def callF (D : Tab) (F : Fns) (f : FuncId) (args : List AV) (σ : St) : R (AEnd × St) :=
  if D.pure f then do
    let (args', σX) ← copyL (copyA false σ copyFuel) args (freshSt D σ.M)
    match findMemo f args' σX.l (σX.M.get (pth f)) with
    | some m => memoF m σ
    | none => do
      let (m, M) ← pureF D F f args' σX
      memoF m { σ with M := M.add m (pth f) }
  else plainF D F f args σ

def roundF (D : Tab) (F : Fns) (l : Nat) (args : List AV) (σ : St) : R (AEnd × St) := do
  let r ← getLoop σ l
  match D.func r.fn with
  | none => .error "round"
  | some _ =>
    if r.params.length = args.length then do
      let (e, _, σ) ← F.run { fn := r.fn, T := setParams (r.params.zip args) r.T, todo := [.code r.assign, .beginRound, .code r.body], defers := [], round := some l } none σ
      return (e, σ)
    else .error "yield number of arguments"

def noFns : Fns where
  run := fun _ _ _ => .error "fuel"
  finish := fun _ _ _ _ _ _ => .error "fuel"
  endLoop := fun _ _ _ _ _ => .error "fuel"
  call := fun _ _ _ => .error "fuel"
  round := fun _ _ _ => .error "fuel"

def nextFns (D : Tab) (F : Fns) : Fns where
  run := runF D F
  finish := finishF D F
  endLoop := endLoopF F
  call := callF D F
  round := roundF D F

def fns (D : Tab) : Nat → Fns
  | 0 => noFns
  | n + 1 => nextFns D (fns D n)

end Go.Dt
namespace Go.Dt

/-- temporaries: a tree of eight ways -/
inductive RT where
  | e
  | v (x : AV)
  | n (a0 a1 a2 a3 a4 a5 a6 a7 : RT)
structure GC where
  run : RT → AV
structure SC where
  run : AV → RT → RT
structure TC where
  run : RT → RT
structure VC where
  run : (RT → RT) → RT → RT
noncomputable def sel (i : Nat) : TC :=
  bif Nat.beq i 0 then ⟨fun t => RT.rec (motive := fun _ => RT) .e (fun _ => .e) (fun a _ _ _ _ _ _ _ _ _ _ _ _ _ _ _ => a) t⟩ else
  bif Nat.beq i 1 then ⟨fun t => RT.rec (motive := fun _ => RT) .e (fun _ => .e) (fun _ a _ _ _ _ _ _ _ _ _ _ _ _ _ _ => a) t⟩ else
  bif Nat.beq i 2 then ⟨fun t => RT.rec (motive := fun _ => RT) .e (fun _ => .e) (fun _ _ a _ _ _ _ _ _ _ _ _ _ _ _ _ => a) t⟩ else
  bif Nat.beq i 3 then ⟨fun t => RT.rec (motive := fun _ => RT) .e (fun _ => .e) (fun _ _ _ a _ _ _ _ _ _ _ _ _ _ _ _ => a) t⟩ else
  bif Nat.beq i 4 then ⟨fun t => RT.rec (motive := fun _ => RT) .e (fun _ => .e) (fun _ _ _ _ a _ _ _ _ _ _ _ _ _ _ _ => a) t⟩ else
  bif Nat.beq i 5 then ⟨fun t => RT.rec (motive := fun _ => RT) .e (fun _ => .e) (fun _ _ _ _ _ a _ _ _ _ _ _ _ _ _ _ => a) t⟩ else
  bif Nat.beq i 6 then ⟨fun t => RT.rec (motive := fun _ => RT) .e (fun _ => .e) (fun _ _ _ _ _ _ a _ _ _ _ _ _ _ _ _ => a) t⟩ else
  ⟨fun t => RT.rec (motive := fun _ => RT) .e (fun _ => .e) (fun _ _ _ _ _ _ _ a _ _ _ _ _ _ _ _ => a) t⟩
noncomputable def updN (i : Nat) : VC :=
  bif Nat.beq i 0 then ⟨fun g t => RT.rec (motive := fun _ => RT) (.n (g .e) .e .e .e .e .e .e .e) (fun _ => .n (g .e) .e .e .e .e .e .e .e) (fun a0 a1 a2 a3 a4 a5 a6 a7 _ _ _ _ _ _ _ _ => .n (g a0) a1 a2 a3 a4 a5 a6 a7) t⟩ else
  bif Nat.beq i 1 then ⟨fun g t => RT.rec (motive := fun _ => RT) (.n .e (g .e) .e .e .e .e .e .e) (fun _ => .n .e (g .e) .e .e .e .e .e .e) (fun a0 a1 a2 a3 a4 a5 a6 a7 _ _ _ _ _ _ _ _ => .n a0 (g a1) a2 a3 a4 a5 a6 a7) t⟩ else
  bif Nat.beq i 2 then ⟨fun g t => RT.rec (motive := fun _ => RT) (.n .e .e (g .e) .e .e .e .e .e) (fun _ => .n .e .e (g .e) .e .e .e .e .e) (fun a0 a1 a2 a3 a4 a5 a6 a7 _ _ _ _ _ _ _ _ => .n a0 a1 (g a2) a3 a4 a5 a6 a7) t⟩ else
  bif Nat.beq i 3 then ⟨fun g t => RT.rec (motive := fun _ => RT) (.n .e .e .e (g .e) .e .e .e .e) (fun _ => .n .e .e .e (g .e) .e .e .e .e) (fun a0 a1 a2 a3 a4 a5 a6 a7 _ _ _ _ _ _ _ _ => .n a0 a1 a2 (g a3) a4 a5 a6 a7) t⟩ else
  bif Nat.beq i 4 then ⟨fun g t => RT.rec (motive := fun _ => RT) (.n .e .e .e .e (g .e) .e .e .e) (fun _ => .n .e .e .e .e (g .e) .e .e .e) (fun a0 a1 a2 a3 a4 a5 a6 a7 _ _ _ _ _ _ _ _ => .n a0 a1 a2 a3 (g a4) a5 a6 a7) t⟩ else
  bif Nat.beq i 5 then ⟨fun g t => RT.rec (motive := fun _ => RT) (.n .e .e .e .e .e (g .e) .e .e) (fun _ => .n .e .e .e .e .e (g .e) .e .e) (fun a0 a1 a2 a3 a4 a5 a6 a7 _ _ _ _ _ _ _ _ => .n a0 a1 a2 a3 a4 (g a5) a6 a7) t⟩ else
  bif Nat.beq i 6 then ⟨fun g t => RT.rec (motive := fun _ => RT) (.n .e .e .e .e .e .e (g .e) .e) (fun _ => .n .e .e .e .e .e .e (g .e) .e) (fun a0 a1 a2 a3 a4 a5 a6 a7 _ _ _ _ _ _ _ _ => .n a0 a1 a2 a3 a4 a5 (g a6) a7) t⟩ else
  ⟨fun g t => RT.rec (motive := fun _ => RT) (.n .e .e .e .e .e .e .e (g .e)) (fun _ => .n .e .e .e .e .e .e .e (g .e)) (fun a0 a1 a2 a3 a4 a5 a6 a7 _ _ _ _ _ _ _ _ => .n a0 a1 a2 a3 a4 a5 a6 (g a7)) t⟩
noncomputable def gc (d : Nat) : Nat → GC :=
  Nat.rec (motive := fun _ => Nat → GC) (fun _ => ⟨fun t => RT.rec (motive := fun _ => AV) .undef (fun x => x) (fun _ _ _ _ _ _ _ _ _ _ _ _ _ _ _ _ => .undef) t⟩)
    (fun _ g k => ⟨fun t => (g (Nat.div k 8)).run ((sel (Nat.mod k 8)).run t)⟩) d
noncomputable def sc (d : Nat) : Nat → SC :=
  Nat.rec (motive := fun _ => Nat → SC) (fun _ => ⟨fun v _ => .v v⟩)
    (fun _ g k => ⟨fun v t => (updN (Nat.mod k 8)).run (fun t => (g (Nat.div k 8)).run v t) t⟩) d
/-- how deep the tree of n temporaries is -/
def depF : Nat → Nat → Nat → Nat
  | 0, d, _ => d
  | f + 1, d, m => bif Nat.ble m 1 then d else depF f (Nat.succ d) (Nat.div (Nat.add m 7) 8)
def dep (n : Nat) : Nat := depF n 0 n
noncomputable def getC (n k : Nat) : GC := bif Nat.blt k n then gc (dep n) k else ⟨fun _ => .undef⟩
noncomputable def setT (n k : Nat) : SC := bif Nat.blt k n then sc (dep n) k else ⟨fun _ T => T⟩

/-- operands -/
noncomputable def opd (D : Tab) (n : Nat) (x : Operand) : GC :=
  match x with
  | .tmp t => getC n t
  | .const v => ⟨fun _ => ofConst v⟩
  | .global g => bif Nat.blt g D.nglob then ⟨fun _ => .ptr g 0⟩ else ⟨fun _ => .base (.pointer (some ⟨g, 0, none⟩))⟩
  | .func f => ⟨fun _ => .func (.func f) [] []⟩

/-- where a value goes -/
noncomputable def putC (n : Nat) (d : Option Tmp) : SC :=
  match d with
  | none => ⟨fun _ T => T⟩
  | some d => setT n d

structure PC where
  run : RT → R AV
structure BC where
  run : AV → AV → R AV
structure UC where
  run : AV → R AV
structure LC where
  run : St → AV → R AV

noncomputable def IntKind.same (a b : IntKind) : Bool := Nat.beq (IntKind.ctorIdx a) (IntKind.ctorIdx b)

def wrapS (k : IntKind) (n : Int) : Int :=
  match n with
  | .ofNat m =>
    (match k with
    | .i64 => bif Nat.blt m 9223372036854775808 then .ofNat m else k.wrap (.ofNat m)
    | .u64 => bif Nat.blt m 18446744073709551616 then .ofNat m else k.wrap (.ofNat m)
    | .u8 => bif Nat.blt m 256 then .ofNat m else k.wrap (.ofNat m)
    | .i32 => bif Nat.blt m 2147483648 then .ofNat m else k.wrap (.ofNat m)
    | _ => k.wrap (.ofNat m))
  | .negSucc m =>
    (match k with
    | .i64 => bif Nat.blt m 9223372036854775808 then .negSucc m else k.wrap (.negSucc m)
    | _ => k.wrap (.negSucc m))

def ltI (a b : Int) : Bool :=
  match a with
  | .ofNat m => (match b with
    | .ofNat n => Nat.blt m n
    | .negSucc _ => false)
  | .negSucc m => (match b with
    | .ofNat _ => true
    | .negSucc n => Nat.blt n m)
def eqI (a b : Int) : Bool :=
  match a with
  | .ofNat m => (match b with
    | .ofNat n => Nat.beq m n
    | .negSucc _ => false)
  | .negSucc m => (match b with
    | .ofNat _ => false
    | .negSucc n => Nat.beq n m)

/-- an operation on two integers of one kind -/
noncomputable def intC (op : BinOp) : Option (IntKind → Int → Int → AV) :=
  match op with
  | .add => some fun k a b => .base (.int k (wrapS k (a + b)))
  | .sub => some fun k a b => .base (.int k (wrapS k (a - b)))
  | .mul => some fun k a b => .base (.int k (wrapS k (a * b)))
  | .eql => some fun _ a b => .base (.bool (eqI a b))
  | .neq => some fun _ a b => .base (.bool (not (eqI a b)))
  | .lss => some fun _ a b => .base (.bool (ltI a b))
  | .leq => some fun _ a b => .base (.bool (not (ltI b a)))
  | .gtr => some fun _ a b => .base (.bool (ltI b a))
  | .geq => some fun _ a b => .base (.bool (not (ltI a b)))
  | _ => none

noncomputable def binC (D : Tab) (op : BinOp) (t : Nat) (c : Bool) : BC :=
  match intC op with
  | some g => ⟨fun x y =>
      match x with
      | .base vx => (match vx with
        | .int k a => (match y with
          | .base vy => (match vy with
            | .int k' b => bif IntKind.same k k' then .ok (g k a b) else .error "kinds"
            | vy => binOp D op t (.base (.int k a)) (.base vy) c)
          | y => binOp D op t (.base (.int k a)) y c)
        | vx => binOp D op t (.base vx) y c)
      | x => binOp D op t x y c⟩
  | none => ⟨fun x y => binOp D op t x y c⟩

noncomputable def unC (op : UnOp) : UC :=
  match op with
  | .not => ⟨fun x =>
      match x with
      | .base v => (match v with
        | .bool b => .ok (.base (.bool (not b)))
        | v => unOp .not (.base v))
      | x => unOp .not x⟩
  | op => ⟨fun x => unOp op x⟩

noncomputable def fieldAddrC (D : Tab) (t f : Nat) : UC :=
  match fieldOf D t f with
  | .ok fd => (match size D fd.type with
    | .ok s => bif Nat.beq s 0 then ⟨fun x => fieldAddr D t x f⟩ else ⟨fun x =>
        match x with
        | .ptr b o => .ok (.ptr b (Nat.add o fd.offset))
        | _ => .error "fieldAddr"⟩
    | .error _ => ⟨fun x => fieldAddr D t x f⟩)
  | .error _ => ⟨fun x => fieldAddr D t x f⟩

noncomputable def indexAddrC (D : Tab) (t : Nat) : BC :=
  match und D t with
  | .ok d => (match d with
    | .array len elem => (match size D elem with
      | .ok s => ⟨fun x ix =>
          match x with
          | .ptr b o => (match ix with
            | .base v => (match v with
              | .int _ i => (match i with
                | .ofNat i => bif Nat.blt i len then .ok (.ptr b (Nat.add o (Nat.mul i s))) else .error "index"
                | .negSucc _ => .error "index")
              | v => indexAddr D t (.ptr b o) (.base v))
            | ix => indexAddr D t (.ptr b o) ix)
          | x => indexAddr D t x ix⟩
      | .error _ => ⟨fun x ix => indexAddr D t x ix⟩)
    | .slice elem => (match size D elem with
      | .ok s => ⟨fun x ix =>
          match x with
          | .slice b o len _ _ => (match ix with
            | .base v => (match v with
              | .int _ i => (match i with
                | .ofNat i => bif Nat.blt i len then .ok (.ptr b (Nat.add o (Nat.mul i s))) else .error "index"
                | .negSucc _ => .error "index")
              | v => indexAddr D t x (.base v))
            | ix => indexAddr D t x ix)
          | x => indexAddr D t x ix⟩
      | .error _ => ⟨fun x ix => indexAddr D t x ix⟩)
    | _ => ⟨fun x ix => indexAddr D t x ix⟩)
  | .error _ => ⟨fun x ix => indexAddr D t x ix⟩

noncomputable def nthL (l : List AV) : Nat → R AV :=
  List.rec (motive := fun _ => Nat → R AV) (fun _ => .error "load") (fun v _ ih i => bif Nat.beq i 0 then .ok v else ih (Nat.sub i 1)) l
noncomputable def nthO (l : List AO) : Nat → AO :=
  List.rec (motive := fun _ => Nat → AO) (fun _ => .gone) (fun v _ ih i => bif Nat.beq i 0 then v else ih (Nat.sub i 1)) l
noncomputable def setO (l : List AO) : Nat → AO → List AO :=
  List.rec (motive := fun _ => Nat → AO → List AO) (fun _ _ => []) (fun v l ih i o => bif Nat.beq i 0 then o :: l else v :: ih (Nat.sub i 1) o) l

noncomputable def lenL (l : List AV) : Nat := List.rec (motive := fun _ => Nat) 0 (fun _ _ ih => Nat.succ ih) l
noncomputable def dropS (l : List AV) : Nat → List AV :=
  List.rec (motive := fun _ => Nat → List AV) (fun _ => []) (fun v l ih o => bif Nat.beq o 0 then v :: l else ih (Nat.sub o 1)) l
noncomputable def grabS (l : List AV) : Nat → R (List AV) :=
  List.rec (motive := fun _ => Nat → R (List AV)) (fun k => bif Nat.beq k 0 then .ok [] else .error "takeN")
    (fun v _ ih k => bif Nat.beq k 0 then .ok [] else match ih (Nat.sub k 1) with | .ok l => .ok (v :: l) | .error e => .error e) l
noncomputable def grabAll (l : List AV) (k : Nat) : R (List AV) := bif Nat.beq (lenL l) k then .ok l else grabS l k
noncomputable def takeS (cs : List AV) (o k : Nat) : R (List AV) := bif Nat.beq o 0 then grabAll cs k else grabAll (dropS cs o) k

noncomputable def loadC (D : Tab) (t : Nat) : LC :=
  match und D t with
  | .ok d => bif isAggD d then (match size D t with
    | .ok k => ⟨fun σ a =>
      match a with
      | .ptr b o => (match σ with
        | ⟨n, l, _⟩ => bif Nat.blt b n then
          (match nthO l (Nat.sub (Nat.sub n 1) b) with
          | .cells cs _ _ _ => (match takeS cs o k with
            | .ok l => .ok (.agg l)
            | .error e => .error e)
          | _ => .error "cells") else .error "cells")
      | _ => .error "load pointer"⟩
    | .error _ => ⟨fun σ a => loadV D σ t a⟩) else ⟨fun σ a =>
      match a with
      | .ptr b o => (match σ with
        | ⟨n, l, _⟩ => bif Nat.blt b n then
          (match nthO l (Nat.sub (Nat.sub n 1) b) with
          | .cells cs _ _ _ => nthL cs o
          | _ => .error "cells") else .error "cells")
      | _ => .error "load pointer"⟩
  | .error _ => ⟨fun σ a => loadV D σ t a⟩

noncomputable def lenC (D : Tab) (t : Nat) : UC :=
  match und D t with
  | .ok d => (match d with
    | .slice _ => ⟨fun x =>
        match x with
        | .slice _ _ n _ _ => .ok (.base (.int .i64 (.ofNat n)))
        | x => lenV D t x⟩
    | _ => ⟨fun x => lenV D t x⟩)
  | .error _ => ⟨fun x => lenV D t x⟩

def nthE (l : List AV) (i : Nat) : R AV :=
  match l[i]? with
  | some x => .ok x
  | none => .error "extract"

noncomputable def pureC (D : Tab) (n : Nat) (op : Op) : PC :=
  match op with
  | .move x => ⟨fun T => .ok ((opd D n x).run T)⟩
  | .assign x => ⟨fun T => .ok ((opd D n x).run T)⟩
  | .pick c a b => ⟨fun T =>
      match (opd D n c).run T with
      | .base v => (match v with
        | .bool t => .ok (bif t then (opd D n a).run T else (opd D n b).run T)
        | _ => .error "bool")
      | _ => .error "bool"⟩
  | .binOp op t x y _ => ⟨fun T => (binC D op t (isConstO x || isConstO y)).run ((opd D n x).run T) ((opd D n y).run T)⟩
  | .unOp op _ x => ⟨fun T => (unC op).run ((opd D n x).run T)⟩
  | .fieldAddr t x f => ⟨fun T => (fieldAddrC D t f).run ((opd D n x).run T)⟩
  | .indexAddr t x ix => ⟨fun T => (indexAddrC D t).run ((opd D n x).run T) ((opd D n ix).run T)⟩
  | .extract t ix => ⟨fun T =>
      match (opd D n t).run T with
      | .tuple vs => nthE vs ix
      | _ => .error "extract"⟩
  | op => ⟨fun T => pureOp D (fun x => (opd D n x).run T) op⟩

structure RC where
  run : St → RT → R AV
noncomputable def readC (D : Tab) (n : Nat) (op : Op) : RC :=
  match op with
  | .load t a => ⟨fun σ T => (loadC D t).run σ ((opd D n a).run T)⟩
  | op => ⟨fun σ T => readOp D σ (fun x => (opd D n x).run T) op⟩

/-- one cell is written -/
noncomputable def setC (l : List AV) : Nat → AV → Option (List AV) :=
  List.rec (motive := fun _ => Nat → AV → Option (List AV)) (fun _ _ => none)
    (fun v l ih i x => bif Nat.beq i 0 then some (x :: l) else match ih (Nat.sub i 1) x with | some l' => some (v :: l') | none => none) l

structure WC where
  run : St → AV → AV → R St
noncomputable def storeC (D : Tab) (t : Nat) : WC :=
  match size D t with
  | .ok n => bif Nat.beq n 1 then ⟨fun σ a x =>
      bif x.oneCell then
        (match a with
        | .ptr b o => (match σ with
          | ⟨n, l, M⟩ => bif Nat.blt b n then
            (match nthO l (Nat.sub (Nat.sub n 1) b) with
            | .cells cs elem own sz => bif own then
                (match setC cs o x with
                | some cs => .ok ⟨n, setO l (Nat.sub (Nat.sub n 1) b) (.cells cs elem own sz), M⟩
                | none => .error "store") else .error "store"
            | _ => .error "store") else .error "store")
        | _ => .error "store pointer")
      else storeV D σ t a x⟩
    else ⟨fun σ a x => storeV D σ t a x⟩
  | .error _ => ⟨fun σ a x => storeV D σ t a x⟩

noncomputable def argsC (D : Tab) (n : Nat) (l : List Operand) (T : RT) : List AV :=
  List.rec (motive := fun _ => List AV) [] (fun x _ ih => (opd D n x).run T :: ih) l

structure AC where
  run : St → RT → R (ANext × St)

/-- a function that the model enters -/
def enters (D : Tab) (f : FuncId) : Bool :=
  match D.ext f with
  | some _ => false
  | none => match callFn D f [] with
    | .ok _ => true
    | .error _ => false

noncomputable def callC (D : Tab) (n : Nat) (c : Call) : AC :=
  match c.callee with
  | .value f => (match f with
    | .func f => bif enters D f then ⟨fun σ T => .ok (.enter f (argsC D n c.args.toList T), σ)⟩ else ⟨fun σ T => actOp D σ (fun x => (opd D n x).run T) (.call c)⟩
    | _ => ⟨fun σ T => actOp D σ (fun x => (opd D n x).run T) (.call c)⟩)
  | _ => ⟨fun σ T => actOp D σ (fun x => (opd D n x).run T) (.call c)⟩

noncomputable def actC (D : Tab) (n : Nat) (op : Op) : AC :=
  match op with
  | .store t a x => ⟨fun σ T =>
      match (storeC D t).run σ ((opd D n a).run T) ((opd D n x).run T) with
      | .ok σ => .ok (.skip, σ)
      | .error e => .error e⟩
  | .call c => callC D n c
  | op => ⟨fun σ T => actOp D σ (fun x => (opd D n x).run T) op⟩

/-- what comes behind an operation -/
abbrev Kont (ρ : Type) := RT → List ADef → Pan → St → R ρ
abbrev KPan (ρ : Type) := AV → RT → List ADef → Pan → St → R ρ

structure OC (ρ : Type) where
  run : CallT → RoundT → RT → List ADef → Pan → St → Kont ρ → KPan ρ → R ρ

noncomputable def nextC (ρ : Type) (isRound : Bool) (put : SC) (call : CallT) (round : RoundT) (nx : ANext) (T : RT) (ds : List ADef) (pan : Pan) (σ : St) (K : Kont ρ) (Kp : KPan ρ) : R ρ :=
  match nx with
  | .value v => K (put.run v T) ds pan σ
  | .skip => K (put.run .undef T) ds pan σ
  | .defer d => bif isRound then .error "defer in a round" else K (put.run .undef T) (d :: ds) pan σ
  | .recover => bif isRound then .error "recover in a round" else
    match pan with
    | some (v, false) => K (put.run v T) ds (some (v, true)) σ
    | _ => K (put.run (.base .nilIface) T) ds pan σ
  | .panic v => Kp v T ds pan σ
  | .enter f args =>
    (match call f args σ with
    | .ok r => (match r with
      | ⟨e, σ⟩ => (match e with
        | .ret v => K (put.run v T) ds pan σ
        | .panic v => Kp v T ds pan σ))
    | .error e => .error e)
  | .round l args =>
    (match round l args σ with
    | .ok r => (match r with
      | ⟨e, σ⟩ => (match e with
        | .ret v => K (put.run v T) ds pan σ
        | .panic v => Kp v T ds pan σ))
    | .error e => .error e)

noncomputable def oneC (ρ : Type) (D : Tab) (n : Nat) (isRound : Bool) (o : Oper) : OC ρ :=
  match clsD D o.op with
  | .pure => ⟨fun _ _ T ds pan σ K _ =>
      match (pureC D n o.op).run T with
      | .ok v => K ((putC n o.dst).run v T) ds pan σ
      | .error e => .error e⟩
  | .read => ⟨fun _ _ T ds pan σ K _ =>
      match (readC D n o.op).run σ T with
      | .ok v => K ((putC n o.dst).run v T) ds pan σ
      | .error e => .error e⟩
  | .alloc => ⟨fun _ _ T ds pan σ K _ =>
      match σ with
      | ⟨m, l, M⟩ =>
        (match allocOp D (fun x => (opd D n x).run T) o.op m with
        | .ok r => (match r with
          | ⟨v, ob⟩ => K ((putC n o.dst).run v T) ds pan ⟨Nat.succ m, ob :: l, M⟩)
        | .error e => .error e)⟩
  | .act => ⟨fun call round T ds pan σ K Kp =>
      match (actC D n o.op).run σ T with
      | .ok r => (match r with
        | ⟨nx, σ⟩ => nextC ρ isRound (putC n o.dst) call round nx T ds pan σ K Kp)
      | .error e => .error e⟩

/-- a guarded operation -/
noncomputable def guardC (n : Nat) (ops : Array Oper) (g : Option (Nat × Bool)) : Option (GC × Bool) :=
  match g with
  | none => none
  | some (j, want) =>
    match (ops[j]?).bind (·.dst) with
    | some d => some (getC n d, want)
    | none => some (⟨fun _ => .undef⟩, want)

def isB (v : AV) (want : Bool) : Bool :=
  match v with
  | .base v => (match v with
    | .bool b => bif b then want else not want
    | _ => false)
  | _ => false

noncomputable def seqC (ρ : Type) (D : Tab) (n : Nat) (isRound : Bool) (ops : Array Oper) (l : List Oper) : OC ρ :=
  List.rec (motive := fun _ => OC ρ) ⟨fun _ _ T ds pan σ K _ => K T ds pan σ⟩
    (fun o _ ih =>
      match guardC n ops o.guard with
      | none => ⟨fun call round T ds pan σ K Kp => (oneC ρ D n isRound o).run call round T ds pan σ (fun T ds pan σ => ih.run call round T ds pan σ K Kp) Kp⟩
      | some (g, want) => ⟨fun call round T ds pan σ K Kp =>
          bif isB (g.run T) want then (oneC ρ D n isRound o).run call round T ds pan σ (fun T ds pan σ => ih.run call round T ds pan σ K Kp) Kp
          else ih.run call round ((putC n o.dst).run .undef T) ds pan σ K Kp⟩) l

/- drawn regions -/
structure DC (ρ : Type) where
  run : CallT → RoundT → List St → RT → List ADef → Pan → St → Kont ρ → R ρ

def bndAll (n : Nat) (l : List AV) : Bool :=
  match l with
  | [] => true
  | v :: l => bif bndA n v then bndAll n l else false

noncomputable def eqBytes (a : List UInt8) : List UInt8 → Bool :=
  List.rec (motive := fun _ => List UInt8 → Bool) (fun b => match b with | [] => true | _ :: _ => false)
    (fun x _ ih b => match b with | [] => false | y :: b => bif Nat.beq x.toNat y.toNat then ih b else false) a

noncomputable def eqVS (a b : Value) : Bool :=
  match a with
  | .int k m => (match b with
    | .int k' n => bif IntKind.same k k' then eqI m n else false
    | _ => false)
  | .bool x => (match b with
    | .bool y => bif x then y else not y
    | _ => false)
  | a => beqBase a b

noncomputable def beqA0 (a b : AV) : Bool :=
  match a with
  | .base x => (match b with
    | .base y => eqVS x y
    | _ => false)
  | a => beqA a b
noncomputable def beqL0 (a : List AV) : List AV → Bool :=
  List.rec (motive := fun _ => List AV → Bool) (fun b => match b with | [] => true | _ :: _ => false)
    (fun x _ ih b => match b with | [] => false | y :: b => bif beqA0 x y then ih b else false) a
noncomputable def beqAS (a b : AV) : Bool :=
  match a with
  | .base x => (match b with
    | .base y => eqVS x y
    | _ => false)
  | .agg l => (match b with
    | .agg l' => beqL0 l l'
    | _ => false)
  | a => beqA a b
noncomputable def sameL (v : AV) (rd : St → R AV) : List St → Bool
  | [] => true
  | σ :: l =>
    match rd σ with
    | .ok v' => bif beqAS v' v then sameL v rd l else false
    | .error _ => false

noncomputable def beqLS (a : List AV) : List AV → Bool :=
  List.rec (motive := fun _ => List AV → Bool) (fun b => match b with | [] => true | _ :: _ => false)
    (fun x _ ih b => match b with | [] => false | y :: b => bif beqAS x y then ih b else false) a
noncomputable def beqOS (a b : AO) : Bool :=
  match a with
  | .cells cs e o s => (match b with
    | .cells cs' e' o' s' => bif Nat.beq e e' then bif (bif o then o' else not o') then bif Nat.beq s s' then beqLS cs cs' else false else false else false
    | _ => false)
  | .gone => (match b with
    | .gone => true
    | _ => false)
  | _ => false
noncomputable def beqHS (a : List AO) : List AO → Bool :=
  List.rec (motive := fun _ => List AO → Bool) (fun b => match b with | [] => true | _ :: _ => false)
    (fun x _ ih b => match b with | [] => false | y :: b => bif beqOS x y then ih b else false) a

/-- the list of the first temporaries -/
noncomputable def toL (n : Nat) (T : RT) : List AV := (List.range n).map fun k => (getC n k).run T

/-- values into the first temporaries -/
noncomputable def fillT (n : Nat) (l : List AV) : Nat → RT → RT :=
  List.rec (motive := fun _ => Nat → RT → RT) (fun _ T => T) (fun v _ ih i T => ih (Nat.succ i) ((setT n i).run v T)) l

noncomputable def itemC (ρ : Type) (D : Tab) (n : Nat) (isRound : Bool) (ops : Array Oper) (it : PlanItem) (ih : DC ρ) : DC ρ :=
  match ops[it.i]? with
  | none => ⟨fun _ _ _ _ _ _ _ _ => .error "runDraw"⟩
  | some o =>
    let go : DC ρ :=
      match it.act with
      | true => ⟨fun call round snaps T ds pan σ K =>
          bif bndAll σ.n (argsC D n o.op.operands.toList T) then
            (oneC ρ D n isRound o).run call round T ds pan σ (fun T ds pan σ' => bif Nat.ble σ.n σ'.n then ih.run call round (σ' :: snaps) T ds pan σ' K else .error "runDraw n")
              (fun _ _ _ _ _ => .error "panic in a drawn region")
          else .error "runDraw ids"⟩
      | false =>
        (match clsD D o.op with
        | .pure => ⟨fun call round snaps T ds pan σ K =>
            match (pureC D n o.op).run T with
            | .ok v => ih.run call round snaps ((putC n o.dst).run v T) ds pan σ K
            | .error e => .error e⟩
        | .read => ⟨fun call round snaps T ds pan σ K =>
            match (readC D n o.op).run σ T with
            | .ok v =>
              bif Nat.blt it.lo snaps.length then
                bif sameL v (fun σ => (readC D n o.op).run σ T) (snaps.take (Nat.sub snaps.length it.lo)) then ih.run call round snaps ((putC n o.dst).run v T) ds pan σ K else .error "unstable read"
              else .error "unstable read"
            | .error e => .error e⟩
        | .alloc => ⟨fun call round snaps T ds pan σ K =>
            match allocOp D (fun x => (opd D n x).run T) o.op σ.n with
            | .ok r => (match r with
              | ⟨v, ob⟩ => bif bndO (Nat.succ σ.n) ob then ih.run call round snaps ((putC n o.dst).run v T) ds pan (σ.push ob) K else .error "runDraw object")
            | .error e => .error e⟩
        | .act => ⟨fun _ _ _ _ _ _ _ _ => .error "runDraw"⟩)
    match guardC n ops o.guard with
    | none => go
    | some (g, want) => ⟨fun call round snaps T ds pan σ K =>
        bif isB (g.run T) want then go.run call round snaps T ds pan σ K
        else ih.run call round (bif it.act then σ :: snaps else snaps) ((putC n o.dst).run .undef T) ds pan σ K⟩

noncomputable def planC (ρ : Type) (D : Tab) (n : Nat) (isRound : Bool) (ops : Array Oper) (l : List PlanItem) : DC ρ :=
  List.rec (motive := fun _ => DC ρ) ⟨fun _ _ _ T ds pan σ K => K T ds pan σ⟩ (fun it _ ih => itemC ρ D n isRound ops it ih) l

noncomputable def restC (ρ : Type) (D : Tab) (n : Nat) (ops : Array Oper) (K : Kont ρ) : Kont ρ := fun T ds pan σ =>
  match runRest D beqLS beqHS ops (D.cut ops) (toL n T) σ with
  | .ok r => (match r with
    | ⟨L, σ⟩ => bif Nat.beq (lenL L) n then K (fillT n L 0 .e) ds pan σ else .error "rest")
  | .error e => .error e

noncomputable def regionC (ρ : Type) (D : Tab) (n : Nat) (isRound : Bool) (ops : Array Oper) (draw : Bool) : OC ρ :=
  match draw with
  | true => bif drawOkF ops (D.cut ops) then
      bif Nat.ble ops.toList.length (D.cut ops) then ⟨fun call round T ds pan σ K _ => (planC ρ D n isRound ops (keepF (D.cut ops) (planOf ops))).run call round [σ] T ds pan σ K⟩
      else bif Nat.beq ops.toList.length (Nat.succ (D.cut ops)) then
        bif canE ops (D.cut ops) 0 (D.cut ops) then ⟨fun call round T ds pan σ K Kp => (planC ρ D n isRound ops (keepF (D.cut ops) (planOf ops))).run call round [σ] T ds pan σ
          (fun T ds pan σ => (seqC ρ D n isRound ops (ops.toList.drop (D.cut ops))).run call round T ds pan σ K Kp)⟩
        else ⟨fun _ _ _ _ _ _ _ _ => .error "last"⟩
      else ⟨fun call round T ds pan σ K _ => (planC ρ D n isRound ops (keepF (D.cut ops) (planOf ops))).run call round [σ] T ds pan σ (restC ρ D n ops K)⟩
    else ⟨fun _ _ _ _ _ _ _ _ => .error "plan"⟩
  | false => seqC ρ D n isRound ops ops.toList

/- frames -/
abbrev Res := AEnd × Pan × St

structure FnsS where
  run : FuncId → Nat → Option Nat → RT → List AItem → List ADef → Pan → St → R Res
  finish : FuncId → Nat → RT → List ADef → Option AV → Pan → St → R Res
  endLoop : FuncId → Nat → Option Nat → RT → List AItem → List ADef → Nat → AEnd → Pan → St → R Res
  call : CallT
  round : RoundT

def goS (F : FnsS) (nx : ANext) (σ : St) : R (AEnd × St) :=
  match nx with
  | .enter f args => F.call f args σ
  | .round l args => F.round l args σ
  | _ => .error "goF"

def leaveS (F : FnsS) (fn n : Nat) (rd : Option Nat) (T : RT) (ds : List ADef) (jump : Option Code) (pan : Pan) (σ : St) : R Res :=
  match rd with
  | none =>
    (match jump with
    | none => F.finish fn n T ds none pan σ
    | some c => (match c with
      | .ret => F.finish fn n T ds none pan σ
      | _ => .error "leave"))
  | some l =>
    bif ds.isEmpty then
      (match getLoop σ l with
      | .ok r => .ok (.ret (boolV jump.isNone), pan, σ.set l (.loop { r with state := if jump.isNone then .ready else .done, pending := jump }))
      | .error e => .error e)
    else .error "defers in a round"

def panicS (F : FnsS) (fn n : Nat) (rd : Option Nat) (T : RT) (ds : List ADef) (v : AV) (pan : Pan) (σ : St) : R Res :=
  match rd with
  | none => F.finish fn n T ds (some v) pan σ
  | some _ => bif ds.isEmpty then .ok (.panic v, pan, σ) else .error "defers in a round"

structure CC where
  run : FnsS → FuncId → Nat → Option Nat → RT → List AItem → List ADef → Pan → St → R Res

noncomputable def codeC (D : Tab) (n : Nat) (isRound : Bool) (c : Code) : CC :=
  match c with
  | .ret => ⟨fun F fn n rd T _ ds pan σ => leaveS F fn n rd T ds (some .ret) pan σ⟩
  | .skip => ⟨fun F fn n rd T k ds pan σ => F.run fn n rd T k ds pan σ⟩
  | .label _ => ⟨fun F fn n rd T k ds pan σ => F.run fn n rd T k ds pan σ⟩
  | .seq a b => ⟨fun F fn n rd T k ds pan σ => F.run fn n rd T (.code a :: .code b :: k) ds pan σ⟩
  | .cond c x y => ⟨fun F fn n rd T k ds pan σ =>
      match (opd D n c).run T with
      | .base v => (match v with
        | .bool b => F.run fn n rd T (.code (bif b then x else y) :: k) ds pan σ
        | _ => .error "bool")
      | _ => .error "bool"⟩
  | .block id body => ⟨fun F fn n rd T k ds pan σ => F.run fn n rd T (.code body :: .inBlock id :: k) ds pan σ⟩
  | .loop body => ⟨fun F fn n rd T k ds pan σ => F.run fn n rd T (.code body :: .inLoop body :: k) ds pan σ⟩
  | .scope body => ⟨fun F fn n rd T k ds pan σ => F.run fn n rd T (.code body :: .inScope body :: k) ds pan σ⟩
  | .exit id => ⟨fun F fn n rd T k ds pan σ =>
      match exitTo id k with
      | some k => F.run fn n rd T k ds pan σ
      | none => leaveS F fn n rd T ds (some (.exit id)) pan σ⟩
  | .goto l => ⟨fun F fn n rd T k ds pan σ =>
      match gotoIn l k with
      | some k => F.run fn n rd T k ds pan σ
      | none => leaveS F fn n rd T ds (some (.goto l)) pan σ⟩
  | .region _ ops draw => ⟨fun F fn n' rd T k ds pan σ =>
      (regionC Res D n isRound ops draw).run F.call F.round T ds pan σ (fun T ds pan σ => F.run fn n' rd T k ds pan σ) (fun v T ds pan σ => panicS F fn n' rd T ds v pan σ)⟩
  | .rangeFunc f params assign body => ⟨fun F fn n rd T k ds pan σ =>
      match rd with
      | some l0 =>
        (match getLoop σ l0 with
        | .ok r0 =>
          (match callV D ((opd D n f).run T) [.yield σ.n] with
          | .ok nx =>
            (match goS F nx (σ.push (.loop { state := .ready, pending := none, fn := fn, T := toL n T, params := params.toList, assign, body, defers := r0.defers })) with
            | .ok r => (match r with
              | ⟨e, σ'⟩ => F.endLoop fn n rd T k ds σ.n e pan σ')
            | .error e => .error e)
          | .error e => .error e)
        | .error e => .error e)
      | none =>
        (match callV D ((opd D n f).run T) [.yield (σ.n + 1)] with
        | .ok nx =>
          (match goS F nx ((σ.push (.deferred (some []))).push (.loop { state := .ready, pending := none, fn := fn, T := toL n T, params := params.toList, assign, body, defers := σ.n })) with
          | .ok r => (match r with
            | ⟨e, σ'⟩ => F.endLoop fn n rd T k (.collected σ.n :: ds) (σ.n + 1) e pan σ')
          | .error e => .error e)
        | .error e => .error e)⟩
  | .refuse _ => ⟨fun _ _ _ _ _ _ _ _ _ => .error "refuse"⟩

noncomputable def runS (D : Tab) (F : FnsS) (fn n : Nat) (rd : Option Nat) (T : RT) (todo : List AItem) (ds : List ADef) (pan : Pan) (σ : St) : R Res :=
  match todo with
  | [] => leaveS F fn n rd T ds none pan σ
  | it :: k =>
    match it with
    | .code c => (codeC D n rd.isSome c).run F fn n rd T k ds pan σ
    | .inBlock _ => F.run fn n rd T k ds pan σ
    | .inScope _ => F.run fn n rd T k ds pan σ
    | .inLoop body => F.run fn n rd T (.code body :: .inLoop body :: k) ds pan σ
    | .beginRound =>
      match rd with
      | some l =>
        (match getLoop σ l with
        | .ok r => if r.state = .ready then F.run fn n rd T k ds pan (σ.set l (.loop { r with state := .busy })) else .error "beginRound"
        | .error e => .error e)
      | none => .error "beginRound"

def endLoopS (F : FnsS) (fn n : Nat) (rd : Option Nat) (T : RT) (todo : List AItem) (ds : List ADef) (l : Nat) (e : AEnd) (pan : Pan) (σ : St) : R Res :=
  match e with
  | .ret _ =>
    (match getLoop σ l with
    | .ok r =>
      if r.state = .busy then .error "endLoop busy" else
      (match r.pending with
      | none => F.run fn n rd T todo ds pan (σ.set l (.loop { r with state := .exhausted }))
      | some c => F.run fn n rd T (.code c :: todo) ds pan (σ.set l (.loop { r with state := .exhausted })))
    | .error e => .error e)
  | .panic v => panicS F fn n rd T ds v pan σ

structure EC where
  ok : Bool
  n : Nat
  todo : List AItem
/-- what a call enters -/
def enterC (D : Tab) (f : FuncId) : EC :=
  match D.func f with
  | some fn => (match fn.body with
    | some c => ⟨true, fn.ntmps, [.code c]⟩
    | none => ⟨false, 0, []⟩)
  | none => ⟨false, 0, []⟩

noncomputable def enterS (D : Tab) (F : FnsS) (f : FuncId) (args : List AV) (pan : Pan) (σ : St) : R Res :=
  match enterC D f with
  | ⟨ok, n, todo⟩ => bif ok then bif Nat.ble (lenL args) n then F.run f n none (fillT n args 0 .e) todo [] pan σ else .error "args" else .error "enter"

noncomputable def resultS (D : Tab) (n : Nat) (σ : St) (T : RT) (l : List ResultVar) : R (List AV) :=
  List.rec (motive := fun _ => R (List AV)) (.ok []) (fun x _ ih =>
    match x with
    | .tmp t => (match ih with
      | .ok r => .ok ((getC n t).run T :: r)
      | .error e => .error e)
    | .cell a t => (match (loadC D t).run σ ((getC n a).run T) with
      | .ok v => (match ih with
        | .ok r => .ok (v :: r)
        | .error e => .error e)
      | .error e => .error e)) l
def one1 (vs : List AV) : AV :=
  match vs with
  | [] => .tuple []
  | v :: l => (match l with
    | [] => v
    | w :: l => .tuple (v :: w :: l))
def resC (D : Tab) (f : FuncId) : Option (List ResultVar) :=
  match D.func f with
  | some fn => some fn.results.toList
  | none => none

noncomputable def finishS (D : Tab) (F : FnsS) (fn n : Nat) (T : RT) (ds : List ADef) (mode : Option AV) (pan : Pan) (σ : St) : R Res :=
  match ds with
  | [] =>
    (match mode with
    | none => (match resC D fn with
      | some l => (match resultS D n σ T l with
        | .ok vs => .ok (.ret (one1 vs), pan, σ)
        | .error e => .error e)
      | none => .error "results")
    | some v => .ok (.panic v, pan, σ))
  | d :: ds =>
    match d with
    | .collected r =>
      (match σ.get r with
      | .ok o => (match o with
        | .deferred (some calls) => F.finish fn n T (calls ++ ds) mode pan (σ.set r (.deferred none))
        | _ => .error "collected")
      | .error e => .error e)
    | .fn g cap args =>
      (match invokeT D g cap args with
      | .ok nx => (match nx with
        | .enter f args =>
          (match enterS D F f args (mode.map fun v => (v, false)) σ with
          | .ok r => (match r with
            | ⟨e, p, σ⟩ => (match e with
              | .ret _ => (match p with
                | some (v, false) => F.finish fn n T ds (some v) pan σ
                | _ => F.finish fn n T ds none pan σ)
              | .panic v => (match p with
                | none => F.finish fn n T ds (some v) pan σ
                | some _ => .error "panic in a deferred call while panicking")))
          | .error e => .error e)
        | _ => .error "deferred call")
      | .error e => .error e)

/- copies -/
noncomputable def allB (l : List AV) : Bool := List.rec (motive := fun _ => Bool) true (fun v _ ih => match v with | .base _ => ih | _ => false) l

noncomputable def capChkS (own : Bool) (cap : Option Nat) (o len sz : Nat) (cs : List AV) : Bool :=
  match cap with
  | none => bif own then Nat.beq (Nat.mod o sz) 0 else true
  | some c => bif Nat.blt 0 sz then bif Nat.ble len c then bif own then (bif Nat.ble (Nat.add o (Nat.mul c sz)) (lenL cs) then Nat.beq (Nat.mod o sz) 0 else false) else true else false else false

noncomputable def copyLS (f : AV → St → R (AV × St)) (l : List AV) : St → R (List AV × St) :=
  List.rec (motive := fun _ => St → R (List AV × St)) (fun dst => .ok ([], dst)) (fun x _ ih dst =>
    match f x dst with
    | .ok r => (match r with
      | ⟨x, dst⟩ => (match ih dst with
        | .ok r => (match r with
          | ⟨l, dst⟩ => .ok (x :: l, dst))
        | .error e => .error e))
    | .error e => .error e) l

noncomputable def copyAS (own : Bool) (src : St) (n : Nat) : AV → St → R (AV × St) :=
  Nat.rec (motive := fun _ => AV → St → R (AV × St)) (fun _ _ => .error "copy fuel") (fun n ih v dst =>
    let many : List AV → St → R (List AV × St) := fun l dst => bif Nat.beq n 0 then copyLS ih l dst else bif allB l then .ok (l, dst) else copyLS ih l dst
    match v with
    | .base v => .ok (.base v, dst)
    | .slice b o len cap sz =>
      (match src.getO b with
      | .cells cs elem ow sz' =>
        bif (bif own then bif ow then Nat.beq sz' sz else false else true) then
        bif capChkS own cap o len sz cs then
          (match takeS cs o (Nat.mul len sz) with
          | .ok l => (match many l dst with
            | .ok r => (match r with
              | ⟨l, dst⟩ => (match dst with
                | ⟨m, h, M⟩ => .ok (.slice m 0 len none sz, ⟨Nat.succ m, .cells l elem own sz :: h, M⟩)))
            | .error e => .error e)
          | .error e => .error e)
        else .error "copy not own"
        else .error "copy not own"
      | _ => .error "copy cells")
    | .iface t v =>
      (match ih v dst with
      | .ok r => (match r with
        | ⟨v, dst⟩ => .ok (.iface t v, dst))
      | .error e => .error e)
    | .agg l =>
      (match many l dst with
      | .ok r => (match r with
        | ⟨l, dst⟩ => .ok (.agg l, dst))
      | .error e => .error e)
    | .tuple l =>
      (match many l dst with
      | .ok r => (match r with
        | ⟨l, dst⟩ => .ok (.tuple l, dst))
      | .error e => .error e)
    | v => copyA own src (Nat.succ n) v dst) n

noncomputable def refsAS (src : St) (n : Nat) : AV → List Nat :=
  Nat.rec (motive := fun _ => AV → List Nat) (fun _ => []) (fun _ ih v =>
    let many : List AV → List Nat := fun l => bif allB l then [] else refsL ih l
    match v with
    | .base _ => []
    | .slice b o len _ sz =>
      (match src.getO b with
      | .cells cs _ _ _ => (match takeS cs o (Nat.mul len sz) with
        | .ok l => b :: many l
        | .error _ => b :: refsL ih ((cs.drop o).take (len * sz)))
      | _ => [])
    | .iface _ v => ih v
    | .agg l => many l
    | .tuple l => many l
    | _ => []) n

noncomputable def findS (f : FuncId) (args : List AV) (h : List AO) (M : List Memo) : Option Memo :=
  List.rec (motive := fun _ => Option Memo) none (fun m _ ih => bif Nat.beq m.f f then bif beqLS m.args args then bif beqHS m.heap h then some m else ih else ih else ih) M

noncomputable def pureS (D : Tab) (F : FnsS) (f : FuncId) (args : List AV) (σX : St) : R (Memo × MTree) :=
  match enterS D F f args none σX with
  | .ok r => (match r with
    | ⟨e, r⟩ => (match r with
      | ⟨_, σ2⟩ => (match e with
      | .ret v =>
        bif nodup (refsAS σ2 copyFuel v) then
          (match copyAS true σ2 copyFuel v (freshSt D .e) with
          | .ok r => (match r with
            | ⟨y, σY⟩ => (match σY with
              | ⟨_, hY, _⟩ => bif nodup (refsAS (bareSt .e hY) copyFuel y) then .ok ({ f, args, heap := σX.l, val := y, res := hY }, σ2.M) else .error "pure result shares"))
          | .error e => .error e)
        else .error "pure result shares"
      | .panic _ => .error "pure panics")))
  | .error e => .error e

noncomputable def memoS (m : Memo) (σ : St) : R (AEnd × St) :=
  match copyAS true (bareSt .e m.res) copyFuel m.val σ with
  | .ok r => (match r with
    | ⟨v, σ⟩ => .ok (.ret v, σ))
  | .error e => .error e

noncomputable def callS (D : Tab) (F : FnsS) (f : FuncId) (args : List AV) (σ : St) : R (AEnd × St) :=
  bif D.pure f then
    (match σ with
    | ⟨n, l, M⟩ =>
      (match copyLS (copyAS false ⟨n, l, M⟩ copyFuel) args (freshSt D M) with
      | .ok r => (match r with
        | ⟨args', σX⟩ => (match σX with
          | ⟨nX, hX, MX⟩ =>
          (match findS f args' hX (MX.get (pth f)) with
          | some m => memoS m ⟨n, l, M⟩
          | none => (match pureS D F f args' ⟨nX, hX, MX⟩ with
            | .ok r => (match r with
              | ⟨m, M'⟩ => memoS m ⟨n, l, M'.add m (pth f)⟩)
            | .error e => .error e))))
      | .error e => .error e))
  else
    (match enterS D F f args none σ with
    | .ok r => (match r with
      | ⟨e, r⟩ => (match r with
        | ⟨_, σ⟩ => .ok (e, σ)))
    | .error e => .error e)

noncomputable def paramsT (n : Nat) (l : List (Tmp × AV)) : RT → RT :=
  List.rec (motive := fun _ => RT → RT) (fun T => T) (fun p _ ih T => ih ((setT n p.1).run p.2 T)) l

noncomputable def roundS (D : Tab) (F : FnsS) (l : Nat) (args : List AV) (σ : St) : R (AEnd × St) :=
  match getLoop σ l with
  | .ok r =>
    (match D.func r.fn with
    | none => .error "round"
    | some _ =>
      if r.params.length = args.length then
        (match F.run r.fn (lenL r.T) (some l) (paramsT (lenL r.T) (r.params.zip args) (fillT (lenL r.T) r.T 0 .e)) [.code r.assign, .beginRound, .code r.body] [] none σ with
        | .ok r => (match r with
          | ⟨e, _, σ⟩ => .ok (e, σ))
        | .error e => .error e)
      else .error "yield number of arguments")
  | .error e => .error e

def noFnsS : FnsS where
  run := fun _ _ _ _ _ _ _ _ => .error "fuel"
  finish := fun _ _ _ _ _ _ _ => .error "fuel"
  endLoop := fun _ _ _ _ _ _ _ _ _ _ => .error "fuel"
  call := fun _ _ _ => .error "fuel"
  round := fun _ _ _ => .error "fuel"

noncomputable def nextFnsS (D : Tab) (F : FnsS) : FnsS where
  run := runS D F
  finish := finishS D F
  endLoop := endLoopS F
  call := callS D F
  round := roundS D F

noncomputable def fnsS (D : Tab) (n : Nat) : FnsS := Nat.rec (motive := fun _ => FnsS) noFnsS (fun _ F => nextFnsS D F) n

end Go.Dt
namespace Go.Dt

def cItem : AItem → Item
  | .code c => .code c
  | .inBlock id => .inBlock id
  | .inLoop b => .inLoop b
  | .inScope b => .inScope b
  | .beginRound => .beginRound

theorem exitTo_c (id : Nat) : ∀ k : List AItem, Go.exitTo id (k.map cItem) = (exitTo id k).map (List.map cItem)
  | [] => rfl
  | .inBlock id' :: k => by
    simp only [List.map_cons, cItem, Go.exitTo, exitTo]
    split
    · rfl
    · exact exitTo_c id k
  | .code c :: k => by simp only [List.map_cons, cItem, Go.exitTo, exitTo]; exact exitTo_c id k
  | .inLoop c :: k => by simp only [List.map_cons, cItem, Go.exitTo, exitTo]; exact exitTo_c id k
  | .inScope c :: k => by simp only [List.map_cons, cItem, Go.exitTo, exitTo]; exact exitTo_c id k
  | .beginRound :: k => by simp only [List.map_cons, cItem, Go.exitTo, exitTo]; exact exitTo_c id k
theorem gotoIn_c (l : Nat) : ∀ k : List AItem, Go.gotoIn l (k.map cItem) = (gotoIn l k).map (List.map cItem)
  | [] => rfl
  | .inScope c :: k => by
    simp only [List.map_cons, cItem, Go.gotoIn, gotoIn]
    cases h : findLabel c l with
    | none => simpa using gotoIn_c l k
    | some rest => simp [cItem]
  | .code c :: k => by simp only [List.map_cons, cItem, Go.gotoIn, gotoIn]; exact gotoIn_c l k
  | .inLoop c :: k => by simp only [List.map_cons, cItem, Go.gotoIn, gotoIn]; exact gotoIn_c l k
  | .inBlock c :: k => by simp only [List.map_cons, cItem, Go.gotoIn, gotoIn]; exact gotoIn_c l k
  | .beginRound :: k => by simp only [List.map_cons, cItem, Go.gotoIn, gotoIn]; exact gotoIn_c l k

section
variable {P : Program} {b : Frame} {T : Array Value} {ds : List Deferred} {k : List Item} {cs : List Frame} {w w' : World}

theorem step_on_skip : step P (lone (on b T ds (.code .skip :: k)) cs w) = .next (lone (on b T ds k) cs w) := step_lone_go (by simp [stepG, stepG.exec, on])
theorem step_on_label {l : Nat} : step P (lone (on b T ds (.code (.label l) :: k)) cs w) = .next (lone (on b T ds k) cs w) := step_lone_go (by simp [stepG, stepG.exec, on])
theorem step_on_inBlock {l : Nat} : step P (lone (on b T ds (.inBlock l :: k)) cs w) = .next (lone (on b T ds k) cs w) := step_lone_go (by simp [stepG, stepG.exec, on])
theorem step_on_inScope {c : Code} : step P (lone (on b T ds (.inScope c :: k)) cs w) = .next (lone (on b T ds k) cs w) := step_lone_go (by simp [stepG, stepG.exec, on])
theorem step_on_inLoop {c : Code} : step P (lone (on b T ds (.inLoop c :: k)) cs w) = .next (lone (on b T ds (.code c :: .inLoop c :: k)) cs w) := step_lone_go (by simp [stepG, stepG.exec, on])
theorem step_on_seq {x y : Code} : step P (lone (on b T ds (.code (.seq x y) :: k)) cs w) = .next (lone (on b T ds (.code x :: .code y :: k)) cs w) := step_lone_go (by simp [stepG, stepG.exec, on])
theorem step_on_block {id : Nat} {x : Code} : step P (lone (on b T ds (.code (.block id x) :: k)) cs w) = .next (lone (on b T ds (.code x :: .inBlock id :: k)) cs w) := step_lone_go (by simp [stepG, stepG.exec, on])
theorem step_on_loop {x : Code} : step P (lone (on b T ds (.code (.loop x) :: k)) cs w) = .next (lone (on b T ds (.code x :: .inLoop x :: k)) cs w) := step_lone_go (by simp [stepG, stepG.exec, on])
theorem step_on_scope {x : Code} : step P (lone (on b T ds (.code (.scope x) :: k)) cs w) = .next (lone (on b T ds (.code x :: .inScope x :: k)) cs w) := step_lone_go (by simp [stepG, stepG.exec, on])
theorem step_on_cond {c : Operand} {x y : Code} {t : Bool} (h : evT T c = .bool t) :
    step P (lone (on b T ds (.code (.cond c x y) :: k)) cs w) = .next (lone (on b T ds (.code (if t then x else y) :: k)) cs w) := step_lone_go (by
  have := congrFun (on_eval b T ds (.code (.cond c x y) :: k)) c
  simp only [on] at this
  simp [stepG, stepG.exec, on, this, h])
theorem step_on_exit {id : Nat} {k' : List Item} (h : Go.exitTo id k = some k') : step P (lone (on b T ds (.code (.exit id) :: k)) cs w) = .next (lone (on b T ds k') cs w) :=
  step_lone_go (by simp [stepG, stepG.exec, on, h])
theorem step_on_goto {id : Nat} {k' : List Item} (h : Go.gotoIn id k = some k') : step P (lone (on b T ds (.code (.goto id) :: k)) cs w) = .next (lone (on b T ds k') cs w) :=
  step_lone_go (by simp [stepG, stepG.exec, on, h])

/-- a frame that leaves -/
def unwinding (b : Frame) (T : Array Value) (ds : List Deferred) (todo : List Item) (mode : FrameMode) : Frame := { on b T ds todo with mode := mode }

theorem step_on_nil (hr : b.roundOf = none) : step P (lone (on b T ds []) cs w) = .next (lone (unwinding b T ds [] .returning) cs w) :=
  step_lone_go (by simp [stepG, stepG.exec, on, hr, unwinding])
theorem step_on_ret (hr : b.roundOf = none) : step P (lone (on b T ds (.code .ret :: k)) cs w) = .next (lone (unwinding b T ds (.code .ret :: k) .returning) cs w) :=
  step_lone_go (by simp [stepG, stepG.exec, on, hr, unwinding])

theorem step_round_nil {l : Nat} {c : Frame} {v : Value} (hr : b.roundOf = some l) (hk : b.kind = .normal) (h : (Instr.endRound l none).run P w = .ok v w') :
    step P (lone (on b T ds []) (c :: cs) w) = .next (lone (c.finish v) cs w') :=
  step_lone_go (by simp [stepG, stepG.exec, on, hr, h, doReturn, hk])
theorem step_round_ret {l : Nat} {c : Frame} {v : Value} (hr : b.roundOf = some l) (hk : b.kind = .normal) (h : (Instr.endRound l (some .ret)).run P w = .ok v w') :
    step P (lone (on b T ds (.code .ret :: k)) (c :: cs) w) = .next (lone (c.finish v) cs w') :=
  step_lone_go (by simp [stepG, stepG.exec, on, hr, h, doReturn, hk])
theorem step_round_exit {l id : Nat} {c : Frame} {v : Value} (hr : b.roundOf = some l) (hk : b.kind = .normal) (he : Go.exitTo id k = none) (h : (Instr.endRound l (some (.exit id))).run P w = .ok v w') :
    step P (lone (on b T ds (.code (.exit id) :: k)) (c :: cs) w) = .next (lone (c.finish v) cs w') :=
  step_lone_go (by simp [stepG, stepG.exec, on, hr, he, h, doReturn, hk])
theorem step_round_goto {l id : Nat} {c : Frame} {v : Value} (hr : b.roundOf = some l) (hk : b.kind = .normal) (he : Go.gotoIn id k = none) (h : (Instr.endRound l (some (.goto id))).run P w = .ok v w') :
    step P (lone (on b T ds (.code (.goto id) :: k)) (c :: cs) w) = .next (lone (c.finish v) cs w') :=
  step_lone_go (by simp [stepG, stepG.exec, on, hr, he, h, doReturn, hk])

theorem step_round_panic {c : Frame} {todo : List Item} {chain : List PanicEntry} {fn : Func} (hf : P.funcs[b.fn]? = some fn) :
    step P (lone (unwinding b T [] todo (.panicking chain)) (c :: cs) w) = .next (lone (c.raise chain) cs w) :=
  step_lone_go (by simp [stepG, unwind, unwinding, on, Frame.catches, hf])

theorem step_begin {l : Nat} (hr : b.roundOf = some l) (h : (Instr.beginRound l).run P w = .ok () w') :
    step P (lone (on b T ds (.beginRound :: k)) cs w) = .next (lone (on b T ds k) cs w') :=
  step_lone_go (by simp [stepG, stepG.exec, stepG.apply, on, hr, h, Frame.finish])

theorem step_endLoop {l : Nat} {j : Option Code} (h : (Instr.endLoop l).run P w = .ok j w') :
    step P (lone (on b T ds (.endRangeFunc l :: k)) cs w) = .next (lone (on b T ds ((j.map Item.code).toList ++ k)) cs w') :=
  step_lone_go (by simp [stepG, stepG.exec, on, h])

theorem step_collect {r : Nat} {args : Array Value} {todo : List Item} {mode : FrameMode} {calls : List Deferred} (hm : mode ≠ .run) (h : (Instr.takeDeferred r).run P w = .ok calls w') :
    step P (lone (unwinding b T ({ target := .collected r, args } :: ds) todo mode) cs w) = .next (lone (unwinding b T (calls ++ ds) todo mode) cs w') :=
  step_lone_go (by
    cases mode with
    | run => exact (hm rfl).elim
    | returning => simp [stepG, unwind, unwinding, on, h]
    | panicking c => simp [stepG, unwind, unwinding, on, h])

theorem step_deferred {fn : Fn} {cap args : Array Value} {todo : List Item} {mode : FrameMode} {f : FuncId} {as : Array Value} (hm : mode ≠ .run)
    (h : (invoke (.fn fn cap) args).run P w = .ok (.enter f as) w) :
    step P (lone (unwinding b T ({ target := .fn fn cap, args } :: ds) todo mode) cs w) = .next (lone (Frame.enter P f as .deferred) (unwinding b T ds todo mode :: cs) w) :=
  step_lone_go (by
    cases mode with
    | run => exact (hm rfl).elim
    | returning => simp [stepG, unwind, unwinding, on, h, callDeferred]
    | panicking c => simp [stepG, unwind, unwinding, on, h, callDeferred])

theorem step_range_func {f : Operand} {params : Array Tmp} {assign body : Code} {l : Nat} {mark : List Deferred} {g : FuncId} {as : Array Value}
    (h : (Instr.enterLoop b.fn T params assign body b.roundOf).run P w = .ok (l, mark) w')
    (hi : (do let d ← Deferred.ofValue (evT T f) #[.func (.yield l) #[] #[]]; invoke d.target d.args : Sem Next).run P w' = .ok (.enter g as) w') :
    step P (lone (on b T ds (.code (.rangeFunc f params assign body) :: k)) cs w) =
      .next (lone (Frame.enter P g as .normal) (on b T (mark ++ ds) (.inRangeFunc l :: k) :: cs) w') := by
  refine step_lone_go ?_
  have he : ({ b with tmps := T, defers := mark ++ ds, todo := .inRangeFunc l :: k, mode := .run } : Frame).eval = evT T := on_eval b T _ _
  have hi' : (do let d ← resolve (evT T) { callee := .value f, args := #[.const (.func (.yield l) #[] #[])], argTypes := #[] } 0; invoke d.target d.args : Sem Next).run P w' = .ok (.enter g as) w' := by
    simpa [resolve, evT] using hi
  simp [stepG, stepG.exec, on, h, stepG.apply, he, hi']

theorem step_range_round {f : Operand} {params : Array Tmp} {assign body : Code} {l l' : Nat} {mark : List Deferred} {g : FuncId} {tmps : Array Value} {as bd : Code}
    (h : (Instr.enterLoop b.fn T params assign body b.roundOf).run P w = .ok (l, mark) w')
    (hi : (do let d ← Deferred.ofValue (evT T f) #[.func (.yield l) #[] #[]]; invoke d.target d.args : Sem Next).run P w' = .ok (.round l' g tmps as bd) w') :
    step P (lone (on b T ds (.code (.rangeFunc f params assign body) :: k)) cs w) =
      .next (lone (Frame.round l' g tmps as bd .normal) (on b T (mark ++ ds) (.inRangeFunc l :: k) :: cs) w') := by
  refine step_lone_go ?_
  have he : ({ b with tmps := T, defers := mark ++ ds, todo := .inRangeFunc l :: k, mode := .run } : Frame).eval = evT T := on_eval b T _ _
  have hi' : (do let d ← resolve (evT T) { callee := .value f, args := #[.const (.func (.yield l) #[] #[])], argTypes := #[] } 0; invoke d.target d.args : Sem Next).run P w' = .ok (.round l' g tmps as bd) w' := by
    simpa [resolve, evT] using hi
  simp [stepG, stepG.exec, on, h, stepG.apply, he, hi']

end

/-- a deferred call has come back -/
def backTo (c : Frame) : Frame :=
  match c.mode with
  | .panicking ({ recovered := true, .. } :: older) =>
    match older.dropWhile (!·.goexit) with
    | [] => { c with mode := .returning }
    | rest => { c with mode := .panicking rest }
  | _ => c

theorem step_back {P : Program} {fr c : Frame} {cs : List Frame} {w : World} {v : Value} {fn : Func} (hm : fr.mode = .returning) (hd : fr.defers = []) (hk : fr.kind = .deferred)
    (hf : P.funcs[fr.fn]? = some fn) (hr : (results fn fr.tmps).run P w = .ok v w) : step P (lone fr (c :: cs) w) = .next (lone (backTo c) cs w) :=
  step_lone_go (by
    have key : ∀ c : Frame, (match c.mode with
        | .panicking ({ recovered := true, .. } :: older) =>
          match older.dropWhile (!·.goexit) with
          | [] => { c with mode := .returning }
          | rest => { c with mode := .panicking rest }
        | _ => c) = backTo c := fun c => rfl
    simp [stepG, unwind, doReturn, hm, hd, hk, hf, hr]
    unfold backTo
    cases hc : c.mode with
    | run => rfl
    | returning => rfl
    | panicking chain =>
      cases chain with
      | nil => rfl
      | cons e older =>
        obtain ⟨v, r, g⟩ := e
        cases r with
        | false => rfl
        | true => cases hh : List.dropWhile (fun x : PanicEntry => !x.goexit) older <;> simp [hh])

theorem step_raise {P : Program} {fr c : Frame} {cs : List Frame} {w : World} {chain : List PanicEntry} {fn : Func} (hm : fr.mode = .panicking chain) (hd : fr.defers = [])
    (hf : P.funcs[fr.fn]? = some fn) : step P (lone fr (c :: cs) w) = .next (lone (c.raise chain) cs w) :=
  step_lone_go (by simp [stepG, unwind, Frame.catches, hm, hd, hf])

end Go.Dt
namespace Go.Dt

section
variable {D : Tab} {P : Program}

def modeOf (ι : Nat → Loc) : Option AV → FrameMode
  | none => .returning
  | some v => .panicking [{ v := conc ι v, recovered := false }]

/-- a frame has ended -/
def Gone (P : Program) (X : Ctx) (b : Frame) (ι : Nat → Loc) (pan : Pan) (w : World) (e : AEnd) (m : Machine) : Prop :=
  match b.roundOf with
  | none => ∃ fr, Steps P m (lone fr (X.cs ι pan) w) ∧ fr.fn = b.fn ∧ fr.defers = [] ∧ fr.kind = b.kind ∧ ∃ fn, P.funcs[b.fn]? = some fn ∧
      match e with
      | .ret v => fr.mode = .returning ∧ (results fn fr.tmps).run P w = .ok (conc ι v) w
      | .panic v => fr.mode = .panicking [{ v := conc ι v, recovered := false }]
  | some _ => ∀ c cs, X.cs ι pan = c :: cs → Steps P m (lone (after c (concEnd ι e)) cs w)

theorem Gone.of_steps {X : Ctx} {b : Frame} {ι : Nat → Loc} {pan : Pan} {w : World} {e : AEnd} {m m' : Machine} (h : Steps P m m') (g : Gone P X b ι pan w e m') : Gone P X b ι pan w e m := by
  unfold Gone at *
  split
  · rename_i hr
    simp only [hr] at g
    obtain ⟨fr, hs, r⟩ := g
    exact ⟨fr, Steps.trans h hs, r⟩
  · rename_i hr
    simp only [hr] at g
    exact fun c cs hc => Steps.trans h (g c cs hc)

structure Base (P : Program) (X : Ctx) (b : Frame) (fr : AFr) (ι : Nat → Loc) (σ : St) : Prop where
  kind : b.kind = X.kind
  fn : b.fn = fr.fn
  round : b.roundOf = fr.round.map fun l => (ι l).block
  rnd : ∀ l, fr.round = some l → l < σ.n ∧ ∃ cs, X = .norm cs
  has : ∃ fn, P.funcs[b.fn]? = some fn

theorem Base.ext {X : Ctx} {b : Frame} {fr fr' : AFr} {ι ι' : Nat → Loc} {σ σ' : St} {w w' : World} (B : Base P X b fr ι σ) (E : Ext ι σ w ι' σ' w') (hf : fr'.fn = fr.fn) (hr : fr'.round = fr.round) :
    Base P X b fr' ι' σ' where
  kind := B.kind
  fn := B.fn.trans hf.symm
  round := by
    rw [B.round, hr]
    cases h : fr.round with
    | none => rfl
    | some l => simp [E.agree l (B.rnd l h).1]
  rnd := fun l h => by rw [hr] at h; exact ⟨Nat.lt_of_lt_of_le (B.rnd l h).1 E.n, (B.rnd l h).2⟩
  has := B.has

/-- what a frame leaves -/
def Out (D : Tab) (P : Program) (X : Ctx) (b : Frame) (ι : Nat → Loc) (σ : St) (w : World) (e : AEnd) (pan' : Pan) (σ' : St) (m : Machine) : Prop :=
  ∃ ι' w', Rep D ι' σ' w' ∧ Ext ι σ w ι' σ' w' ∧ idsEnd ι' (· < σ'.n) e ∧ idsPan ι' (· < σ'.n) pan' ∧ X.fits pan' ∧ Gone P X b ι' pan' w' e m

theorem Out.of_steps {X : Ctx} {b : Frame} {ι ι1 : Nat → Loc} {σ σ1 σ' : St} {w w1 : World} {e : AEnd} {pan' : Pan} {m m1 : Machine} (h : Steps P m m1) (E : Ext ι σ w ι1 σ1 w1)
    (o : Out D P X b ι1 σ1 w1 e pan' σ' m1) : Out D P X b ι σ w e pan' σ' m := by
  obtain ⟨ι', w', h1, h2, h3, h4, h5, h6⟩ := o
  exact ⟨ι', w', h1, E.trans h2, h3, h4, h5, h6.of_steps h⟩

def RunOK (D : Tab) (P : Program) (run : AFr → Pan → St → R (AEnd × Pan × St)) : Prop :=
  ∀ fr pan σ e pan' σ', run fr pan σ = .ok (e, pan', σ') → ∀ X b ι w, Base P X b fr ι σ → Rep D ι σ w → IdsF ι (· < σ.n) X fr.T fr.defers pan →
    Out D P X b ι σ w e pan' σ' (mach X b ι fr.T fr.defers pan (fr.todo.map cItem) w)

def FinOK (D : Tab) (P : Program) (finish : FuncId → List AV → List ADef → Option AV → Pan → St → R (AEnd × Pan × St)) : Prop :=
  ∀ f T ds mode pan σ e pan' σ', finish f T ds mode pan σ = .ok (e, pan', σ') → ∀ X b ι w todo, b.kind = X.kind → b.fn = f → b.roundOf = none → (∃ fn, P.funcs[b.fn]? = some fn) →
    Rep D ι σ w → IdsF ι (· < σ.n) X T ds pan → (∀ v, mode = some v → ids ι (· < σ.n) v) →
    Out D P X b ι σ w e pan' σ' (lone (unwinding b (concL ι T).toArray (ds.map (concDef ι)) todo (modeOf ι mode)) (X.cs ι pan) w)

def EndOK (D : Tab) (P : Program) (endLoop : AFr → Nat → AEnd → Pan → St → R (AEnd × Pan × St)) : Prop :=
  ∀ fr l en pan σ e pan' σ', endLoop fr l en pan σ = .ok (e, pan', σ') → ∀ X b ι w, Base P X b fr ι σ → Rep D ι σ w → IdsF ι (· < σ.n) X fr.T fr.defers pan → l < σ.n →
    idsEnd ι (· < σ.n) en →
    Out D P X b ι σ w e pan' σ' (lone (after (on b (concL ι fr.T).toArray (fr.defers.map (concDef ι)) (.inRangeFunc (ι l).block :: fr.todo.map cItem)) (concEnd ι en)) (X.cs ι pan) w)

structure FnsOK (D : Tab) (P : Program) (F : Fns) : Prop where
  run : RunOK D P F.run
  finish : FinOK D P F.finish
  endLoop : EndOK D P F.endLoop
  call : CallOK D P F.call
  round : RoundOK D P F.round

section loops
variable {ι : Nat → Loc} {σ : St} {w : World}

theorem getLoop_ok {l : Nat} {r : ALoop} (h : getLoop σ l = .ok r) : l < σ.n ∧ σ.getO l = .loop r := by
  unfold getLoop at h
  split at h
  · rename_i hl
    split at h
    · rename_i r' he
      simp at h
      subst h
      exact ⟨hl, he⟩
    · simp at h
  · simp at h

theorem loop_heap (R : Rep D ι σ w) {l : Nat} {r : ALoop} (h : getLoop σ l = .ok r) :
    w.heap[(ι l).block]? = some (.loop (concLoop ι r)) ∧ (ι l).shift = 0 ∧ idsL ι (· < σ.n) r.T ∧ r.defers < σ.n := by
  obtain ⟨h1, h2⟩ := getLoop_ok h
  have := R.obj l h1
  rw [h2] at this
  exact ⟨this.2.1, this.1, this.2.2.1, this.2.2.2⟩

theorem run_instrGet (R : Rep D ι σ w) {l : Nat} {r : ALoop} (h : getLoop σ l = .ok r) : (Instr.getLoop (ι l).block).run P w = .ok (concLoop ι r) w := by
  have := run_getObj P w (ι l).block _ (loop_heap R h).1 (by simp)
  simp only [Instr.getLoop, Sem.run_bind, this, Result.andThen_ok, Sem.run_pure]

theorem loop_set (R : Rep D ι σ w) {l : Nat} {r : ALoop} (h : getLoop σ l = .ok r) (r' : ALoop) (hT : r'.T = r.T) (hd : r'.defers = r.defers) :
    ∃ w', (setObj (ι l).block (.loop (concLoop ι r'))).run P w = .ok () w' ∧ Rep D ι (σ.set l (.loop r')) w' ∧ Ext ι σ w ι (σ.set l (.loop r')) w' := by
  obtain ⟨h1, h2⟩ := getLoop_ok h
  obtain ⟨hh, hs, hi, hdn⟩ := loop_heap R h
  have hlt : (ι l).block < w.heap.size := (Array.getElem?_eq_some_iff.1 hh).1
  have ho := only_setIf w (ι l).block (.loop (concLoop ι r'))
  have hset := R.set (o := .loop r') h1 (by rw [h2]; rfl) ho.size ho.other ho.os ⟨hs, heap_setIf w _ _ hlt, hT ▸ hi, hd ▸ hdn⟩
  exact ⟨_, run_setObj P w _ _ _ hh (by simp), hset.1, hset.2⟩

theorem run_endRound (R : Rep D ι σ w) {l : Nat} {r : ALoop} (h : getLoop σ l = .ok r) (jump : Option Code) :
    ∃ w', (Instr.endRound (ι l).block jump).run P w = .ok (.bool jump.isNone) w' ∧
      Rep D ι (σ.set l (.loop { r with state := if jump.isNone then .ready else .done, pending := jump })) w' ∧
      Ext ι σ w ι (σ.set l (.loop { r with state := if jump.isNone then .ready else .done, pending := jump })) w' := by
  obtain ⟨w', h1, h2, h3⟩ := loop_set (P := P) R h { r with state := if jump.isNone then .ready else .done, pending := jump } rfl rfl
  refine ⟨w', ?_, h2, h3⟩
  simp only [Instr.endRound, Sem.run_bind, run_instrGet R h, Result.andThen_ok, Sem.run_pure]
  simp only [concLoop] at h1 ⊢
  rw [h1]
  rfl

theorem run_beginRound (R : Rep D ι σ w) {l : Nat} {r : ALoop} (h : getLoop σ l = .ok r) (hs : r.state = .ready) :
    ∃ w', (Instr.beginRound (ι l).block).run P w = .ok () w' ∧ Rep D ι (σ.set l (.loop { r with state := .busy })) w' ∧ Ext ι σ w ι (σ.set l (.loop { r with state := .busy })) w' := by
  obtain ⟨w', h1, h2, h3⟩ := loop_set (P := P) R h { r with state := .busy } rfl rfl
  refine ⟨w', ?_, h2, h3⟩
  simp only [Instr.beginRound, Sem.run_bind, run_instrGet R h, Result.andThen_ok]
  simp only [concLoop] at h1 ⊢
  rw [h1]
  simp [hs]

theorem run_endLoop (R : Rep D ι σ w) {l : Nat} {r : ALoop} (h : getLoop σ l = .ok r) (hs : r.state ≠ .busy) :
    ∃ w', (Instr.endLoop (ι l).block).run P w = .ok r.pending w' ∧ Rep D ι (σ.set l (.loop { r with state := .exhausted })) w' ∧ Ext ι σ w ι (σ.set l (.loop { r with state := .exhausted })) w' := by
  obtain ⟨w', h1, h2, h3⟩ := loop_set (P := P) R h { r with state := .exhausted } rfl rfl
  refine ⟨w', ?_, h2, h3⟩
  simp only [Instr.endLoop, Sem.run_bind, run_instrGet R h, Result.andThen_ok]
  have : ((concLoop ι r).state == LoopState.busy) = false := by simpa [concLoop] using hs
  simp only [concLoop] at h1 this ⊢
  simp [this, h1]

theorem set_n (l : Nat) (o : AO) : (σ.set l o).n = σ.n := rfl
end loops

theorem leave_round {X : Ctx} {b : Frame} {fr : AFr} {ι : Nat → Loc} {σ σ' : St} {w : World} {pan pan' : Pan} {e : AEnd} {l : Nat} {jump : Option Code} {F : Fns} {m : Machine}
    (hl : fr.round = some l) (B : Base P X b fr ι σ) (Rp : Rep D ι σ w) (I : IdsF ι (· < σ.n) X fr.T fr.defers pan) (h : leaveF F fr jump pan σ = .ok (e, pan', σ'))
    (st : ∀ (c : Frame) (cs : List Frame) (v : Value) (w' : World), X.cs ι pan = c :: cs → (Instr.endRound (ι l).block jump).run P w = .ok v w' → Steps P m (lone (c.finish v) cs w')) :
    Out D P X b ι σ w e pan' σ' m := by
  simp only [leaveF, hl] at h
  split at h
  · simp only [bind_ok, pure_ok, Prod.mk.injEq] at h
    obtain ⟨r, hr, rfl, rfl, rfl⟩ := h
    obtain ⟨w', h1, h2, h3⟩ := run_endRound (P := P) Rp hr jump
    refine ⟨ι, w', h2, h3, trivial, I.pan, I.fit, ?_⟩
    unfold Gone
    have hb : b.roundOf = some (ι l).block := by rw [B.round, hl]; rfl
    simp only [hb]
    intro c cs hc
    simpa [concEnd, after, boolV, conc] using st c cs _ _ hc h1
  · simp at h

theorem panic_ok {F : Fns} (HF : FnsOK D P F) {X : Ctx} {b : Frame} {fr : AFr} {ι : Nat → Loc} {σ σ' : St} {w : World} {pan pan' : Pan} {e : AEnd} {v : AV} {todo : List Item}
    (B : Base P X b fr ι σ) (Rp : Rep D ι σ w) (I : IdsF ι (· < σ.n) X fr.T fr.defers pan) (hv : ids ι (· < σ.n) v) (h : panicF F fr v pan σ = .ok (e, pan', σ')) :
    Out D P X b ι σ w e pan' σ' (machP X b ι fr.T fr.defers pan todo v w) := by
  unfold panicF at h
  split at h
  · rename_i hr
    have hb : b.roundOf = none := by rw [B.round, hr]; rfl
    exact HF.finish _ _ _ _ _ _ _ _ _ h X b ι w todo B.kind B.fn hb B.has Rp I (by intro v' hv'; cases hv'; exact hv)
  · rename_i l hr
    split at h
    · rename_i hds
      simp at h
      obtain ⟨rfl, rfl, rfl⟩ := h
      have hb : b.roundOf = some (ι l).block := by rw [B.round, hr]; rfl
      refine ⟨ι, w, Rp, Ext.refl _ _ _, hv, I.pan, I.fit, ?_⟩
      unfold Gone
      simp only [hb]
      intro c cs hc
      obtain ⟨fn, hfn⟩ := B.has
      have hds' : fr.defers = [] := by simpa using hds
      have := step_round_panic (P := P) (b := b) (T := (concL ι fr.T).toArray) (c := c) (cs := cs) (w := w) (todo := todo) (chain := [{ v := conc ι v, recovered := false }]) hfn
      unfold machP
      rw [hc, hds']
      exact .one this
    · simp at h

theorem endLoop_ok {F : Fns} (HF : FnsOK D P F) : EndOK D P (endLoopF F) := by
  intro fr l en pan σ e pan' σ' h X b ι w B Rp I hl hen
  unfold endLoopF at h
  split at h
  · rename_i v
    simp only [bind_ok] at h
    obtain ⟨r, hr, h⟩ := h
    split at h
    · simp at h
    · rename_i hs
      obtain ⟨w1, h1, h2, h3⟩ := run_endLoop (P := P) Rp hr hs
      have hst : Steps P (lone (after (on b (concL ι fr.T).toArray (fr.defers.map (concDef ι)) (.inRangeFunc (ι l).block :: fr.todo.map cItem)) (concEnd ι (.ret v))) (X.cs ι pan) w)
          (lone (on b (concL ι fr.T).toArray (fr.defers.map (concDef ι)) ((r.pending.map Item.code).toList ++ fr.todo.map cItem)) (X.cs ι pan) w1) := .one (step_endLoop h1)
      refine Out.of_steps hst h3 ?_
      have I' : IdsF ι (· < (σ.set l (.loop { r with state := .exhausted })).n) X fr.T fr.defers pan := I
      split at h
      · rename_i hp
        have hp' : (r.pending.map Item.code).toList = [] := by rw [hp]; rfl
        rw [hp']
        exact HF.run _ _ _ _ _ _ h X b ι w1 (B.ext h3 rfl rfl) h2 I'
      · rename_i c hp
        have hp' : (r.pending.map Item.code).toList = [.code c] := by rw [hp]; rfl
        rw [hp']
        exact HF.run _ _ _ _ _ _ h X b ι w1 (B.ext h3 rfl rfl) h2 I'
  · rename_i v
    exact panic_ok HF B Rp I hen h

def resM (T : Array Value) : ResultVar → Sem Value
  | .tmp t => pure (T.getD t undef)
  | .cell a t => do loadVar t (← asAddr (T.getD a undef))

theorem resultV_ok (F : Fits D P) {ι : Nat → Loc} {σ : St} {w : World} (Rp : Rep D ι σ w) {T : List AV} (hT : idsL ι (· < σ.n) T) : ∀ (l : List ResultVar) (vs : List AV), resultV D σ T l = .ok vs →
    (l.mapM (resM (concL ι T).toArray)).run P w = .ok (concL ι vs) w ∧ idsL ι (· < σ.n) vs := by
  intro l
  induction l with
  | nil => intro vs h; simp [resultV] at h; subst h; simp [concL, idsL]
  | cons x l ih =>
    intro vs h
    cases x with
    | tmp t =>
      simp only [resultV, bind_ok, pure_ok] at h
      obtain ⟨r, h1, rfl⟩ := h
      obtain ⟨h2, h3⟩ := ih r h1
      refine ⟨?_, ?_, h3⟩
      · simp only [List.mapM_cons, Sem.run_bind, Sem.run_pure, Result.andThen_ok, h2, resM, getD_conc, concL]
      · have := evalO_ids (D := D) Rp Rp.glob_lt hT (.tmp t)
        simpa [evalO] using this
    | cell a t =>
      simp only [resultV, bind_ok, pure_ok] at h
      obtain ⟨v, hv, r, h1, rfl⟩ := h
      obtain ⟨h2, h3⟩ := ih r h1
      obtain ⟨h4, h5⟩ := run_loadV F Rp hv
      refine ⟨?_, h5, h3⟩
      have hp : ∃ b o, T.getD a .undef = .ptr b o := by
        unfold loadV at hv
        split at hv
        · rename_i b o hb
          exact ⟨b, o, hb⟩
        · simp at hv
      obtain ⟨b, o, hp⟩ := hp
      rw [hp] at h4
      simp only [Instr.loadAt, conc, Instr.sureAddr, Sem.run_bind, Sem.run_pure, Result.andThen_ok] at h4
      simp only [List.mapM_cons, Sem.run_bind, Sem.run_pure, Result.andThen_ok, resM, getD_conc, hp, conc, asAddr, h4, h2, concL]

theorem results_ok (F : Fits D P) {ι : Nat → Loc} {σ : St} {w : World} (Rp : Rep D ι σ w) {T : List AV} (hT : idsL ι (· < σ.n) T) {f : FuncId} {v : AV} (h : resultsV D σ f T = .ok v) :
    ∃ fn, P.funcs[f]? = some fn ∧ (results fn (concL ι T).toArray).run P w = .ok (conc ι v) w ∧ ids ι (· < σ.n) v := by
  unfold resultsV at h
  split at h
  · rename_i fn hfn
    simp only [bind_ok] at h
    obtain ⟨vs, hvs, h⟩ := h
    obtain ⟨h1, h2⟩ := resultV_ok F Rp hT _ _ hvs
    refine ⟨fn, F.func _ _ hfn, ?_, ?_⟩
    · have hm : results fn (concL ι T).toArray = (do let vs ← fn.results.mapM (resM (concL ι T).toArray); pure (if h : vs.size = 1 then vs[0] else .tuple vs) : Sem Value) := by
        unfold results
        congr
      rw [hm, Array.mapM_eq_mapM_toList]
      simp only [Sem.run_bind, Sem.run_map, h1, Result.andThen_ok]
      split at h
      · rename_i x
        simp at h; subst h
        simp [concL]
      · rename_i hne
        simp at h; subst h
        have : vs.length ≠ 1 := by
          intro e
          obtain ⟨x, hx⟩ := List.length_eq_one_iff.1 e
          exact hne x hx
        simp [this, conc]
    · split at h
      · rename_i x
        simp at h; subst h
        exact h2.1
      · simp at h; subst h
        exact h2
  · simp at h

end
end Go.Dt
namespace Go.Dt

section
variable {D : Tab} {P : Program}

theorem replUndef_conc (ι : Nat → Loc) : ∀ n, concL ι (replUndef n) = List.replicate n undef
  | 0 => rfl
  | n + 1 => by simp [replUndef, concL, replUndef_conc ι n, List.replicate_succ]
theorem replUndef_ids (ι : Nat → Loc) (A : Nat → Prop) : ∀ n, idsL ι A (replUndef n)
  | 0 => trivial
  | n + 1 => ⟨ids_undef _ _, replUndef_ids ι A n⟩

theorem enter_ok (F : Fits D P) {f : FuncId} {args : List AV} {fr : AFr} (h : enterFr D f args = .ok fr) (ι : Nat → Loc) (A : Nat → Prop) (hargs : idsL ι A args) (kind : CallKind) :
    fr.fn = f ∧ fr.round = none ∧ fr.defers = [] ∧ idsL ι A fr.T ∧ (∃ fn, P.funcs[f]? = some fn) ∧
      Frame.enter P f (concL ι args).toArray kind = on (Frame.enter P f (concL ι args).toArray kind) (concL ι fr.T).toArray [] (fr.todo.map cItem) := by
  unfold enterFr at h
  split at h
  · rename_i fn hfn
    split at h
    · rename_i c hc
      simp at h
      subst h
      have hf := F.func _ _ hfn
      refine ⟨rfl, rfl, rfl, idsL_append.2 ⟨hargs, replUndef_ids _ _ _⟩, ⟨fn, hf⟩, ?_⟩
      simp only [Frame.enter, on, hf, Option.map_some, Option.getD_some, Option.bind_some, hc, List.map_cons, List.map_nil, cItem, concL_append, replUndef_conc]
      simp
    · simp at h
  · simp at h

theorem modeOf_pan (ι : Nat → Loc) (mode : Option AV) : panMode ι (mode.map fun v => (v, false)) = modeOf ι mode := by
  cases mode <;> rfl

theorem modeOf_agree {ι ι' : Nat → Loc} {A : Nat → Prop} (h : ∀ b, A b → ι' b = ι b) {mode : Option AV} (hm : ∀ v, mode = some v → ids ι A v) : modeOf ι' mode = modeOf ι mode := by
  cases mode with
  | none => rfl
  | some v => simp [modeOf, conc_agree h v (hm v rfl)]

theorem modeOf_ne (ι : Nat → Loc) (mode : Option AV) : modeOf ι mode ≠ .run := by cases mode <;> simp [modeOf]

theorem finish_ok (Ft : Fits D P) {F : Fns} (HF : FnsOK D P F) : FinOK D P (finishF D F) := by
  intro f T ds mode pan σ e pan' σ' h X b ι w todo hk hfn hrd hhas Rp I hmode
  unfold finishF at h
  split at h
  · -- no deferred calls
    split at h
    · simp only [bind_ok, pure_ok, Prod.mk.injEq] at h
      obtain ⟨v, hv, rfl, rfl, rfl⟩ := h
      obtain ⟨fn, hf, hres, hid⟩ := results_ok Ft Rp I.T hv
      refine ⟨ι, w, Rp, Ext.refl _ _ _, hid, I.pan, I.fit, ?_⟩
      unfold Gone
      simp only [hrd]
      refine ⟨_, Steps.refl _ _, rfl, rfl, rfl, fn, by rw [hfn]; exact hf, rfl, hres⟩
    · rename_i v
      simp at h
      obtain ⟨rfl, rfl, rfl⟩ := h
      obtain ⟨fn, hf⟩ := hhas
      refine ⟨ι, w, Rp, Ext.refl _ _ _, hmode v rfl, I.pan, I.fit, ?_⟩
      unfold Gone
      simp only [hrd]
      exact ⟨_, Steps.refl _ _, rfl, rfl, rfl, fn, hf, rfl⟩
  · -- the calls that rounds have deferred
    rename_i r ds
    simp only [bind_ok] at h
    obtain ⟨o, ho, h⟩ := h
    obtain ⟨hr, heq⟩ := get_ok ho
    split at h
    · rename_i calls
      have hrep := Rp.obj r hr
      rw [heq] at hrep
      obtain ⟨hs, hheap, hcalls⟩ := hrep
      have hlt : (ι r).block < w.heap.size := (Array.getElem?_eq_some_iff.1 hheap).1
      have hon := only_setIf w (ι r).block (.deferred none)
      have hset := Rp.set (o := .deferred none) hr (by rw [heq]; rfl) hon.size hon.other hon.os ⟨hs, heap_setIf w _ _ hlt, by simp⟩
      have htake : (Instr.takeDeferred (ι r).block).run P w = .ok (calls.map (concDef ι)) { w with heap := w.heap.setIfInBounds (ι r).block (.deferred none) } := by
        have h1 := run_getObj P w (ι r).block _ hheap (by simp)
        have h2 := run_setObj P w (ι r).block _ (.deferred none) hheap (by simp)
        simp only [Instr.takeDeferred, Sem.run_bind, h1, Result.andThen_ok, Option.map_some, h2, Sem.run_pure]
      have hst := step_collect (P := P) (b := b) (T := (concL ι T).toArray) (ds := ds.map (concDef ι)) (cs := X.cs ι pan) (args := #[]) (todo := todo) (modeOf_ne ι mode) htake
      refine Out.of_steps (.one hst) hset.2 ?_
      have := HF.finish _ _ _ _ _ _ _ _ _ h X b ι _ todo hk hfn hrd hhas hset.1
        ⟨I.fit, I.T, fun d hd => (List.mem_append.1 hd).elim (fun h1 => hcalls calls rfl d h1) (fun h1 => I.ds d (List.mem_cons_of_mem _ h1)), I.pan⟩ hmode
      simpa using this
    · simp at h
  · -- a deferred call
    rename_i g cap args ds
    simp only [bind_ok] at h
    obtain ⟨nx, hnx, h⟩ := h
    have hd := I.ds (.fn g cap args) (by simp)
    obtain ⟨f', as, rfl, hids, hinv⟩ := invokeT_ok Ft (ι := ι) (A := (· < σ.n)) w hnx hd.1 hd.2
    simp only [bind_ok] at h
    obtain ⟨fr, hfr, ⟨e1, p1, σ1⟩, hrun, h⟩ := h
    obtain ⟨h1, h2, h3, h4, h5, h6⟩ := enter_ok Ft hfr ι (· < σ.n) hids .deferred
    have I0 : idsDs ι (· < σ.n) ds := fun d hd => I.ds d (List.mem_cons_of_mem _ hd)
    let cfr : Frame := unwinding b (concL ι T).toArray (ds.map (concDef ι)) todo (modeOf ι mode)
    let X' : Ctx := .dfr cfr (X.cs ι pan)
    have hcs : X'.cs ι (mode.map fun v => (v, false)) = cfr :: X.cs ι pan := by
      simp only [X', Ctx.cs, modeOf_pan]
      rfl
    have hst := step_deferred (P := P) (b := b) (T := (concL ι T).toArray) (ds := ds.map (concDef ι)) (cs := X.cs ι pan) (todo := todo) (modeOf_ne ι mode) hinv
    have hO := HF.run _ _ _ _ _ _ hrun X' (Frame.enter P f' (concL ι as).toArray .deferred) ι w
      ⟨rfl, h1.symm, by rw [h2]; rfl, by rw [h2]; simp, h5⟩ Rp
      ⟨trivial, h4, by rw [h3]; intro d hd; simp at hd, by
        cases mode with
        | none => trivial
        | some v => exact hmode v rfl⟩
    obtain ⟨ι1, w1, R1, E1, hen, hp1, hfit1, hG⟩ := hO
    clear hfit1
    unfold Gone at hG
    have hr0 : (Frame.enter P f' (concL ι as).toArray .deferred).roundOf = none := rfl
    simp only [hr0] at hG
    obtain ⟨fr', hs', hfn', hdef', hkind', fn', hfn'', hend⟩ := hG
    have hmach : mach X' (Frame.enter P f' (concL ι as).toArray .deferred) ι fr.T fr.defers (mode.map fun v => (v, false)) (fr.todo.map cItem) w =
        lone (Frame.enter P f' (concL ι as).toArray .deferred) (cfr :: X.cs ι pan) w := by
      unfold mach
      rw [hcs, h3, List.map_nil, ← h6]
    rw [hmach] at hs'
    have hst2 : Steps P (lone (unwinding b (concL ι T).toArray (List.map (concDef ι) (.fn g cap args :: ds)) todo (modeOf ι mode)) (X.cs ι pan) w) (lone fr' (X'.cs ι1 p1) w1) :=
      Steps.trans (.one hst) hs'
    have hcs1 : X'.cs ι1 p1 = { cfr with mode := panMode ι1 p1 } :: X.cs ι pan := rfl
    rw [hcs1] at hst2
    have hTc : concL ι1 T = concL ι T := concL_agree E1.agree T I.T
    have hdc : ds.map (concDef ι1) = ds.map (concDef ι) := concDs_agree E1.agree I0
    have hpc : X.cs ι1 pan = X.cs ι pan := X.agree E1.agree I.pan
    have hfn1 : P.funcs[fr'.fn]? = some fn' := by rw [hfn']; exact hfn''
    -- what the frame goes on with
    have go : ∀ mode', (∀ v, mode' = some v → ids ι1 (· < σ1.n) v) → F.finish f T ds mode' pan σ1 = .ok (e, pan', σ') →
        Steps P (lone fr' ({ cfr with mode := panMode ι1 p1 } :: X.cs ι pan) w1) (lone { cfr with mode := modeOf ι1 mode' } (X.cs ι pan) w1) →
        Out D P X b ι σ w e pan' σ' (lone (unwinding b (concL ι T).toArray (List.map (concDef ι) (.fn g cap args :: ds)) todo (modeOf ι mode)) (X.cs ι pan) w) := by
      intro mode' hm' hfin hst3
      refine Out.of_steps (Steps.trans hst2 hst3) E1 ?_
      have := HF.finish _ _ _ _ _ _ _ _ _ hfin X b ι1 w1 todo hk hfn hrd hhas R1 ⟨I.fit, idsL_mono E1.k T I.T, idsDs_mono E1.k I0, idsPan_mono E1.k pan I.pan⟩ hm'
      rw [hTc, hdc, hpc] at this
      exact this
    cases e1 with
    | ret v =>
      simp only at h hend
      have hback := step_back (P := P) (c := { cfr with mode := panMode ι1 p1 }) (cs := X.cs ι pan) hend.1 hdef' hkind' hfn1 hend.2
      split at h
      · rename_i v'
        exact go (some v') (by intro x hx; cases hx; exact hp1) h (.one hback)
      · rename_i hne
        refine go none (by simp) h (.one ?_)
        rw [hback]
        cases p1 with
        | none => rfl
        | some p =>
          obtain ⟨v', r'⟩ := p
          cases r' with
          | false => exact (hne v' rfl).elim
          | true => rfl
    | panic v =>
      simp only at h hend
      split at h
      · refine go (some v) (by intro x hx; cases hx; exact hen) h (.one ?_)
        have := step_raise (P := P) (c := { cfr with mode := panMode ι1 none }) (cs := X.cs ι pan) hend hdef' hfn1 (w := w1)
        rw [this]
        rfl
      · simp at h

end
end Go.Dt
namespace Go.Dt

section
variable {D : Tab} {P : Program}

/-- a call from a waiting frame -/
theorem goF_ok (Ft : Fits D P) {F : Fns} (HF : FnsOK D P F) {X : Ctx} {b : Frame} {fr : AFr} {k : List AItem} {ds : List ADef} {f : Operand} {params : Array Tmp} {assign body : Code}
    {ι ι1 : Nat → Loc} {σ σ1 σ2 σ' : St} {w w1 : World} {pan pan' : Pan} {e0 e : AEnd} {l : Nat} {nx : ANext} {mark : List Deferred}
    (B : Base P X b fr ι σ) (I : IdsF ι (· < σ.n) X fr.T fr.defers pan) (R1 : Rep D ι1 σ1 w1) (E1 : Ext ι σ w ι1 σ1 w1) (hl : l < σ1.n)
    (hds : idsDs ι1 (· < σ1.n) ds) (hmark : mark ++ fr.defers.map (concDef ι) = ds.map (concDef ι1))
    (henter : (Instr.enterLoop b.fn (concL ι fr.T).toArray params assign body b.roundOf).run P w = .ok ((ι1 l).block, mark) w1)
    (hnx : callV D (evalO D fr.T f) [.yield l] = .ok nx) (hgo : goF F nx σ1 = .ok (e0, σ2))
    (hend : F.endLoop { fr with todo := k, defers := ds } l e0 pan σ2 = .ok (e, pan', σ')) :
    Out D P X b ι σ w e pan' σ' (mach X b ι fr.T fr.defers pan (.code (.rangeFunc f params assign body) :: k.map cItem) w) := by
  have hTc : concL ι1 fr.T = concL ι fr.T := concL_agree E1.agree fr.T I.T
  have hT1 : idsL ι1 (· < σ1.n) fr.T := idsL_mono E1.k fr.T I.T
  obtain ⟨hid, hcm, hkind⟩ := callV_ok Ft (ι := ι1) (A := (· < σ1.n)) (_type := 0) w1 hnx (evalO_ids R1 R1.glob_lt hT1 f) ⟨hl, trivial⟩
  have hargs : (concL ι1 [AV.yield l]).toArray = #[.func (.yield (ι1 l).block) #[] #[]] := by simp [concL, conc]
  have hev : evT (concL ι fr.T).toArray f = conc ι1 (evalO D fr.T f) := by rw [← hTc]; exact evalO_conc R1 fr.T f
  rw [hargs, ← hev] at hcm
  -- behind the call
  have fin : ∀ ι2 w2, Rep D ι2 σ2 w2 → Ext ι1 σ1 w1 ι2 σ2 w2 → idsEnd ι2 (· < σ2.n) e0 →
      Steps P (mach X b ι fr.T fr.defers pan (.code (.rangeFunc f params assign body) :: k.map cItem) w)
        (lone (after (on b (concL ι fr.T).toArray (ds.map (concDef ι1)) (.inRangeFunc (ι1 l).block :: k.map cItem)) (concEnd ι2 e0)) (X.cs ι pan) w2) →
      Out D P X b ι σ w e pan' σ' (mach X b ι fr.T fr.defers pan (.code (.rangeFunc f params assign body) :: k.map cItem) w) := by
    intro ι2 w2 R2 E2 he hst
    have E := E1.trans E2
    refine Out.of_steps hst E ?_
    have := HF.endLoop _ _ _ _ _ _ _ _ hend X b ι2 w2 (B.ext E rfl rfl) R2 ⟨I.fit, idsL_mono E2.k fr.T hT1, idsDs_mono E2.k hds, idsPan_mono E.k pan I.pan⟩ (Nat.lt_of_lt_of_le hl E2.n) he
    rw [E2.agree l hl, X.agree E.agree I.pan] at this
    simp only at this
    rw [concL_agree E.agree fr.T I.T, concDs_agree E2.agree hds] at this
    exact this
  rcases hkind with ⟨g, as, rfl⟩ | ⟨l', as, rfl⟩
  · obtain ⟨x, hx, hrun⟩ := hcm
    simp only [concNext, Option.some.injEq] at hx
    subst hx
    have hs1 := step_range_func (P := P) (b := b) (T := (concL ι fr.T).toArray) (ds := fr.defers.map (concDef ι)) (k := k.map cItem) (cs := X.cs ι pan) henter hrun
    simp only [goF] at hgo
    obtain ⟨en, w2, ⟨ι2, rfl, R2, E2, he⟩, hs⟩ := call_steps (HF.call _ _ _ _ _ hgo ι1 w1 R1 hid) (fun w' ⟨ι', h', _⟩ => concEnd_ne ι' e0 h'.symm)
      (on b (concL ι fr.T).toArray (mark ++ fr.defers.map (concDef ι)) (.inRangeFunc (ι1 l).block :: k.map cItem)) (X.cs ι pan)
    refine fin ι2 w2 R2 E2 he ?_
    rw [← hmark]
    exact Steps.trans (.one hs1) hs
  · obtain ⟨hrun, _⟩ := hcm
    simp only [goF] at hgo
    obtain ⟨fn, tmps, as', bd, hy, hsteps⟩ := HF.round _ _ _ _ _ hgo ι1 w1 R1 hid.2 hid.1
    obtain ⟨ι2, w2, hs, R2, E2, he⟩ := hsteps (on b (concL ι fr.T).toArray (mark ++ fr.defers.map (concDef ι)) (.inRangeFunc (ι1 l).block :: k.map cItem)) (X.cs ι pan)
    have hs1 := step_range_round (P := P) (b := b) (T := (concL ι fr.T).toArray) (ds := fr.defers.map (concDef ι)) (k := k.map cItem) (cs := X.cs ι pan) henter (hrun.trans hy)
    refine fin ι2 w2 R2 E2 he ?_
    rw [← hmark]
    exact Steps.trans (.one hs1) hs

theorem run_ok (Ft : Fits D P) {F : Fns} (HF : FnsOK D P F) : RunOK D P (runF D F) := by
  intro fr pan σ e pan' σ' h X b ι w B Rp I
  obtain ⟨fid, T, todo, ds, rd⟩ := fr
  -- a step that changes the code alone
  have go : ∀ todo', F.run { fn := fid, T, todo := todo', defers := ds, round := rd } pan σ = .ok (e, pan', σ') →
      step P (mach X b ι T ds pan (todo.map cItem) w) = .next (mach X b ι T ds pan (todo'.map cItem) w) →
      Out D P X b ι σ w e pan' σ' (mach X b ι T ds pan (todo.map cItem) w) := fun todo' h' hs =>
    Out.of_steps (.one hs) (Ext.refl _ _ _) (HF.run _ _ _ _ _ _ h' X b ι w (B.ext (Ext.refl ι σ w) rfl rfl) Rp I)
  -- the frame returns
  have leave : ∀ jump, (jump = none ∨ jump = some .ret) → rd = none → leaveF F { fn := fid, T, todo, defers := ds, round := rd } jump pan σ = .ok (e, pan', σ') →
      (∀ hb : b.roundOf = none, step P (mach X b ι T ds pan (todo.map cItem) w) = .next (lone (unwinding b (concL ι T).toArray (ds.map (concDef ι)) (todo.map cItem) .returning) (X.cs ι pan) w)) →
      Out D P X b ι σ w e pan' σ' (mach X b ι T ds pan (todo.map cItem) w) := by
    intro jump hj hr h' hs
    have hb : b.roundOf = none := by rw [B.round, hr]; rfl
    have h2 : F.finish fid T ds none pan σ = .ok (e, pan', σ') := by
      rcases hj with rfl | rfl <;> simpa [leaveF, hr] using h'
    refine Out.of_steps (.one (hs hb)) (Ext.refl _ _ _) ?_
    exact HF.finish _ _ _ _ _ _ _ _ _ h2 X b ι w (todo.map cItem) B.kind B.fn hb B.has Rp I (by simp)
  have knorm : ∀ l, rd = some l → b.kind = .normal := fun l hl => by
    obtain ⟨cs, hX⟩ := (B.rnd l hl).2
    rw [B.kind, hX]; rfl
  have hbr : ∀ l, rd = some l → b.roundOf = some (ι l).block := fun l hl => by rw [B.round, hl]; rfl
  cases todo with
  | nil =>
    simp only [runF] at h
    cases rd with
    | none => exact leave none (.inl rfl) rfl h fun hb => step_on_nil hb
    | some l =>
      exact leave_round rfl B Rp I h fun c cs v w' hc hv => by
        unfold mach; rw [hc]; exact .one (step_round_nil (hbr l rfl) (knorm l rfl) hv)
  | cons it k =>
    cases it with
    | inBlock id => simp only [runF] at h; exact go _ h step_on_inBlock
    | inScope c => simp only [runF] at h; exact go _ h step_on_inScope
    | inLoop c => simp only [runF] at h; exact go _ h step_on_inLoop
    | beginRound =>
      simp only [runF] at h
      cases rd with
      | none => simp at h
      | some l =>
        simp only [bind_ok] at h
        obtain ⟨r, hr, h⟩ := h
        split at h
        · rename_i hs
          obtain ⟨w1, h1, h2, h3⟩ := run_beginRound (P := P) Rp hr hs
          refine Out.of_steps (.one (step_begin (hbr l rfl) h1)) h3 ?_
          exact HF.run _ _ _ _ _ _ h X b ι w1 (B.ext h3 rfl rfl) h2 I
        · simp at h
    | code c =>
      cases c with
      | ret =>
        simp only [runF] at h
        cases rd with
        | none => exact leave (some .ret) (.inr rfl) rfl h fun hb => step_on_ret hb
        | some l =>
          exact leave_round rfl B Rp I h fun c cs v w' hc hv => by
            unfold mach; rw [hc]; exact .one (step_round_ret (hbr l rfl) (knorm l rfl) hv)
      | skip => simp only [runF] at h; exact go _ h step_on_skip
      | label l => simp only [runF] at h; exact go _ h step_on_label
      | seq x y => simp only [runF] at h; exact go _ h step_on_seq
      | block id x => simp only [runF] at h; exact go _ h step_on_block
      | loop x => simp only [runF] at h; exact go _ h step_on_loop
      | scope x => simp only [runF] at h; exact go _ h step_on_scope
      | refuse s => simp [runF] at h
      | cond c x y =>
        simp only [runF, bind_ok] at h
        obtain ⟨t, ht, h⟩ := h
        refine go _ h (step_on_cond ?_)
        rw [evalO_conc Rp T c]
        have : evalO D T c = .base (.bool t) := by
          unfold asB at ht
          split at ht
          · rename_i b' hb'; simp at ht; rw [hb', ht]
          · simp at ht
        rw [this, conc]
      | exit id =>
        simp only [runF] at h
        split at h
        · rename_i k' hk'
          exact go _ h (step_on_exit (by rw [exitTo_c, hk']; rfl))
        · rename_i hk'
          cases rd with
          | none => simp [leaveF] at h
          | some l =>
            exact leave_round rfl B Rp I h fun c cs v w' hc hv => by
              unfold mach; rw [hc]; exact .one (step_round_exit (hbr l rfl) (knorm l rfl) (by rw [exitTo_c, hk']; rfl) hv)
      | goto id =>
        simp only [runF] at h
        split at h
        · rename_i k' hk'
          exact go _ h (step_on_goto (by rw [gotoIn_c, hk']; rfl))
        · rename_i hk'
          cases rd with
          | none => simp [leaveF] at h
          | some l =>
            exact leave_round rfl B Rp I h fun c cs v w' hc hv => by
              unfold mach; rw [hc]; exact .one (step_round_goto (hbr l rfl) (knorm l rfl) (by rw [gotoIn_c, hk']; rfl) hv)
      | region id ops draw =>
        simp only [runF, bind_ok] at h
        obtain ⟨r, hr, h⟩ := h
        have hround : b.roundOf = none ↔ rd.isSome = false := by
          rw [B.round]; cases rd <;> simp
        obtain ⟨ι1, σ1, w1, hc, R1, E1⟩ := region_ok Ft HF.call HF.round B.kind hround (id := id) (k := k.map cItem) Rp I hr
        cases hc with
        | go steps ids =>
          simp only at h
          refine Out.of_steps steps E1 ?_
          exact HF.run _ _ _ _ _ _ h X b ι1 w1 (B.ext E1 rfl rfl) R1 ids
        | @panic _ _ _ T1 ds1 pan1 v1 todo' steps ids hv =>
          simp only at h
          refine Out.of_steps steps E1 ?_
          exact panic_ok HF (fr := { fn := fid, T := T1, todo := .code (.region id ops draw) :: k, defers := ds1, round := rd }) (B.ext E1 rfl rfl) R1 ids hv h
      | rangeFunc f params assign body =>
        simp only [runF] at h
        cases rd with
        | some l0 =>
          simp only [bind_ok] at h
          obtain ⟨r0, hr0, nx, hnx, ⟨e0, σ2⟩, hgo, h⟩ := h
          obtain ⟨hh, hs0, hi0, hd0⟩ := loop_heap Rp hr0
          let lp : ALoop := { state := .ready, pending := none, fn := fid, T, params := params.toList, assign, body, defers := r0.defers }
          obtain ⟨ι1, w1, h1, h2, h3, h4⟩ := push_obj (P := P) Rp (o := .loop lp) (ob := .loop (concLoop ι lp))
            (by
              have hag : ∀ b, b < σ.n → upd ι σ.n ⟨w.heap.size, 0, 0, 0⟩ b = ι b := fun b hb => upd_old (Nat.ne_of_lt hb)
              refine ⟨rfl, ?_, idsL_mono kpush _ I.T, Nat.lt_succ_of_lt hd0⟩
              rw [heap_alloc_new]
              simp only [concLoop, lp]
              rw [concL_agree hag T I.T, hag _ hd0])
          refine goF_ok Ft HF (k := k) (ds := ds) (l := σ.n) (mark := []) B I h2 h3 (Nat.lt_succ_self _) (idsDs_mono h3.k I.ds) (by rw [concDs_agree h3.agree I.ds]; rfl) ?_ hnx hgo h
          rw [hbr l0 rfl]
          simp only [Instr.enterLoop, Sem.run_bind, run_instrGet Rp hr0, Result.andThen_ok, Sem.run_pure]
          have : concLoop ι lp = { state := .ready, pending := none, fn := b.fn, tmps := (concL ι T).toArray, params, assign, body, defers := (concLoop ι r0).defers } := by
            simp [concLoop, lp, B.fn]
          rw [← this, h1, h4]
          rfl
        | none =>
          simp only [bind_ok] at h
          obtain ⟨nx, hnx, ⟨e0, σ2⟩, hgo, h⟩ := h
          obtain ⟨ι0, w0, g1, g2, g3, g4⟩ := push_obj (P := P) Rp (o := .deferred (some [])) (ob := .deferred (some []))
            (by refine ⟨rfl, ?_, by simp⟩; rw [heap_alloc_new]; rfl)
          let lp : ALoop := { state := .ready, pending := none, fn := fid, T, params := params.toList, assign, body, defers := σ.n }
          have hT0 : idsL ι0 (· < (σ.push (.deferred (some []))).n) T := idsL_mono g3.k T I.T
          obtain ⟨ι1, w1, h1, h2, h3, h4⟩ := push_obj (P := P) g2 (o := .loop lp) (ob := .loop (concLoop ι0 lp))
            (by
              have hag : ∀ b, b < (σ.push (.deferred (some []))).n → upd ι0 (σ.push (.deferred (some []))).n ⟨w0.heap.size, 0, 0, 0⟩ b = ι0 b := fun b hb => upd_old (Nat.ne_of_lt hb)
              have hdn : lp.defers < (σ.push (.deferred (some []))).n := Nat.lt_succ_self _
              refine ⟨rfl, ?_, idsL_mono kpush _ hT0, Nat.lt_succ_of_lt hdn⟩
              rw [heap_alloc_new]
              simp only [concLoop, lp]
              rw [concL_agree hag T hT0, hag _ hdn])
          have E := g3.trans h3
          have hd1 : idsDef ι1 (· < ((σ.push (.deferred (some []))).push (.loop lp)).n) (.collected σ.n) := by
            show σ.n < σ.n + 1 + 1
            omega
          have hι1 : (ι1 σ.n).block = w.heap.size := by
            rw [h3.agree σ.n (Nat.lt_succ_self _), g4]
          refine goF_ok Ft HF (k := k) (ds := .collected σ.n :: ds) (l := σ.n + 1) (mark := [{ target := .collected w.heap.size, args := #[] }]) B I h2 E
            (by show σ.n + 1 < σ.n + 1 + 1; omega) (by
              intro d hd
              rcases List.mem_cons.1 hd with rfl | hd
              · exact hd1
              · exact idsDef_mono E.k d (I.ds d hd)) (by
              rw [List.map_cons, concDs_agree E.agree I.ds]
              simp [concDef, hι1]) ?_ hnx hgo h
          have hb : b.roundOf = none := by rw [B.round]; rfl
          rw [hb]
          simp only [Instr.enterLoop, Sem.run_bind, g1, Result.andThen_ok, Sem.run_pure]
          have : concLoop ι0 lp = { state := .ready, pending := none, fn := b.fn, tmps := (concL ι T).toArray, params, assign, body, defers := w.heap.size } := by
            have hb' : b.fn = fid := B.fn
            simp [concLoop, lp, hb', g4, concL_agree g3.agree T I.T]
          rw [← this, h1]
          have h4' : (ι1 (σ.n + 1)).block = w0.heap.size := by
            have : ι1 (σ.push (.deferred (some []))).n = ⟨w0.heap.size, 0, 0, 0⟩ := h4
            exact congrArg Loc.block this
          rw [h4']
          rfl

end
end Go.Dt
namespace Go.Dt

/-- memory that was there is left alone -/
structure Fresh (w w' : World) : Prop where
  os : w'.os = w.os
  tape : w'.tape = w.tape
  output : w'.output = w.output
  size : w.heap.size ≤ w'.heap.size
  old : ∀ r, r < w.heap.size → w'.heap[r]? = w.heap[r]?

def Tab.bare (D : Tab) : Tab := { D with memo := fun _ => True }

structure MemoOK (D : Tab) (P : Program) (m : Memo) : Prop where
  nd : nodup (refsA (bareSt .e m.res) copyFuel m.val) = true
  call : ∀ ι w, Rep D.bare ι (bareSt .e m.heap) w → idsL ι (· < m.heap.length) m.args → (∀ b, b < m.heap.length → ((bareSt .e m.heap).getO b).isMut = false) →
    Calls P m.f (concL ι m.args).toArray w fun en w' => ∃ ιY, en = .returned (conc ιY m.val) ∧ Rep D.bare ιY (bareSt .e m.res) w' ∧ ids ιY (· < m.res.length) m.val ∧ Fresh w w' ∧
      ∀ b, b < m.res.length → (bareSt .e m.res).getO b ≠ .gone → w.heap.size ≤ (ιY b).block

section
variable {D : Tab} {P : Program}

theorem Rep.bare {ι : Nat → Loc} {σ : St} {w : World} (R : Rep D ι σ w) : Rep D.bare ι σ w :=
  ⟨R.len, R.glob, R.gloc, R.obj, R.sep, fun _ _ => trivial⟩

theorem getO_M (σ : St) (M : MTree) (b : Nat) : ({ σ with M := M } : St).getO b = σ.getO b := rfl

/-- the same memory with other memos -/
theorem Rep.reM {ι : Nat → Loc} {σ : St} {w : World} (R : Rep D.bare ι σ w) (M : MTree) (hM : ∀ m, M.mem m → D.memo m) : Rep D ι { σ with M := M } w :=
  ⟨R.len, R.glob, R.gloc, R.obj, R.sep, hM⟩

theorem Rep.toBare {ι : Nat → Loc} {σ : St} {w : World} (R : Rep D ι σ w) : Rep D.bare ι (bareSt .e σ.l) w := by
  have : bareSt .e σ.l = { σ with M := .e } := by simp [bareSt, R.len]
  rw [this]
  exact ⟨R.len, R.glob, R.gloc, R.obj, R.sep, fun _ _ => trivial⟩

theorem bareSt_eq {ι : Nat → Loc} {σ : St} {w : World} (R : Rep D ι σ w) : bareSt .e σ.l = { σ with M := .e } := by simp [bareSt, R.len]

theorem replGone_length : ∀ n, (replGone n).length = n
  | 0 => rfl
  | n + 1 => by simp [replGone, replGone_length n]
theorem replGone_get : ∀ (n i : Nat) (o : AO), (replGone n)[i]? = some o → o = AO.gone
  | 0, i, o, h => by simp [replGone] at h
  | n + 1, 0, o, h => by simpa [replGone] using h.symm
  | n + 1, i + 1, o, h => replGone_get n i o (by simpa [replGone] using h)
theorem fresh_gone (D : Tab) (M : MTree) (b : Nat) : (freshSt D M).getO b = .gone := by
  unfold St.getO
  split
  · simp only [freshSt]
    cases h : (replGone D.nglob)[D.nglob - 1 - b]? with
    | none => rfl
    | some o => simp [replGone_get _ _ _ h]
  · rfl

theorem fresh_rep {ι : Nat → Loc} {σ : St} {w : World} (R : Rep D ι σ w) {M : MTree} (hM : ∀ m, M.mem m → D.memo m) : Rep D ι (freshSt D M) w where
  len := by simp [freshSt, replGone_length]
  glob := Nat.le_refl _
  gloc := R.gloc
  obj := fun b _ => by rw [fresh_gone]; trivial
  sep := fun b b' _ _ _ hm => by rw [fresh_gone] at hm; simp [AO.isMut] at hm
  mem := hM

theorem beqH_ok {a b : List AO} (h : beqH a b = true) : a = b := beqH_ok' h
theorem findMemo_ok {f : FuncId} {args : List AV} {hp : List AO} : ∀ {M : List Memo} {m : Memo}, findMemo f args hp M = some m → m ∈ M ∧ m.f = f ∧ m.args = args ∧ m.heap = hp
  | [], m, h => by simp [findMemo] at h
  | m0 :: M, m, h => by
    unfold findMemo at h
    split at h
    · rename_i hc
      simp at h
      subst h
      simp only [Bool.and_eq_true, beq_iff_eq] at hc
      exact ⟨by simp, hc.1.1, beqL_ok _ _ hc.1.2, beqH_ok hc.2⟩
    · obtain ⟨h1, h2⟩ := findMemo_ok h
      exact ⟨List.mem_cons_of_mem _ h1, h2⟩

/-- old memory goes on to be what it was -/
theorem Rep.fresh {ι : Nat → Loc} {σ : St} {w w' : World} (R : Rep D ι σ w) (h : Fresh w w') : Rep D ι σ w' :=
  ⟨R.len, R.glob, R.gloc, fun b hb => by
    by_cases hg : σ.getO b = .gone
    · rw [hg]; trivial
    · exact (R.obj b hb).congr (h.old _ ((R.obj b hb).lt hg)), R.sep, R.mem⟩

theorem Ext.fresh {ι ι' : Nat → Loc} {σ σ' : St} {w w' : World} (E : Ext ι σ w ι' σ' w') (h : ∀ b, b < σ.n → (σ.getO b).isMut = false) : Fresh w w' :=
  ⟨E.os, E.tape, E.output, E.size, fun r hr => E.frame r hr fun b hb hm => by rw [h b hb] at hm; cases hm⟩

/-- a result is taken into the caller's heap -/
theorem memoF_ok {m : Memo} {σ σ0 σ' : St} {ι ιY : Nat → Loc} {w w' : World} {e : AEnd} (h : memoF m σ0 = .ok (e, σ')) (h0 : σ0.n = σ.n ∧ σ0.l = σ.l) (hM : ∀ m, σ0.M.mem m → D.memo m) (R : Rep D ι σ w)
    (nd : nodup (refsA (bareSt .e m.res) copyFuel m.val) = true) (RY : Rep D.bare ιY (bareSt .e m.res) w') (hid : ids ιY (· < m.res.length) m.val) (hf : Fresh w w')
    (hnew : ∀ b, b < m.res.length → (bareSt .e m.res).getO b ≠ .gone → w.heap.size ≤ (ιY b).block) :
    ∃ ι', concEnd ι' e = .returned (conc ιY m.val) ∧ Rep D ι' σ' w' ∧ Ext ι σ w ι' σ' w' ∧ idsEnd ι' (· < σ'.n) e := by
  simp only [memoF, bind_ok, pure_ok, Prod.mk.injEq] at h
  obtain ⟨⟨v, σ1⟩, hc, rfl, rfl⟩ := h
  have hgo : ∀ b, σ0.getO b = σ.getO b := fun b => by simp [St.getO, h0.1, h0.2]
  have R0 : Rep D ι σ0 w' := by
    have R1 := R.fresh hf
    exact ⟨by rw [h0.1, h0.2]; exact R1.len, by rw [h0.1]; exact R1.glob, R1.gloc, fun b hb => by rw [hgo, h0.1]; exact R1.obj b (by rw [← h0.1]; exact hb),
      fun b b' hb hb' => by rw [hgo, hgo]; exact R1.sep b b' (by rw [← h0.1]; exact hb) (by rw [← h0.1]; exact hb'), hM⟩
  have RY' : Rep D ιY (bareSt .e m.res) w' := by
    have := RY.reM (D := D) .e (fun _ h => h.elim)
    exact this
  obtain ⟨ι', hcp, hconc, hids⟩ := copy_ok true RY' copyFuel _ _ _ _ hc ι R0 hid (fun _ => nodup_ok nd) (fun s hs b hb hg => by
    rw [hgo] at hg
    have h1 : (ι b).block < w.heap.size := (R.obj b (by rw [← h0.1]; exact hb)).lt hg
    have hne := refs_ne (bareSt .e m.res) copyFuel _ s hs
    have h2 := hnew s (getO_gone hne) hne
    omega)
  refine ⟨ι', by simp [concEnd, hconc], hcp.rep, ⟨hf.os, hf.tape, hf.output, hf.size, by rw [← h0.1]; exact hcp.n, fun b hb => hcp.agree b (by rw [h0.1]; exact hb), fun r hr _ => hf.old r hr, fun b hb hg => ?_⟩, hids⟩
  by_cases hb0 : b < σ0.n
  · right
    rw [hcp.old b hb0, hgo] at hg
    refine ⟨b, by rw [← h0.1]; exact hb0, hg, ?_, by rw [hcp.agree b hb0]⟩
    rw [hcp.old b hb0, hgo]
    exact id
  · left
    obtain ⟨_, s, hs, he⟩ := hcp.new b (by omega) hb
    have hne := refs_ne (bareSt .e m.res) copyFuel _ s hs
    rw [he]
    exact hnew s (getO_gone hne) hne

/-- what one run of a pure function says of all its runs -/
theorem pureF_ok (Ft : Fits D P) {F : Fns} (HF : FnsOK D P F) {f : FuncId} {args : List AV} {σX : St} {m : Memo} {M : MTree} (h : pureF D F f args σX = .ok (m, M))
    (hM : ∀ m, σX.M.mem m → D.memo m) (hlen : σX.l.length = σX.n) :
    m.f = f ∧ m.args = args ∧ m.heap = σX.l ∧ MemoOK D P m ∧
      (∀ ι w, Rep D ι σX w → idsL ι (· < σX.n) args → ∀ m, M.mem m → D.memo m) := by
  simp only [pureF, bind_ok] at h
  obtain ⟨fr, hfr, ⟨e, p2, σ2⟩, hrun, h⟩ := h
  cases e with
  | panic v => simp at h
  | ret v =>
    simp only at h
    split at h
    · rename_i hnd2
      simp only [bind_ok] at h
      obtain ⟨⟨y, σY⟩, hcp, h⟩ := h
      split at h
      · rename_i hndY
        simp at h
        obtain ⟨rfl, rfl⟩ := h
        -- one run
        have one : ∀ (cs : List Frame) (ι : Nat → Loc) (w : World), Rep D ι σX w → idsL ι (· < σX.n) args → Out D P (.norm cs) (Frame.enter P f (concL ι args).toArray .normal) ι σX w (.ret v) p2 σ2
            (lone (Frame.enter P f (concL ι args).toArray .normal) cs w) := by
          intro cs ι w RX hargs
          obtain ⟨h1, h2, h3, h4, h5, h6⟩ := enter_ok Ft hfr ι (· < σX.n) hargs .normal
          have hO := HF.run _ _ _ _ _ _ hrun (.norm cs) (Frame.enter P f (concL ι args).toArray .normal) ι w
            ⟨rfl, h1.symm, by rw [h2]; rfl, by rw [h2]; simp, h5⟩ RX ⟨rfl, h4, by rw [h3]; intro d hd; simp at hd, trivial⟩
          have hm : mach (.norm cs) (Frame.enter P f (concL ι args).toArray .normal) ι fr.T fr.defers none (fr.todo.map cItem) w = lone (Frame.enter P f (concL ι args).toArray .normal) cs w := by
            unfold mach
            rw [h3, List.map_nil, ← h6]
            rfl
          rw [hm] at hO
          exact hO
        refine ⟨rfl, rfl, rfl, ⟨hndY, fun ι w Rb hargs hmut cs => ?_⟩, fun ι w RX hargs m' hm' => ?_⟩
        · have hst : ({ bareSt .e σX.l with M := σX.M } : St) = σX := by
            cases σX with
            | mk n l M => simp only [bareSt] at hlen ⊢; simp_all
          have RX : Rep D ι σX w := by
            have := Rb.reM (D := D) σX.M hM
            rwa [hst] at this
          have hmut' : ∀ b, b < σX.n → (σX.getO b).isMut = false := fun b hb => by
            have h1 : σX.getO b = (bareSt .e σX.l).getO b := by simp [St.getO, bareSt, hlen]
            rw [h1]
            exact hmut b (by show b < σX.l.length; omega)
          obtain ⟨ι2, w2, R2, E2, hen, _, _, hG⟩ := one cs ι w RX (by simpa [hlen] using hargs)
          unfold Gone at hG
          have hr0 : (Frame.enter P f (concL ι args).toArray .normal).roundOf = none := rfl
          simp only [hr0] at hG
          obtain ⟨fr', hs', hfn', hdef', hkind', fn', hfn'', hmode, hres⟩ := hG
          have hfresh := E2.fresh hmut'
          obtain ⟨ιY, hc, hconc, hids⟩ := copy_ok true R2 copyFuel _ _ _ _ hcp ι2 (fresh_rep R2 (M := .e) (fun _ h => h.elim)) hen (fun _ => nodup_ok hnd2) (fun s _ b hb hg => by rw [fresh_gone] at hg; exact (hg rfl).elim)
          have hlY := hc.rep.len
          refine ⟨.returned (conc ι2 v), w2, fr', ⟨ιY, by rw [hconc], hc.rep.toBare, by simpa [hlY] using hids, hfresh, fun b hb hg => ?_⟩, hs', hfn', hmode, hdef', hkind', fn', by rw [hfn']; exact hfn'', hres⟩
          have hg' : σY.getO b ≠ .gone := by
            rw [bareSt_eq hc.rep] at hg
            exact hg
          have hbn : b < σY.n := getO_gone hg'
          have hbf : ¬ b < (freshSt D .e).n := fun hlt => by
            rw [hc.old b hlt, fresh_gone] at hg'
            exact hg' rfl
          obtain ⟨_, s, hs, he⟩ := hc.new b (Nat.le_of_not_lt hbf) hbn
          have hsm := hc.own rfl s hs
          rw [he]
          rcases E2.own s (getO_gone (AO.isMut_ne hsm)) (AO.isMut_ne hsm) with h1 | ⟨b0, hb0, _, h3, _⟩
          · exact h1
          · have := hmut' b0 hb0
            rw [h3 hsm] at this
            cases this
        · obtain ⟨ι2, w2, R2, _⟩ := one [] ι w RX hargs
          exact R2.mem m' hm'
      · simp at h
    · simp at h

theorem call_ok (Ft : Fits D P) (HM : ∀ m, D.memo m ↔ MemoOK D P m) {F : Fns} (HF : FnsOK D P F) : CallOK D P (callF D F) := by
  intro f args σ e σ' h ι w R hargs
  unfold callF at h
  split at h
  · -- pure
    simp only [bind_ok] at h
    obtain ⟨⟨args', σX⟩, hcp, h⟩ := h
    obtain ⟨ιX, hcX, hconcX, hidsX⟩ := copyL_ok R (refs_ne σ copyFuel) (copy_ok false R copyFuel) _ _ _ _ hcp ι (fresh_rep R R.mem) hargs (by simp) (fun b hb => by rw [fresh_gone]; rfl)
    have hmX : ∀ b, b < σX.n → (σX.getO b).isMut = false := fun b hb => by
      by_cases hb0 : b < (freshSt D σ.M).n
      · rw [hcX.old b hb0, fresh_gone]; rfl
      · exact (hcX.new b (Nat.le_of_not_lt hb0) hb).1
    have hMX : ∀ m, σX.M.mem m → D.memo m := hcX.rep.mem
    have hlX := hcX.rep.len
    -- the memo's call
    have key : ∀ (m : Memo) (σ0 : St), MemoOK D P m → m.f = f → m.args = args' → m.heap = σX.l → memoF m σ0 = .ok (e, σ') → σ0.n = σ.n ∧ σ0.l = σ.l → (∀ m, σ0.M.mem m → D.memo m) →
        Calls P f (concL ι args).toArray w fun en w' => ∃ ι', en = concEnd ι' e ∧ Rep D ι' σ' w' ∧ Ext ι σ w ι' σ' w' ∧ idsEnd ι' (· < σ'.n) e := by
      intro m σ0 hm hf ha hh hmf h0 hM0 cs
      have hb : bareSt .e m.heap = { σX with M := .e } := by rw [hh]; exact bareSt_eq hcX.rep
      have hcall := hm.call ιX w (by rw [hh]; exact hcX.rep.toBare) (by rw [ha, hh, hlX]; exact hidsX) (fun b hb' => by rw [hb]; exact hmX b (by rw [hh, hlX] at hb'; exact hb'))
      rw [hf, ha, hconcX] at hcall
      obtain ⟨en, w', fr, ⟨ιY, rfl, RY, hidY, hfr, hnew⟩, hc1, hc2, hc3⟩ := hcall cs
      obtain ⟨ι', h1, h2, h3, h4⟩ := memoF_ok hmf h0 hM0 R hm.nd RY hidY hfr hnew
      exact ⟨_, w', fr, ⟨ι', h1.symm, h2, h3, h4⟩, hc1, hc2, hc3⟩
    split at h
    · rename_i m hm
      obtain ⟨h1, h2, h3, h4⟩ := findMemo_ok hm
      exact key m σ ((HM m).1 (hMX m (MTree.mem_get _ _ h1))) h2 h3 h4 h ⟨rfl, rfl⟩ R.mem
    · simp only [bind_ok] at h
      obtain ⟨⟨m, M⟩, hp, h⟩ := h
      obtain ⟨h1, h2, h3, h4, h5⟩ := pureF_ok Ft HF hp hMX hlX
      refine key m _ h4 h1 h2 h3 h ⟨rfl, rfl⟩ fun m' hm' => ?_
      rcases MTree.mem_add _ _ hm' with rfl | hm'
      · exact (HM _).2 h4
      · exact h5 ιX w hcX.rep hidsX m' hm'
  · -- plain
    simp only [plainF, bind_ok, pure_ok, Prod.mk.injEq] at h
    obtain ⟨fr, hfr, ⟨e1, p2, σ2⟩, hrun, rfl, rfl⟩ := h
    intro cs
    obtain ⟨h1, h2, h3, h4, h5, h6⟩ := enter_ok Ft hfr ι (· < σ.n) hargs .normal
    have hO := HF.run _ _ _ _ _ _ hrun (.norm cs) (Frame.enter P f (concL ι args).toArray .normal) ι w
      ⟨rfl, h1.symm, by rw [h2]; rfl, by rw [h2]; simp, h5⟩ R ⟨rfl, h4, by rw [h3]; intro d hd; simp at hd, trivial⟩
    have hm : mach (.norm cs) (Frame.enter P f (concL ι args).toArray .normal) ι fr.T fr.defers none (fr.todo.map cItem) w = lone (Frame.enter P f (concL ι args).toArray .normal) cs w := by
      unfold mach
      rw [h3, List.map_nil, ← h6]
      rfl
    rw [hm] at hO
    obtain ⟨ι2, w2, R2, E2, hen, _, _, hG⟩ := hO
    unfold Gone at hG
    have hr0 : (Frame.enter P f (concL ι args).toArray .normal).roundOf = none := rfl
    simp only [hr0] at hG
    obtain ⟨fr', hs', hfn', hdef', hkind', fn', hfn'', hend⟩ := hG
    cases e1 with
    | ret v => exact ⟨_, w2, fr', ⟨ι2, rfl, R2, E2, hen⟩, hs', hfn', hend.1, hdef', hkind', fn', by rw [hfn']; exact hfn'', hend.2⟩
    | panic v => exact ⟨_, w2, fr', ⟨ι2, rfl, R2, E2, hen⟩, hs', hfn', hend, hdef', fn', by rw [hfn']; exact hfn''⟩

theorem setParams_conc (ι : Nat → Loc) : ∀ (l : List (Tmp × AV)) (T : List AV), (concL ι (setParams l T)) = (l.foldl (fun (t : List Value) (p : Tmp × AV) => t.set p.1 (conc ι p.2)) (concL ι T))
  | [], T => rfl
  | (t, a) :: l, T => by
    simp only [setParams, List.foldl_cons]
    rw [setParams_conc ι l]
    congr 1
    simp [concL_eq, List.map_set]
theorem setParams_ids {ι : Nat → Loc} {A : Nat → Prop} : ∀ (l : List (Tmp × AV)) (T : List AV), (∀ p, p ∈ l → ids ι A p.2) → idsL ι A T → idsL ι A (setParams l T)
  | [], T, _, h => h
  | (t, a) :: l, T, hl, h => setParams_ids l _ (fun p hp => hl p (List.mem_cons_of_mem _ hp)) (idsL_set h (hl (t, a) (by simp)) t)

theorem foldl_tmps (l : List (Tmp × Value)) : ∀ (A : Array Value), (l.foldl (fun (tmps : Array Value) (p : Tmp × Value) => tmps.setIfInBounds p.1 p.2) A).toList = l.foldl (fun (t : List Value) (p : Tmp × Value) => t.set p.1 p.2) A.toList := by
  induction l with
  | nil => intro A; rfl
  | cons p l ih =>
    intro A
    simp only [List.foldl_cons]
    rw [ih]
    simp

theorem round_ok (Ft : Fits D P) {F : Fns} (HF : FnsOK D P F) : RoundOK D P (roundF D F) := by
  intro l args σ e σ' h ι w R hargs hl
  simp only [roundF, bind_ok] at h
  obtain ⟨r, hr, h⟩ := h
  obtain ⟨hh, hs0, hi0, hd0⟩ := loop_heap R hr
  split at h
  · simp at h
  · rename_i fn0 hfn0
    split at h
    · rename_i hlen
      simp only [bind_ok, pure_ok, Prod.mk.injEq] at h
      obtain ⟨⟨e1, p2, σ2⟩, hrun, rfl, rfl⟩ := h
      have hT : idsL ι (· < σ.n) (setParams (r.params.zip args) r.T) := setParams_ids _ _ (fun p hp => idsL_iff.1 hargs _ (List.of_mem_zip hp).2) hi0
      have htm : (((concLoop ι r).params.zip (concL ι args).toArray).foldl (fun tmps (t, a) => tmps.setIfInBounds t a) (concLoop ι r).tmps) = (concL ι (setParams (r.params.zip args) r.T)).toArray := by
        apply Array.ext'
        rw [← Array.foldl_toList]
        have h1 : ((concLoop ι r).params.zip (concL ι args).toArray).toList = (r.params.zip args).map fun p => (p.1, conc ι p.2) := by
          simp [concLoop, concL_eq, List.zip_map_right]
        rw [h1]
        have h2 := foldl_tmps ((r.params.zip args).map fun p => (p.1, conc ι p.2)) (concLoop ι r).tmps
        have h3 : (concLoop ι r).tmps.toList = concL ι r.T := rfl
        rw [h3] at h2
        refine Eq.trans ?_ (h2.trans ?_)
        · rfl
        · rw [setParams_conc, List.foldl_map]
      refine ⟨r.fn, (concL ι (setParams (r.params.zip args) r.T)).toArray, r.assign, r.body, ?_, fun c cs => ?_⟩
      · simp only [Instr.yield, Sem.run_bind, run_instrGet R hr, Result.andThen_ok]
        have : ¬ ((concL ι args).toArray.size ≠ (concLoop ι r).params.size) := by simp [concLoop, hlen]
        rw [if_neg this]
        simp only [Sem.run_pure, htm]
        rfl
      · have hO := HF.run _ _ _ _ _ _ hrun (.norm (c :: cs)) (Frame.round (ι l).block r.fn (concL ι (setParams (r.params.zip args) r.T)).toArray r.assign r.body .normal) ι w
          ⟨rfl, rfl, rfl, fun l' hl' => by cases hl'; exact ⟨hl, _, rfl⟩, ⟨fn0, Ft.func _ _ hfn0⟩⟩ R ⟨rfl, hT, (by intro d hd; simp at hd), trivial⟩
        obtain ⟨ι2, w2, R2, E2, hen, _, _, hG⟩ := hO
        unfold Gone at hG
        have hr0 : (Frame.round (ι l).block r.fn (concL ι (setParams (r.params.zip args) r.T)).toArray r.assign r.body .normal).roundOf = some (ι l).block := rfl
        simp only [hr0] at hG
        exact ⟨ι2, w2, hG c cs rfl, R2, E2, hen⟩
    · simp at h

theorem noFns_ok : FnsOK D P noFns where
  run := fun _ _ _ _ _ _ h => by simp [noFns] at h
  finish := fun _ _ _ _ _ _ _ _ _ h => by simp [noFns] at h
  endLoop := fun _ _ _ _ _ _ _ _ h => by simp [noFns] at h
  call := fun _ _ _ _ _ h => by simp [noFns] at h
  round := fun _ _ _ _ _ h => by simp [noFns] at h

theorem nextFns_ok (Ft : Fits D P) (HM : ∀ m, D.memo m ↔ MemoOK D P m) {F : Fns} (HF : FnsOK D P F) : FnsOK D P (nextFns D F) where
  run := run_ok Ft HF
  finish := finish_ok Ft HF
  endLoop := endLoop_ok HF
  call := call_ok Ft HM HF
  round := round_ok Ft HF

theorem fns_ok (Ft : Fits D P) (HM : ∀ m, D.memo m ↔ MemoOK D P m) : ∀ n, FnsOK D P (fns D n)
  | 0 => noFns_ok
  | n + 1 => nextFns_ok Ft HM (fns_ok Ft HM n)

end
end Go.Dt
