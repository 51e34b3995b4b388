/-
  The rest of a drawn region, in every order. No statement of this seat stands here.
-/
import Derived.Test.YtolakgfoodndpaaGreatDoorDtDrw4
namespace Go.Dt

section
variable {D : Tab} {P : Program} {eqT : List AV → List AV → Bool} {eqH : List AO → List AO → Bool}

theorem insE_ok (hT : ∀ a b, eqT a b = true → a = b) (hH : ∀ a b, eqH a b = true → a = b) {s : ES} : ∀ {l l' : List ES}, insE eqT eqH s l = .ok l' → (∀ x, x ∈ l → x ∈ l') ∧ s ∈ l'
  | [], l', h => by
    simp [insE] at h
    subst h
    exact ⟨by simp, by simp⟩
  | x :: l, l', h => by
    unfold insE at h
    cases h1 : Nat.beq x.mask s.mask with
    | true =>
      rw [h1] at h
      simp only [cond_true] at h
      cases h2 : eqT x.T s.T with
      | false => rw [h2] at h; cases h
      | true =>
        rw [h2] at h
        simp only [cond_true] at h
        cases h3 : Nat.beq x.n s.n with
        | false => rw [h3] at h; cases h
        | true =>
          rw [h3] at h
          simp only [cond_true] at h
          cases h4 : eqH x.l s.l with
          | false => rw [h4] at h; cases h
          | true =>
            rw [h4] at h
            simp only [cond_true, Except.ok.injEq] at h
            subst h
            have e : s = x := by
              have e1 := Nat.eq_of_beq_eq_true h1
              have e2 := hT _ _ h2
              have e3 := Nat.eq_of_beq_eq_true h3
              have e4 := hH _ _ h4
              cases s; cases x
              simp only at e1 e2 e3 e4
              subst e1; subst e2; subst e3; subst e4
              rfl
            exact ⟨fun y hy => hy, by rw [e]; simp⟩
    | false =>
      rw [h1] at h
      simp only [cond_false] at h
      split at h
      · rename_i l1 hl1
        simp at h
        subst h
        obtain ⟨k1, k2⟩ := insE_ok hT hH hl1
        exact ⟨fun y hy => by
          rcases List.mem_cons.1 hy with rfl | hy
          · simp
          · exact List.mem_cons_of_mem _ (k1 y hy), List.mem_cons_of_mem _ k2⟩
      · cases h

variable {ops : Array Oper} {m : Nat} {M : MTree}

/-- one step of one state is in the next level -/
def Next1 (D : Tab) (ops : Array Oper) (m : Nat) (M : MTree) (s : ES) (i : Nat) (fr : List ES) : Prop :=
  ∃ o T σ, ops[i]? = some o ∧ stepE D ops o s.T { n := s.n, l := s.l, M := M } = .ok (T, σ) ∧ ({ mask := Nat.lor s.mask (Nat.shiftLeft 1 i), T := T, n := σ.n, l := σ.l } : ES) ∈ fr

theorem expE_ok (hT : ∀ a b, eqT a b = true → a = b) (hH : ∀ a b, eqH a b = true → a = b) {s : ES} : ∀ {is : List Nat} {acc fr : List ES}, expE D eqT eqH ops m M s is acc = .ok fr →
    (∀ x, x ∈ acc → x ∈ fr) ∧ ∀ i, i ∈ is → canE ops m s.mask i = true → Next1 D ops m M s i fr
  | [], acc, fr, h => by
    simp [expE] at h
    subst h
    exact ⟨fun _ hx => hx, by simp⟩
  | i :: is, acc, fr, h => by
    unfold expE at h
    cases hc : canE ops m s.mask i with
    | false =>
      rw [hc] at h
      simp only [cond_false] at h
      obtain ⟨k1, k2⟩ := expE_ok hT hH h
      refine ⟨k1, fun j hj hcj => ?_⟩
      rcases List.mem_cons.1 hj with rfl | hj
      · rw [hc] at hcj; cases hcj
      · exact k2 j hj hcj
    | true =>
      rw [hc] at h
      simp only [cond_true] at h
      split at h
      · cases h
      · rename_i o ho
        split at h
        · rename_i r hr
          split at h
          · rename_i acc1 hacc
            obtain ⟨k3, k4⟩ := insE_ok hT hH hacc
            obtain ⟨k1, k2⟩ := expE_ok hT hH h
            refine ⟨fun x hx => k1 x (k3 x hx), fun j hj hcj => ?_⟩
            rcases List.mem_cons.1 hj with rfl | hj
            · exact ⟨o, r.1, r.2, ho, hr, k1 _ k4⟩
            · exact k2 j hj hcj
          · cases h
        · cases h

theorem levE_ok (hT : ∀ a b, eqT a b = true → a = b) (hH : ∀ a b, eqH a b = true → a = b) {is : List Nat} : ∀ {fr acc fr' : List ES}, levE D eqT eqH ops m M is fr acc = .ok fr' →
    (∀ x, x ∈ acc → x ∈ fr') ∧ ∀ s, s ∈ fr → anyE ops m s.mask is = true ∧ ∀ i, i ∈ is → canE ops m s.mask i = true → Next1 D ops m M s i fr'
  | [], acc, fr', h => by
    simp [levE] at h
    subst h
    exact ⟨fun _ hx => hx, by simp⟩
  | s :: fr, acc, fr', h => by
    unfold levE at h
    cases ha : anyE ops m s.mask is with
    | false => rw [ha] at h; cases h
    | true =>
      rw [ha] at h
      simp only [cond_true] at h
      split at h
      · rename_i acc1 hacc
        obtain ⟨k1, k2⟩ := expE_ok hT hH hacc
        obtain ⟨k3, k4⟩ := levE_ok hT hH h
        refine ⟨fun x hx => k3 x (k1 x hx), fun t ht => ?_⟩
        rcases List.mem_cons.1 ht with rfl | ht
        · refine ⟨ha, fun i hi hc => ?_⟩
          obtain ⟨o, T, σ, h1, h2, h3⟩ := k2 i hi hc
          exact ⟨o, T, σ, h1, h2, k3 _ h3⟩
        · exact k4 t ht
      · cases h

theorem anyE_ok {mask : Nat} : ∀ {is : List Nat}, anyE ops m mask is = true → ∃ i, i ∈ is ∧ canE ops m mask i = true
  | i :: is, h => by
    unfold anyE at h
    cases hc : canE ops m mask i with
    | true => exact ⟨i, by simp, hc⟩
    | false =>
      rw [hc] at h
      obtain ⟨j, hj, hcj⟩ := anyE_ok h
      exact ⟨j, List.mem_cons_of_mem _ hj, hcj⟩

theorem fullE_ok {mask : Nat} : ∀ {is : List Nat}, fullE mask is = true → ∀ i, i ∈ is → mask.testBit i = true
  | j :: is, h, i, hi => by
    unfold fullE at h
    rw [bitOf_eq] at h
    cases hc : mask.testBit j with
    | false => rw [hc] at h; cases h
    | true =>
      rw [hc] at h
      rcases List.mem_cons.1 hi with rfl | hi
      · exact hc
      · exact fullE_ok h i hi

/-- what is listed, as a number -/
def Msk (m : Nat) (listed : Array Bool) (mask : Nat) : Prop := ∀ i, m ≤ i → mask.testBit i = lst listed i

theorem readyE_eq {listed : Array Bool} {mask : Nat} (hall : ∀ i, i < m → lst listed i = true) (hm : Msk m listed mask) :
    ∀ l : List Edge, readyE m mask l = true → ∀ e, e ∈ l → Region.binds .any e = true → lst listed e.on = true
  | e' :: l, h, e, he, hb => by
    unfold readyE at h
    rcases List.mem_cons.1 he with rfl | he
    · rw [hb] at h
      simp only [cond_true] at h
      rw [blt_dec] at h
      by_cases h1 : e.on < m
      · exact hall _ h1
      · simp only [h1, decide_false, cond_false] at h
        rw [bitOf_eq] at h
        cases h2 : mask.testBit e.on with
        | false => rw [h2] at h; cases h
        | true => rw [← hm e.on (Nat.le_of_not_lt h1), h2]
    · have h' : readyE m mask l = true := by
        cases hb' : Region.binds .any e' with
        | false => rw [hb'] at h; exact h
        | true =>
          rw [hb'] at h
          simp only [cond_true] at h
          cases h1 : Nat.blt e'.on m with
          | true => rw [h1] at h; exact h
          | false =>
            rw [h1] at h
            simp only [cond_false] at h
            cases h2 : bitOf mask e'.on with
            | true => rw [h2] at h; exact h
            | false => rw [h2] at h; cases h
      exact readyE_eq hall hm l h' e he hb

theorem readyE_of {listed : Array Bool} {mask : Nat} (hm : Msk m listed mask) :
    ∀ l : List Edge, (∀ e, e ∈ l → Region.binds .any e = true → lst listed e.on = true) → readyE m mask l = true
  | [], _ => rfl
  | e :: l, h => by
    unfold readyE
    have ih := readyE_of hm l fun e' he' => h e' (List.mem_cons_of_mem _ he')
    cases hb : Region.binds .any e with
    | false => exact ih
    | true =>
      simp only [cond_true]
      rw [blt_dec]
      by_cases h1 : e.on < m
      · simp only [h1, decide_true, cond_true]; exact ih
      · simp only [h1, decide_false, cond_false]
        have hl := h e (by simp) hb
        rw [bitOf_eq, hm e.on (Nat.le_of_not_lt h1), hl]
        exact ih

theorem stepE_one {call : CallT} {round : RoundT} {isRound : Bool} {o : Oper} {T T' : List AV} {σ σ' : St} {ds : List ADef} {pan : Pan} (hw : wantedA ops o T = true)
    (h : stepE D ops o T σ = .ok (T', σ')) : runOne D call round isRound o T ds pan σ = .ok (.go T' ds pan σ') := by
  unfold stepE at h
  rw [if_pos hw] at h
  split at h
  · rename_i hc
    simp only [bind_ok, pure_ok, Prod.mk.injEq] at h
    obtain ⟨v, hv, rfl, rfl⟩ := h
    simp [runOne, execOp, hc, hv, bind, Except.bind, pure, Except.pure]
  · rename_i hc
    simp only [bind_ok, pure_ok, Prod.mk.injEq] at h
    obtain ⟨v, hv, rfl, rfl⟩ := h
    simp [runOne, execOp, hc, hv, bind, Except.bind, pure, Except.pure]
  · rename_i hc
    split at h
    · rename_i t a x hop
      simp only [bind_ok, pure_ok, Prod.mk.injEq] at h
      obtain ⟨σ1, hv, rfl, rfl⟩ := h
      simp [runOne, execOp, hop, clsD, clsOf, actOp, hv, bind, Except.bind, pure, Except.pure]
    · simp at h
  · simp at h

theorem enum_ok (F : Fits D P) {call : CallT} {round : RoundT} (HC : CallOK D P call) (HR : RoundOK D P round) (hT : ∀ a b, eqT a b = true → a = b) (hH : ∀ a b, eqH a b = true → a = b)
    {isRound : Bool} {X : Ctx} {b : Frame} (hk : b.kind = X.kind) (hround : b.roundOf = none ↔ isRound = false) {k : List Item} {ds : List ADef} {pan : Pan} {is : List Nat} (his : ∀ i, i ∈ is ↔ m ≤ i ∧ i < ops.size) :
    ∀ (n : Nat) (fr : List ES) (se : ES), enumE D eqT eqH ops m M is n fr = .ok se → ∀ (order : List Nat) (listed : Array Bool), Lin ops listed order → listed.size = ops.size →
      (∀ i, i < m → lst listed i = true) → ∀ s, s ∈ fr → Msk m listed s.mask → ∀ {ι : Nat → Loc} {w : World}, Rep D ι { n := s.n, l := s.l, M := M } w → IdsF ι (· < s.n) X s.T ds pan →
      ∃ ι' w', Steps P (mach X b ι s.T ds pan (.inRegion ops order :: k) w) (mach X b ι' se.T ds pan (.inRegion ops [] :: k) w') ∧
        Rep D ι' { n := se.n, l := se.l, M := M } w' ∧ Ext ι { n := s.n, l := s.l, M := M } w ι' { n := se.n, l := se.l, M := M } w' ∧ IdsF ι' (· < se.n) X se.T ds pan := by
  intro n
  induction n with
  | zero =>
    intro fr se h order listed hlin hsz hall s hs hm ι w R I
    unfold enumE at h
    split at h
    · rename_i s0
      cases hf : fullE s0.mask is with
      | false => rw [hf] at h; cases h
      | true =>
        rw [hf] at h
        simp only [cond_true, Except.ok.injEq] at h
        subst h
        have hse : s = s0 := by simpa using hs
        subst hse
        cases order with
        | nil => exact ⟨ι, w, Steps.refl _ _, R, Ext.refl _ _ _, I⟩
        | cons i order =>
          exfalso
          have hri := ready_lst hlin.1 hsz
          by_cases hi : i < m
          · rw [hall i hi] at hri; simp at hri
          · have := fullE_ok hf i ((his i).2 ⟨Nat.le_of_not_lt hi, hri.1⟩)
            rw [hm i (Nat.le_of_not_lt hi), hri.2] at this
            cases this
    · cases h
  | succ n ih =>
    intro fr se h order listed hlin hsz hall s hs hm ι w R I
    unfold enumE at h
    split at h
    · rename_i fr' hlev
      obtain ⟨hany, hnext⟩ := (levE_ok hT hH hlev).2 s hs
      cases order with
      | nil =>
        exfalso
        obtain ⟨i, hi, hc⟩ := anyE_ok hany
        obtain ⟨hmi, hin⟩ := (his i).1 hi
        unfold canE at hc
        cases hb : bitOf s.mask i with
        | true => rw [hb] at hc; cases hc
        | false =>
          rw [hb] at hc
          simp only [cond_false] at hc
          split at hc
          · rename_i o ho
            have hli : lst listed i = false := by rw [← hm i hmi, ← bitOf_eq]; exact hb
            have : i ∈ Region.ready .any ops listed := by
              refine mem_ready.2 ⟨?_, o, ho, fun e he hbi => ?_⟩
              · have hlt : i < listed.size := by rw [hsz]; exact hin
                unfold lst at hli
                simp [hlt] at hli ⊢
                exact hli
              · exact readyE_eq hall hm _ hc e (by simpa using he) hbi
            rw [hlin] at this
            simp at this
          · cases hc
      | cons i order =>
        obtain ⟨hr, hlin'⟩ := hlin
        have hri := ready_lst hr hsz
        have hmi : m ≤ i := by
          rcases Nat.lt_or_ge i m with h1 | h1
          · rw [hall i h1] at hri; simp at hri
          · exact h1
        obtain ⟨_, o, ho, hedges⟩ := mem_ready.1 hr
        have hcan : canE ops m s.mask i = true := by
          unfold canE
          rw [bitOf_eq, hm i hmi, hri.2]
          simp only [cond_false, ho]
          exact readyE_of hm _ fun e he hb => hedges e (by simpa using he) hb
        obtain ⟨o', T', σ', ho', hst, hmem⟩ := hnext i ((his i).2 ⟨hmi, hri.1⟩) hcan
        rw [ho] at ho'
        cases ho'
        have hm' : Msk m (listed.setIfInBounds i true) (Nat.lor s.mask (Nat.shiftLeft 1 i)) := fun j hj1 => by
          have h1 : (Nat.lor s.mask (Nat.shiftLeft 1 i)).testBit j = (s.mask.testBit j || (Nat.shiftLeft 1 i).testBit j) := Nat.testBit_or _ _ _
          have h2 : (Nat.shiftLeft 1 i).testBit j = decide (i = j) := by
            have : Nat.shiftLeft 1 i = 2 ^ i := Nat.one_shiftLeft i
            rw [this, Nat.testBit_two_pow]
          rw [h1, h2, hm j hj1, lst_set (by rw [hsz]; exact hri.1)]
          congr 1
          by_cases e : i = j
          · subst e; simp
          · have : ¬ j = i := fun x => e x.symm
            simp [e, this]
        have hall' : ∀ j, j < m → lst (listed.setIfInBounds i true) j = true := fun j hj => by
          rw [lst_set (by rw [hsz]; exact hri.1), hall j hj]; rfl
        -- the machine's step
        have hstep : ∃ ι1 w1, Steps P (mach X b ι s.T ds pan (.inRegion ops (i :: order) :: k) w) (mach X b ι1 T' ds pan (.inRegion ops order :: k) w1) ∧
            Rep D ι1 σ' w1 ∧ Ext ι { n := s.n, l := s.l, M := M } w ι1 σ' w1 ∧ IdsF ι1 (· < σ'.n) X T' ds pan := by
          cases hw : wantedA ops o s.T with
          | true =>
            have h1 := stepE_one (D := D) (call := call) (round := round) (isRound := isRound) (ds := ds) (pan := pan) hw hst
            have hwc : Region.wanted o (yielded ops (concL ι s.T).toArray) = true := by rw [wanted_conc]; exact hw
            obtain ⟨ι1, σ1, w1, h2, R1, E1⟩ := runOne_ok F HC HR hk hround R ho hwc (rest := order) (k := k) (by rw [evT_eq R]) (fun x _ => evalO_ids R R.glob_lt I.T x) I.ds I.pan I.fit h1
            generalize hre : OpEnd.go T' ds pan σ' = re at h2
            cases h2 with
            | go steps hv hds hpan hfit =>
              cases hre
              rw [putV_agree E1 I.T] at steps
              exact ⟨ι1, w1, steps, R1, E1, ⟨hfit, put_ids (idsL_mono E1.k _ I.T) hv _, hds, hpan⟩⟩
            | panic => cases hre
          | false =>
            unfold stepE at hst
            rw [hw] at hst
            simp only [Bool.false_eq_true, if_false, Except.ok.injEq, Prod.mk.injEq] at hst
            obtain ⟨rfl, rfl⟩ := hst
            refine ⟨ι, w, ?_, R, Ext.refl _ _ _, ⟨I.fit, put_ids I.T (ids_undef _ _) _, I.ds, I.pan⟩⟩
            have h2 := step_unwanted (P := P) (b := b) (T := (concL ι s.T).toArray) (ds := ds.map (concDef ι)) (k := k) (cs := X.cs ι pan) (w := w) (ops := ops) (i := i) (rest := order) (o := o)
              (by rw [ho]; simp only [Option.map_some, Option.getD_some]; rw [wanted_conc]; exact hw) ho
            have h3 : putV (concL ι s.T).toArray o.dst undef = (concL ι (put s.T o.dst .undef)).toArray := by
              rw [← putV_conc, conc_undef]
            rw [h3] at h2
            exact .one h2
        obtain ⟨ι1, w1, hs1, R1, E1, I1⟩ := hstep
        have R1' : Rep D ι1 { n := σ'.n, l := σ'.l, M := M } w1 := ⟨R1.len, R1.glob, R1.gloc, R1.obj, R1.sep, R.mem⟩
        have E1' : Ext ι { n := s.n, l := s.l, M := M } w ι1 { n := σ'.n, l := σ'.l, M := M } w1 := ⟨E1.os, E1.tape, E1.output, E1.size, E1.n, E1.agree, E1.frame, E1.own⟩
        obtain ⟨ι2, w2, hs2, R2, E2, I2⟩ := ih fr' se h order _ hlin' (by simpa using hsz) hall' _ hmem hm' R1' I1
        exact ⟨ι2, w2, Steps.trans hs1 hs2, R2, E1'.trans E2, I2⟩
    · cases h

end
end Go.Dt
