/-
  The staged reading says no more than the plain one: regions. No statement of this seat stands here.
-/
import Derived.Test.YtolakgfoodndpaaGreatDoorDtLe2
import Derived.Test.YtolakgfoodndpaaGreatDoorDtFrm
namespace Go.Dt

def CLe (c c' : CallT) : Prop := ∀ f args σ, Le (c f args σ) (c' f args σ)

def KLe {ρ : Type} (n : Nat) (K : Kont ρ) (K' : List AV → List ADef → Pan → St → R ρ) : Prop :=
  ∀ T L ds pan σ, TR n T L → Le (K T ds pan σ) (K' L ds pan σ)
def KPLe {ρ : Type} (n : Nat) (K : KPan ρ) (K' : AV → List AV → List ADef → Pan → St → R ρ) : Prop :=
  ∀ v T L ds pan σ, TR n T L → Le (K v T ds pan σ) (K' v L ds pan σ)

/-- what comes behind a region's end -/
def kon {ρ : Type} (K : List AV → List ADef → Pan → St → R ρ) (Kp : AV → List AV → List ADef → Pan → St → R ρ) : OpEnd → R ρ
  | .go L ds pan σ => K L ds pan σ
  | .panic v L ds pan σ => Kp v L ds pan σ

theorem bind_assoc' {α β γ : Type} (x : R α) (f : α → R β) (g : β → R γ) : (x >>= f) >>= g = x >>= fun a => f a >>= g := by
  cases x <;> rfl

section
variable {D : Tab} {ρ : Type} {call call' : CallT} {round round' : RoundT}

theorem nextC_le (hc : CLe call call') (hr : ∀ l args σ, Le (round l args σ) (round' l args σ)) {n : Nat} {isRound : Bool} {o : Oper} {T : RT} {L : List AV} (h : TR n T L) (ds : List ADef) (pan : Pan) (σ : St)
    {K : Kont ρ} {K' : List AV → List ADef → Pan → St → R ρ} {Kp : KPan ρ} {Kp' : AV → List AV → List ADef → Pan → St → R ρ} (hK : KLe n K K') (hKp : KPLe n Kp Kp') (nx : ANext)
    {σ0 : St} (he : execOp D (evalO D L) σ0 o.op = .ok (nx, σ)) :
    Le (nextC ρ isRound (putC n o.dst) call round nx T ds pan σ K Kp) (runOne D call' round' isRound o L ds pan σ0 >>= kon K' Kp') := by
  simp only [runOne, he]
  cases nx with
  | value v => exact hK _ _ _ _ _ (h.put _ _)
  | skip => exact hK _ _ _ _ _ (h.put _ _)
  | defer d =>
    cases isRound with
    | true => exact Le.error
    | false => exact hK _ _ _ _ _ (h.put _ _)
  | recover =>
    cases isRound with
    | true => exact Le.error
    | false =>
      simp only [nextC, cond_false]
      cases pan with
      | none => exact hK _ _ _ _ _ (h.put _ _)
      | some p =>
        obtain ⟨v, r⟩ := p
        cases r with
        | false => exact hK _ _ _ _ _ (h.put _ _)
        | true => exact hK _ _ _ _ _ (h.put _ _)
  | panic v => exact hKp _ _ _ _ _ _ h
  | enter f args =>
    simp only [nextC]
    have := hc f args σ
    show Le _ ((call' f args σ >>= fun (x : AEnd × St) => _) >>= _)
    rw [bind_assoc']
    refine Le.step this (fun e he => ⟨e, by rw [he]⟩) fun a ha => ?_
    rw [ha]
    obtain ⟨e, σ1⟩ := a
    cases e with
    | ret v => exact hK _ _ _ _ _ (h.put _ _)
    | panic v => exact hKp _ _ _ _ _ _ h
  | round l args =>
    simp only [nextC]
    have := hr l args σ
    show Le _ ((round' l args σ >>= fun (x : AEnd × St) => _) >>= _)
    rw [bind_assoc']
    refine Le.step this (fun e he => ⟨e, by rw [he]⟩) fun a ha => ?_
    rw [ha]
    obtain ⟨e, σ1⟩ := a
    cases e with
    | ret v => exact hK _ _ _ _ _ (h.put _ _)
    | panic v => exact hKp _ _ _ _ _ _ h

theorem oneC_le (hc : CLe call call') (hr : ∀ l args σ, Le (round l args σ) (round' l args σ)) {n : Nat} {isRound : Bool} {o : Oper} {T : RT} {L : List AV} (h : TR n T L) (ds : List ADef) (pan : Pan) (σ : St)
    {K : Kont ρ} {K' : List AV → List ADef → Pan → St → R ρ} {Kp : KPan ρ} {Kp' : AV → List AV → List ADef → Pan → St → R ρ} (hK : KLe n K K') (hKp : KPLe n Kp Kp') :
    Le ((oneC ρ D n isRound o).run call round T ds pan σ K Kp) (runOne D call' round' isRound o L ds pan σ >>= kon K' Kp') := by
  unfold oneC
  split
  · rename_i hcls
    intro a ha
    simp only at ha
    cases hp : (pureC D n o.op).run T with
    | error e => rw [hp] at ha; cases ha
    | ok v =>
      rw [hp] at ha
      have h1 := pureC_le (D := D) h o.op v hp
      have he : execOp D (evalO D L) σ o.op = .ok (.value v, σ) := by
        simp only [execOp, hcls, h1]; rfl
      simp only [runOne, he]
      exact hK _ _ _ _ _ (h.put _ _) a ha
  · rename_i hcls
    intro a ha
    simp only at ha
    cases hp : (readC D n o.op).run σ T with
    | error e => rw [hp] at ha; cases ha
    | ok v =>
      rw [hp] at ha
      have h1 := readC_le (D := D) h σ o.op v hp
      have he : execOp D (evalO D L) σ o.op = .ok (.value v, σ) := by
        simp only [execOp, hcls, h1]; rfl
      simp only [runOne, he]
      exact hK _ _ _ _ _ (h.put _ _) a ha
  · rename_i hcls
    intro a ha
    obtain ⟨m, l, M⟩ := σ
    simp only [h.opds] at ha
    cases hp : allocOp D (evalO D L) o.op m with
    | error e => rw [hp] at ha; cases ha
    | ok r =>
      obtain ⟨v, ob⟩ := r
      rw [hp] at ha
      have he : execOp D (evalO D L) ⟨m, l, M⟩ o.op = .ok (.value v, ⟨m + 1, ob :: l, M⟩) := by
        simp only [execOp, hcls, hp]; rfl
      simp only [runOne, he]
      exact hK _ _ _ _ _ (h.put _ _) a ha
  · rename_i hcls
    intro a ha
    simp only at ha
    cases hp : (actC D n o.op).run σ T with
    | error e => rw [hp] at ha; cases ha
    | ok r =>
      obtain ⟨nx, σ1⟩ := r
      rw [hp] at ha
      have h1 := actC_le (D := D) h σ o.op _ hp
      have he : execOp D (evalO D L) σ o.op = .ok (nx, σ1) := by
        simp only [execOp, hcls, h1]
      exact nextC_le hc hr h ds pan σ1 hK hKp nx he a ha

theorem isB_eq (v : AV) (want : Bool) : isB v want = ((match v with | .base (.bool b) => some b | _ => none) == some want) := by
  cases v with
  | base v => cases v with
    | bool b => cases b <;> cases want <;> rfl
    | _ => rfl
  | _ => rfl

theorem guardC_none {n : Nat} {ops : Array Oper} {o : Oper} (h : guardC n ops o.guard = none) (L : List AV) : wantedA ops o L = true := by
  unfold guardC at h
  unfold wantedA
  split at h
  · rename_i hg; rw [hg]
  · split at h <;> cases h

theorem guardC_some {n : Nat} {ops : Array Oper} {o : Oper} {g : GC} {want : Bool} (h : guardC n ops o.guard = some (g, want)) {T : RT} {L : List AV} (hT : TR n T L) :
    isB (g.run T) want = wantedA ops o L := by
  unfold guardC at h
  unfold wantedA
  split at h
  · cases h
  · rename_i j w hg
    rw [hg]
    rw [isB_eq]
    unfold yieldedA
    split at h
    · rename_i d hd
      simp only [Option.some.injEq, Prod.mk.injEq] at h
      obtain ⟨rfl, rfl⟩ := h
      rw [hT.getC, List.getD_eq_getElem?_getD]
      simp only [hd, Option.bind_some]
      cases hL : L[d]? with
      | none => simp [AV.undef]
      | some v =>
        simp only [Option.getD_some]
        cases v with
        | base v => cases v <;> rfl
        | _ => rfl
    · rename_i hd
      simp only [Option.some.injEq, Prod.mk.injEq] at h
      obtain ⟨rfl, rfl⟩ := h
      simp [hd, AV.undef]

theorem seqC_le (hc : CLe call call') (hr : ∀ l args σ, Le (round l args σ) (round' l args σ)) {n : Nat} {isRound : Bool} {ops : Array Oper}
    {K : Kont ρ} {K' : List AV → List ADef → Pan → St → R ρ} {Kp : KPan ρ} {Kp' : AV → List AV → List ADef → Pan → St → R ρ} (hK : KLe n K K') (hKp : KPLe n Kp Kp') :
    ∀ (l : List Oper) {T : RT} {L : List AV} (_ : TR n T L) (ds : List ADef) (pan : Pan) (σ : St),
    Le ((seqC ρ D n isRound ops l).run call round T ds pan σ K Kp) (runSeq D call' round' isRound ops l L ds pan σ >>= kon K' Kp') := by
  intro l
  induction l with
  | nil => intro T L h ds pan σ; exact hK _ _ _ _ _ h
  | cons o l ih =>
    intro T L h ds pan σ
    have hgo : wantedA ops o L = true → Le ((oneC ρ D n isRound o).run call round T ds pan σ (fun T ds pan σ => (seqC ρ D n isRound ops l).run call round T ds pan σ K Kp) Kp)
        (runSeq D call' round' isRound ops (o :: l) L ds pan σ >>= kon K' Kp') := by
      intro hw
      have := oneC_le (D := D) hc hr (isRound := isRound) (o := o) h ds pan σ (K := fun T ds pan σ => (seqC ρ D n isRound ops l).run call round T ds pan σ K Kp)
        (K' := fun L ds pan σ => runSeq D call' round' isRound ops l L ds pan σ >>= kon K' Kp') (fun T L ds pan σ h => ih h ds pan σ) hKp
      refine Le.trans this (Le.of_eq ?_)
      simp only [runSeq, hw, if_true]
      rw [bind_assoc']
      congr 1
      funext r
      cases r <;> rfl
    have hcons : seqC ρ D n isRound ops (o :: l) = (match guardC n ops o.guard with
      | none => ⟨fun call round T ds pan σ K Kp => (oneC ρ D n isRound o).run call round T ds pan σ (fun T ds pan σ => (seqC ρ D n isRound ops l).run call round T ds pan σ K Kp) Kp⟩
      | some (g, want) => ⟨fun call round T ds pan σ K Kp =>
          bif isB (g.run T) want then (oneC ρ D n isRound o).run call round T ds pan σ (fun T ds pan σ => (seqC ρ D n isRound ops l).run call round T ds pan σ K Kp) Kp
          else (seqC ρ D n isRound ops l).run call round ((putC n o.dst).run .undef T) ds pan σ K Kp⟩) := rfl
    rw [hcons]
    split
    · rename_i hg
      exact hgo (guardC_none hg L)
    · rename_i g want hg
      simp only [guardC_some hg h]
      cases hw : wantedA ops o L with
      | true => exact hgo hw
      | false =>
        simp only [cond_false]
        refine Le.trans (ih (h.put _ _) ds pan σ) (Le.of_eq ?_)
        simp only [runSeq, hw, Bool.false_eq_true, if_false]

theorem bndAll_eq (n : Nat) : ∀ l : List AV, bndAll n l = l.all fun x => bndA n x
  | [] => rfl
  | v :: l => by
    simp only [bndAll, List.all_cons]
    cases bndA n v with
    | true => simp [bndAll_eq n l]
    | false => simp

theorem u8_eq (a b : UInt8) : Nat.beq a.toNat b.toNat = (a == b) := by
  rw [beq_eq]
  by_cases h : a = b
  · subst h; simp
  · have : ¬ a.toNat = b.toNat := fun e => h (UInt8.toNat_inj.1 e)
    simp [h, this]

theorem eqBytes_eq : ∀ a b : List UInt8, eqBytes a b = (a == b)
  | [], [] => rfl
  | [], _ :: _ => rfl
  | _ :: _, [] => rfl
  | x :: a, y :: b => by
    show (bif Nat.beq x.toNat y.toNat then eqBytes a b else false) = _
    rw [u8_eq, eqBytes_eq a b]
    cases h : x == y <;> simp_all

theorem eqVS_eq (a b : Value) : eqVS a b = beqBase a b := by
  unfold eqVS
  split
  · rename_i k m
    split
    · rename_i k' n
      rw [same_eq, eqI_eq]
      simp only [beqBase]
      by_cases h : k = k'
      · subst h; simp
      · simp [h]
    · rename_i hne
      cases b <;> first | rfl | (exact (hne _ _ rfl).elim)
  · rename_i x
    split
    · rename_i y; cases x <;> cases y <;> rfl
    · rename_i hne
      cases b <;> first | rfl | (exact (hne _ rfl).elim)
  · rfl

theorem beqA0_eq (a b : AV) : beqA0 a b = beqA a b := by
  unfold beqA0
  split
  · rename_i x
    split
    · rename_i y; rw [eqVS_eq]; rfl
    · rename_i hne
      cases b <;> first | rfl | (exact (hne _ rfl).elim)
  · rfl
theorem beqL0_eq : ∀ a b : List AV, beqL0 a b = beqL a b
  | [], [] => rfl
  | [], _ :: _ => rfl
  | _ :: _, [] => rfl
  | x :: a, y :: b => by
    show (bif beqA0 x y then beqL0 a b else false) = _
    rw [beqA0_eq, beqL0_eq a b]
    simp only [beqL]
    cases beqA x y <;> simp
theorem beqAS_eq (a b : AV) : beqAS a b = beqA a b := by
  cases a with
  | base x =>
    cases b with
    | base y => exact eqVS_eq x y
    | _ => rfl
  | agg l =>
    cases b with
    | agg l' => exact beqL0_eq l l'
    | _ => rfl
  | _ => rfl

theorem beqLS_eq : ∀ a b : List AV, beqLS a b = beqL a b
  | [], [] => rfl
  | [], _ :: _ => rfl
  | _ :: _, [] => rfl
  | x :: a, y :: b => by
    show (bif beqAS x y then beqLS a b else false) = _
    rw [beqAS_eq, beqLS_eq a b]
    simp only [beqL]
    cases beqA x y <;> simp

theorem beqOS_eq (a b : AO) : beqOS a b = beqO a b := by
  cases a with
  | cells cs e o s =>
    cases b with
    | cells cs' e' o' s' =>
      show (bif Nat.beq e e' then bif (bif o then o' else !o') then bif Nat.beq s s' then beqLS cs cs' else false else false else false) = _
      simp only [beqO, beq_eq, beqLS_eq]
      have ho : (bif o then o' else !o') = (o == o') := by cases o <;> cases o' <;> rfl
      rw [ho]
      by_cases h1 : e = e' <;> by_cases h2 : s = s' <;> cases h3 : o == o' <;> simp [h1, h2, h3]
    | _ => rfl
  | gone => cases b <;> rfl
  | _ => rfl

theorem beqHS_eq : ∀ a b : List AO, beqHS a b = beqH a b
  | [], [] => rfl
  | [], _ :: _ => rfl
  | _ :: _, [] => rfl
  | x :: a, y :: b => by
    show (bif beqOS x y then beqHS a b else false) = _
    rw [beqOS_eq, beqHS_eq a b]
    simp only [beqH]
    cases beqO x y <;> simp

/- trees of arguments -/
def fillL : List AV → Nat → List AV → List AV
  | [], _, L => L
  | x :: l, i, L => fillL l (i + 1) (L.set i x)

theorem TR.fill {n : Nat} : ∀ (l : List AV) (i : Nat) (T : RT) (L : List AV), TR n T L → TR n (fillT n l i T) (fillL l i L)
  | [], _, _, _, h => h
  | x :: l, i, T, L, h => TR.fill l (i + 1) _ _ (h.set i x)

theorem fillL_length : ∀ (l : List AV) (i : Nat) (L : List AV), (fillL l i L).length = L.length
  | [], _, _ => rfl
  | x :: l, i, L => by simp [fillL, fillL_length l]
theorem fillL_get : ∀ (l : List AV) (i : Nat) (L : List AV) (j : Nat), i + l.length ≤ L.length → (fillL l i L)[j]? = if i ≤ j ∧ j < i + l.length then l[j - i]? else L[j]?
  | [], i, L, j, _ => by simp [fillL]; omega
  | x :: l, i, L, j, h => by
    simp only [List.length_cons] at h
    rw [fillL, fillL_get l (i + 1) _ j (by simp; omega)]
    by_cases h1 : i + 1 ≤ j ∧ j < i + 1 + l.length
    · have h2 : i ≤ j ∧ j < i + (x :: l).length := by simp; omega
      rw [if_pos h1, if_pos h2]
      have : j - i = (j - (i + 1)) + 1 := by omega
      rw [this, List.getElem?_cons_succ]
    · rw [if_neg h1]
      by_cases h3 : j = i
      · subst h3
        have h2 : j ≤ j ∧ j < j + (x :: l).length := by simp
        rw [if_pos h2]
        have h5 : j < L.length := by omega
        simp [h5]
      · have h2 : ¬ (i ≤ j ∧ j < i + (x :: l).length) := by simp only [List.length_cons]; omega
        rw [if_neg h2, List.getElem?_set_ne (fun e => h3 e.symm)]

theorem replUndef_eq : ∀ n, replUndef n = List.replicate n AV.undef
  | 0 => rfl
  | n + 1 => by simp [replUndef, replUndef_eq n, List.replicate_succ]

theorem fillL_undef (l : List AV) (n : Nat) (h : l.length ≤ n) : fillL l 0 (List.replicate n AV.undef) = l ++ replUndef (n - l.length) := by
  apply List.ext_getElem?
  intro j
  rw [fillL_get l 0 _ j (by simpa using h), replUndef_eq, List.getElem?_append]
  by_cases hj : j < l.length
  · simp [hj]
  · rw [if_neg (by omega), if_neg hj, List.getElem?_replicate, List.getElem?_replicate]
    by_cases h2 : j < n
    · have h3 : j - l.length < n - l.length := by omega
      simp [h2, h3]
    · have h3 : ¬ j - l.length < n - l.length := by omega
      simp [h2, h3]

theorem TR.none (n : Nat) : TR n .e (List.replicate n AV.undef) :=
  ⟨by simp, fun k hk => by rw [gc_e, List.getD_eq_getElem?_getD, List.getElem?_replicate]; simp [hk]⟩

theorem TR.args {l : List AV} {n : Nat} (h : l.length ≤ n) : TR n (fillT n l 0 .e) (l ++ replUndef (n - l.length)) := by
  have := TR.fill l 0 _ _ (TR.none n)
  rwa [fillL_undef l n h] at this

theorem TR.toL {n : Nat} {T : RT} {L : List AV} (h : TR n T L) : toL n T = L := by
  apply List.ext_getElem?
  intro j
  simp only [Dt.toL, List.getElem?_map]
  by_cases hj : j < n
  · rw [List.getElem?_range hj]
    simp only [Option.map_some]
    rw [h.getC, List.getD_eq_getElem?_getD]
    have : j < L.length := by rw [h.len]; exact hj
    simp [this]
  · rw [List.getElem?_eq_none (by simpa using Nat.le_of_not_lt hj), List.getElem?_eq_none (by rw [h.len]; omega)]
    rfl

theorem sameL_ok {T : RT} {n : Nat} {L : List AV} (h : TR n T L) {op : Op} {v : AV} : ∀ {l : List St}, sameL v (fun σ => (readC D n op).run σ T) l = true → l.all (sameAt D L op v) = true
  | [], _ => rfl
  | σ :: l, hs => by
    simp only [sameL] at hs
    split at hs
    · rename_i v' hv'
      have h1 := readC_le (D := D) h σ op v' hv'
      rw [beqAS_eq] at hs
      cases hb : beqA v' v with
      | false => rw [hb] at hs; cases hs
      | true =>
        rw [hb] at hs
        simp only [List.all_cons, sameAt, h1, hb, Bool.true_and]
        exact sameL_ok h hs
    · cases hs

theorem planC_le (hc : CLe call call') (hr : ∀ l args σ, Le (round l args σ) (round' l args σ)) {n : Nat} {isRound : Bool} {ops : Array Oper}
    {K : Kont ρ} {K' : List AV → List ADef → Pan → St → R ρ} {Kp' : AV → List AV → List ADef → Pan → St → R ρ} (hK : KLe n K K') :
    ∀ (l : List PlanItem) (snaps : List St) {T : RT} {L : List AV} (_ : TR n T L) (ds : List ADef) (pan : Pan) (σ : St),
    Le ((planC ρ D n isRound ops l).run call round snaps T ds pan σ K) (runDraw D call' round' isRound ops l snaps L ds pan σ >>= kon K' Kp') := by
  intro l
  induction l with
  | nil => intro snaps T L h ds pan σ; exact hK _ _ _ _ _ h
  | cons it l ih =>
    intro snaps T L h ds pan σ
    show Le ((itemC ρ D n isRound ops it (planC ρ D n isRound ops l)).run call round snaps T ds pan σ K) _
    unfold itemC
    split
    · exact Le.error
    · rename_i o ho
      -- the operation itself
      have hgo : wantedA ops o L = true → Le ((match it.act with
          | true => (⟨fun call round snaps T ds pan σ K =>
              bif bndAll σ.n (argsC D n o.op.operands.toList T) then
                (oneC ρ D n isRound o).run call round T ds pan σ (fun T ds pan σ' => bif Nat.ble σ.n σ'.n then (planC ρ D n isRound ops l).run call round (σ' :: snaps) T ds pan σ' K else .error "runDraw n")
                  (fun _ _ _ _ _ => .error "panic in a drawn region")
              else .error "runDraw ids"⟩ : DC ρ)
          | false =>
            (match clsD D o.op with
            | .pure => ⟨fun call round snaps T ds pan σ K =>
                match (pureC D n o.op).run T with
                | .ok v => (planC ρ D n isRound ops l).run call round snaps ((putC n o.dst).run v T) ds pan σ K
                | .error e => .error e⟩
            | .read => ⟨fun call round snaps T ds pan σ K =>
                match (readC D n o.op).run σ T with
                | .ok v =>
                  bif Nat.blt it.lo snaps.length then
                    bif sameL v (fun σ => (readC D n o.op).run σ T) (snaps.take (Nat.sub snaps.length it.lo)) then (planC ρ D n isRound ops l).run call round snaps ((putC n o.dst).run v T) ds pan σ K else .error "unstable read"
                  else .error "unstable read"
                | .error e => .error e⟩
            | .alloc => ⟨fun call round snaps T ds pan σ K =>
                match allocOp D (fun x => (opd D n x).run T) o.op σ.n with
                | .ok r => (match r with
                  | ⟨v, ob⟩ => bif bndO (Nat.succ σ.n) ob then (planC ρ D n isRound ops l).run call round snaps ((putC n o.dst).run v T) ds pan (σ.push ob) K else .error "runDraw object")
                | .error e => .error e⟩
            | .act => ⟨fun _ _ _ _ _ _ _ _ => .error "runDraw"⟩)).run call round snaps T ds pan σ K)
          (runDraw D call' round' isRound ops (it :: l) snaps L ds pan σ >>= kon K' Kp') := by
        intro hw
        have hD : runDraw D call' round' isRound ops (it :: l) snaps L ds pan σ =
            (if it.act then do
              if o.op.operands.toList.all fun x => bndA σ.n (evalO D L x) then do
                let r ← runOne D call' round' isRound o L ds pan σ
                match r with
                | .go T ds pan σ' => if σ.n ≤ σ'.n then runDraw D call' round' isRound ops l (σ' :: snaps) T ds pan σ' else .error "runDraw n"
                | .panic .. => .error "panic in a drawn region"
              else .error "runDraw ids"
            else
              match clsD D o.op with
              | .pure => do
                let v ← pureOp D (evalO D L) o.op
                runDraw D call' round' isRound ops l snaps (put L o.dst v) ds pan σ
              | .read => do
                let v ← readOp D σ (evalO D L) o.op
                if it.lo < snaps.length && (snaps.take (snaps.length - it.lo)).all (sameAt D L o.op v) then
                  runDraw D call' round' isRound ops l snaps (put L o.dst v) ds pan σ
                else .error "unstable read"
              | .alloc => do
                let (v, ob) ← allocOp D (evalO D L) o.op σ.n
                if bndO (σ.n + 1) ob then runDraw D call' round' isRound ops l snaps (put L o.dst v) ds pan (σ.push ob) else .error "runDraw object"
              | .act => .error "runDraw") := by
          conv => lhs; unfold runDraw
          simp only [ho, hw, if_true]
          cases it.act with
          | true => rfl
          | false =>
            simp only [Bool.false_eq_true, if_false]
            cases clsD D o.op <;> rfl
        rw [hD]
        cases hact : it.act with
        | true =>
          simp only [if_true]
          rw [argsC_eq h, bndAll_eq, List.all_map]
          cases hb : (o.op.operands.toList.all fun x => bndA σ.n (evalO D L x)) with
          | false =>
            have : (o.op.operands.toList.all ((fun x => bndA σ.n x) ∘ evalO D L)) = false := hb
            rw [this]
            exact Le.error
          | true =>
            have : (o.op.operands.toList.all ((fun x => bndA σ.n x) ∘ evalO D L)) = true := hb
            rw [this]
            simp only [cond_true, if_true]
            have h1 := oneC_le (D := D) hc hr (isRound := isRound) (o := o) h ds pan σ
              (K := fun T ds pan σ' => bif Nat.ble σ.n σ'.n then (planC ρ D n isRound ops l).run call round (σ' :: snaps) T ds pan σ' K else .error "runDraw n")
              (K' := fun L ds pan σ' => (if σ.n ≤ σ'.n then runDraw D call' round' isRound ops l (σ' :: snaps) L ds pan σ' else .error "runDraw n") >>= kon K' Kp')
              (Kp := fun _ _ _ _ _ => .error "panic in a drawn region") (Kp' := fun _ _ _ _ _ => .error "panic in a drawn region")
              (fun T L ds pan σ' hT => by
                simp only [ble_eq']
                by_cases hn : σ.n ≤ σ'.n
                · simp only [hn, decide_true, cond_true, if_true]; exact ih _ hT ds pan σ'
                · simp only [hn, decide_false, cond_false]; exact Le.error) (fun _ _ _ _ _ _ _ => Le.error)
            refine Le.trans h1 (Le.of_eq ?_)
            rw [bind_assoc']
            congr 1
            funext r
            cases r <;> rfl
        | false =>
          simp only [Bool.false_eq_true, if_false]
          cases hcl : clsD D o.op with
          | pure =>
            simp only
            rw [bind_assoc']
            refine Le.step (pureC_le h o.op) (fun e he => ⟨e, by rw [he]⟩) fun v hv => ?_
            rw [hv]
            exact ih _ (h.put _ _) ds pan σ
          | read =>
            simp only
            rw [bind_assoc']
            refine Le.step (readC_le h σ o.op) (fun e he => ⟨e, by rw [he]⟩) fun v hv => ?_
            rw [hv]
            simp only
            rw [blt_eq]
            by_cases hlo : it.lo < snaps.length
            · simp only [hlo, decide_true, cond_true, Bool.true_and]
              cases hs : sameL v (fun σ => (readC D n o.op).run σ T) (snaps.take (Nat.sub snaps.length it.lo)) with
              | false => exact Le.error
              | true =>
                have h2 : (snaps.take (snaps.length - it.lo)).all (sameAt D L o.op v) = true := sameL_ok h hs
                simp only [cond_true, h2, if_true]
                exact ih _ (h.put _ _) ds pan σ
            · simp only [hlo, decide_false, cond_false]; exact Le.error
          | alloc =>
            simp only [h.opds]
            rw [bind_assoc']
            refine Le.step (Le.refl (allocOp D (evalO D L) o.op σ.n)) (fun e he => ⟨e, by rw [he]⟩) fun r hr => ?_
            rw [hr]
            obtain ⟨v, ob⟩ := r
            simp only
            cases hb : bndO (σ.n + 1) ob with
            | false => exact Le.error
            | true =>
              simp only [cond_true, if_true]
              exact ih _ (h.put _ _) ds pan _
          | act => exact Le.error
      simp only
      split
      · rename_i hg
        exact hgo (guardC_none hg L)
      · rename_i g want hg
        simp only [guardC_some hg h]
        cases hw : wantedA ops o L with
        | true => exact hgo hw
        | false =>
          simp only [cond_false]
          refine Le.trans (ih _ (h.put _ _) ds pan σ) (Le.of_eq ?_)
          conv => rhs; unfold runDraw
          simp only [ho, hw, Bool.false_eq_true, if_false]
          cases it.act <;> rfl

theorem beqLS_fun : beqLS = beqL := funext fun a => funext fun b => beqLS_eq a b
theorem beqHS_fun : beqHS = beqH := funext fun a => funext fun b => beqHS_eq a b

theorem regionC_le (hc : CLe call call') (hr : ∀ l args σ, Le (round l args σ) (round' l args σ)) {n : Nat} {isRound : Bool} {ops : Array Oper} {draw : Bool}
    {K : Kont ρ} {K' : List AV → List ADef → Pan → St → R ρ} {Kp : KPan ρ} {Kp' : AV → List AV → List ADef → Pan → St → R ρ} (hK : KLe n K K') (hKp : KPLe n Kp Kp')
    {T : RT} {L : List AV} (h : TR n T L) (ds : List ADef) (pan : Pan) (σ : St) :
    Le ((regionC ρ D n isRound ops draw).run call round T ds pan σ K Kp) (runRegion D call' round' isRound ops draw L ds pan σ >>= kon K' Kp') := by
  unfold regionC runRegion
  cases draw with
  | false => exact seqC_le hc hr hK hKp _ h ds pan σ
  | true =>
    simp only [if_true]
    cases hok : drawOkF ops (D.cut ops) with
    | false => exact Le.error
    | true =>
      simp only [drawOkF_ok hok, if_true, cond_true]
      have hplan : keepF (D.cut ops) (planOf ops) = planM ops (D.cut ops) := keepF_eq _ _
      rw [hplan]
      have hD : (do
          let r ← runDraw D call' round' isRound ops (planM ops (D.cut ops)) [σ] L ds pan σ
          match r with
          | .go T ds pan σ =>
            if ops.size = D.cut ops + 1 then
              if canE ops (D.cut ops) 0 (D.cut ops) then runSeq D call' round' isRound ops (ops.toList.drop (D.cut ops)) T ds pan σ else .error "last"
            else do
            let r ← runRest D beqL beqH ops (D.cut ops) T σ
            return .go r.1 ds pan r.2
          | .panic .. => .error "panic in a drawn region" : R OpEnd) >>= kon K' Kp' =
          (runDraw D call' round' isRound ops (planM ops (D.cut ops)) [σ] L ds pan σ >>= kon (fun T ds pan σ =>
            if ops.size = D.cut ops + 1 then
              if canE ops (D.cut ops) 0 (D.cut ops) then runSeq D call' round' isRound ops (ops.toList.drop (D.cut ops)) T ds pan σ >>= kon K' Kp' else .error "last"
            else runRest D beqL beqH ops (D.cut ops) T σ >>= fun r => K' r.1 ds pan r.2) fun _ _ _ _ _ => .error "panic in a drawn region") := by
        rw [bind_assoc']
        congr 1
        funext r
        cases r with
        | go T ds pan σ =>
          simp only [kon]
          split
          · split <;> rfl
          · rw [bind_assoc']
            rfl
        | panic => rfl
      refine Le.trans ?_ (Le.of_eq hD.symm)
      rw [ble_eq']
      by_cases hle : ops.toList.length ≤ D.cut ops
      · simp only [hle, decide_true, cond_true]
        refine planC_le hc hr (fun T L ds pan σ hT => ?_) _ _ h ds pan σ
        have hs : ops.size ≤ D.cut ops := by simpa using hle
        rw [if_neg (by omega)]
        have : runRest D beqL beqH ops (D.cut ops) L σ = .ok (L, σ) := by unfold runRest; rw [if_pos hs]
        rw [this]
        exact hK _ _ _ _ _ hT
      · simp only [hle, decide_false, cond_false]
        rw [beq_eq]
        by_cases hone : ops.toList.length = Nat.succ (D.cut ops)
        · simp only [hone, decide_true, cond_true]
          have hs : ops.size = D.cut ops + 1 := by simpa using hone
          cases hcan : canE ops (D.cut ops) 0 (D.cut ops) with
          | false => exact Le.error
          | true =>
            simp only [cond_true]
            refine planC_le hc hr (fun T L ds pan σ hT => ?_) _ _ h ds pan σ
            rw [if_pos hs, if_pos trivial]
            exact seqC_le hc hr hK hKp _ hT ds pan σ
        simp only [hone, decide_false, cond_false]
        refine planC_le hc hr (fun T L ds pan σ hT => ?_) _ _ h ds pan σ
        have hs : ¬ ops.size = D.cut ops + 1 := by simpa using hone
        rw [if_neg hs]
        unfold restC
        rw [beqLS_fun, beqHS_fun, hT.toL]
        refine Le.step (Le.refl _) (fun e he => ⟨e, by rw [he]⟩) fun r hr => ?_
        rw [hr]
        obtain ⟨L', σ'⟩ := r
        simp only
        rw [beq_eq, lenL_eq]
        by_cases hlen : L'.length = n
        · simp only [hlen, decide_true, cond_true]
          have hT' : TR n (fillT n L' 0 .e) L' := by
            have := TR.args (l := L') (n := n) (by rw [hlen]; exact Nat.le_refl _)
            rw [hlen, Nat.sub_self] at this
            simpa [replUndef] using this
          exact hK _ _ _ _ _ hT'
        · simp only [hlen, decide_false, cond_false]; exact Le.error

end
end Go.Dt
