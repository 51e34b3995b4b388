/-
  The staged reading says no more than the plain one: regions. No statement of this seat stands here.
-/
import Derived.Test.YtkpkmjanikkpoaaGreatDoorP09
import Derived.Test.YtkpkmjanikkpoaaGreatDoorP07
import Derived.ChangeSame
import Derived.RowKit
namespace Go.Dt

def CLe (c c' : CallT) : Prop := ∀ f args σ, Le (c f args σ) (c' f args σ)

def KLe {ρ : Type} (n : Nat) (K : Kont ρ) (K' : List AV → List ADef → Pan → St → R ρ) : Prop :=
  ∀ T L ds pan σ, TR n T L → Le (K T ds pan σ) (K' L ds pan σ)
def KPLe {ρ : Type} (n : Nat) (K : KPan ρ) (K' : AV → List AV → List ADef → Pan → St → R ρ) : Prop :=
  ∀ v T L ds pan σ, TR n T L → Le (K v T ds pan σ) (K' v L ds pan σ)

/-- what comes behind a region's end -/
def kon {ρ : Type} (K : List AV → List ADef → Pan → St → R ρ) (Kp : AV → List AV → List ADef → Pan → St → R ρ) : OpEnd → R ρ
  | .go L ds pan σ => K L ds pan σ
  | .panic v L ds pan σ => Kp v L ds pan σ

theorem bind_assoc' {α β γ : Type} (x : R α) (f : α → R β) (g : β → R γ) : (x >>= f) >>= g = x >>= fun a => f a >>= g := by
  cases x <;> rfl

section
variable {D : Tab} {ρ : Type} {call call' : CallT} {round round' : RoundT}

theorem nextC_le (hc : CLe call call') (hr : ∀ l args σ, Le (round l args σ) (round' l args σ)) {n : Nat} {isRound : Bool} {o : Oper} {T : RT} {L : List AV} (h : TR n T L) (ds : List ADef) (pan : Pan) (σ : St)
    {K : Kont ρ} {K' : List AV → List ADef → Pan → St → R ρ} {Kp : KPan ρ} {Kp' : AV → List AV → List ADef → Pan → St → R ρ} (hK : KLe n K K') (hKp : KPLe n Kp Kp') (nx : ANext)
    {σ0 : St} (he : execOp D (evalO D L) σ0 o.op = .ok (nx, σ)) :
    Le (nextC ρ isRound (putC n o.dst) call round nx T ds pan σ K Kp) (runOne D call' round' isRound o L ds pan σ0 >>= kon K' Kp') := by
  simp only [runOne, he]
  cases nx with
  | value v => exact hK _ _ _ _ _ (h.put _ _)
  | skip => exact hK _ _ _ _ _ (h.put _ _)
  | defer d =>
    cases isRound with
    | true => exact Le.error
    | false => exact hK _ _ _ _ _ (h.put _ _)
  | recover =>
    cases isRound with
    | true => exact Le.error
    | false =>
      simp only [nextC, cond_false]
      cases pan with
      | none => exact hK _ _ _ _ _ (h.put _ _)
      | some p =>
        obtain ⟨v, r⟩ := p
        cases r with
        | false => exact hK _ _ _ _ _ (h.put _ _)
        | true => exact hK _ _ _ _ _ (h.put _ _)
  | panic v => exact hKp _ _ _ _ _ _ h
  | enter f args =>
    simp only [nextC]
    have := hc f args σ
    show Le _ ((call' f args σ >>= fun (x : AEnd × St) => _) >>= _)
    rw [bind_assoc']
    refine Le.step this (fun e he => ⟨e, by rw [he]⟩) fun a ha => ?_
    rw [ha]
    obtain ⟨e, σ1⟩ := a
    cases e with
    | ret v => exact hK _ _ _ _ _ (h.put _ _)
    | panic v => exact hKp _ _ _ _ _ _ h
  | round l args =>
    simp only [nextC]
    have := hr l args σ
    show Le _ ((round' l args σ >>= fun (x : AEnd × St) => _) >>= _)
    rw [bind_assoc']
    refine Le.step this (fun e he => ⟨e, by rw [he]⟩) fun a ha => ?_
    rw [ha]
    obtain ⟨e, σ1⟩ := a
    cases e with
    | ret v => exact hK _ _ _ _ _ (h.put _ _)
    | panic v => exact hKp _ _ _ _ _ _ h

theorem oneC_le (hc : CLe call call') (hr : ∀ l args σ, Le (round l args σ) (round' l args σ)) {n : Nat} {isRound : Bool} {o : Oper} {T : RT} {L : List AV} (h : TR n T L) (ds : List ADef) (pan : Pan) (σ : St)
    {K : Kont ρ} {K' : List AV → List ADef → Pan → St → R ρ} {Kp : KPan ρ} {Kp' : AV → List AV → List ADef → Pan → St → R ρ} (hK : KLe n K K') (hKp : KPLe n Kp Kp') :
    Le ((oneC ρ D n isRound o).run call round T ds pan σ K Kp) (runOne D call' round' isRound o L ds pan σ >>= kon K' Kp') := by
  unfold oneC
  split
  · rename_i hcls
    intro a ha
    simp only at ha
    cases hp : (pureC D n o.op).run T with
    | error e => rw [hp] at ha; cases ha
    | ok v =>
      rw [hp] at ha
      have h1 := pureC_le (D := D) h o.op v hp
      have he : execOp D (evalO D L) σ o.op = .ok (.value v, σ) := by
        simp only [execOp, hcls, h1]; rfl
      simp only [runOne, he]
      exact hK _ _ _ _ _ (h.put _ _) a ha
  · rename_i hcls
    intro a ha
    simp only at ha
    cases hp : (readC D n o.op).run σ T with
    | error e => rw [hp] at ha; cases ha
    | ok v =>
      rw [hp] at ha
      have h1 := readC_le (D := D) h σ o.op v hp
      have he : execOp D (evalO D L) σ o.op = .ok (.value v, σ) := by
        simp only [execOp, hcls, h1]; rfl
      simp only [runOne, he]
      exact hK _ _ _ _ _ (h.put _ _) a ha
  · rename_i hcls
    intro a ha
    obtain ⟨m, l, M⟩ := σ
    simp only [h.opds] at ha
    cases hp : allocOp D (evalO D L) o.op m with
    | error e => rw [hp] at ha; cases ha
    | ok r =>
      obtain ⟨v, ob⟩ := r
      rw [hp] at ha
      have he : execOp D (evalO D L) ⟨m, l, M⟩ o.op = .ok (.value v, ⟨m + 1, ob :: l, M⟩) := by
        simp only [execOp, hcls, hp]; rfl
      simp only [runOne, he]
      exact hK _ _ _ _ _ (h.put _ _) a ha
  · rename_i hcls
    intro a ha
    simp only at ha
    cases hp : (actC D n o.op).run σ T with
    | error e => rw [hp] at ha; cases ha
    | ok r =>
      obtain ⟨nx, σ1⟩ := r
      rw [hp] at ha
      have h1 := actC_le (D := D) h σ o.op _ hp
      have he : execOp D (evalO D L) σ o.op = .ok (nx, σ1) := by
        simp only [execOp, hcls, h1]
      exact nextC_le hc hr h ds pan σ1 hK hKp nx he a ha

theorem isB_eq (v : AV) (want : Bool) : isB v want = ((match v with | .base (.bool b) => some b | _ => none) == some want) := by
  cases v with
  | base v => cases v with
    | bool b => cases b <;> cases want <;> rfl
    | _ => rfl
  | _ => rfl

theorem guardC_none {n : Nat} {ops : Array Oper} {o : Oper} (h : guardC n ops o.guard = none) (L : List AV) : wantedA ops o L = true := by
  unfold guardC at h
  unfold wantedA
  split at h
  · rename_i hg; rw [hg]
  · split at h <;> cases h

theorem guardC_some {n : Nat} {ops : Array Oper} {o : Oper} {g : GC} {want : Bool} (h : guardC n ops o.guard = some (g, want)) {T : RT} {L : List AV} (hT : TR n T L) :
    isB (g.run T) want = wantedA ops o L := by
  unfold guardC at h
  unfold wantedA
  split at h
  · cases h
  · rename_i j w hg
    rw [hg]
    rw [isB_eq]
    unfold yieldedA
    split at h
    · rename_i d hd
      simp only [Option.some.injEq, Prod.mk.injEq] at h
      obtain ⟨rfl, rfl⟩ := h
      rw [hT.getC, List.getD_eq_getElem?_getD]
      simp only [hd, Option.bind_some]
      cases hL : L[d]? with
      | none => simp [AV.undef]
      | some v =>
        simp only [Option.getD_some]
        cases v with
        | base v => cases v <;> rfl
        | _ => rfl
    · rename_i hd
      simp only [Option.some.injEq, Prod.mk.injEq] at h
      obtain ⟨rfl, rfl⟩ := h
      simp [hd, AV.undef]

theorem seqC_le (hc : CLe call call') (hr : ∀ l args σ, Le (round l args σ) (round' l args σ)) {n : Nat} {isRound : Bool} {ops : Array Oper}
    {K : Kont ρ} {K' : List AV → List ADef → Pan → St → R ρ} {Kp : KPan ρ} {Kp' : AV → List AV → List ADef → Pan → St → R ρ} (hK : KLe n K K') (hKp : KPLe n Kp Kp') :
    ∀ (l : List Oper) {T : RT} {L : List AV} (_ : TR n T L) (ds : List ADef) (pan : Pan) (σ : St),
    Le ((seqC ρ D n isRound ops l).run call round T ds pan σ K Kp) (runSeq D call' round' isRound ops l L ds pan σ >>= kon K' Kp') := by
  intro l
  induction l with
  | nil => intro T L h ds pan σ; exact hK _ _ _ _ _ h
  | cons o l ih =>
    intro T L h ds pan σ
    have hgo : wantedA ops o L = true → Le ((oneC ρ D n isRound o).run call round T ds pan σ (fun T ds pan σ => (seqC ρ D n isRound ops l).run call round T ds pan σ K Kp) Kp)
        (runSeq D call' round' isRound ops (o :: l) L ds pan σ >>= kon K' Kp') := by
      intro hw
      have := oneC_le (D := D) hc hr (isRound := isRound) (o := o) h ds pan σ (K := fun T ds pan σ => (seqC ρ D n isRound ops l).run call round T ds pan σ K Kp)
        (K' := fun L ds pan σ => runSeq D call' round' isRound ops l L ds pan σ >>= kon K' Kp') (fun T L ds pan σ h => ih h ds pan σ) hKp
      refine Le.trans this (Le.of_eq ?_)
      simp only [runSeq, hw, if_true]
      rw [bind_assoc']
      congr 1
      funext r
      cases r <;> rfl
    have hcons : seqC ρ D n isRound ops (o :: l) = (match guardC n ops o.guard with
      | none => ⟨fun call round T ds pan σ K Kp => (oneC ρ D n isRound o).run call round T ds pan σ (fun T ds pan σ => (seqC ρ D n isRound ops l).run call round T ds pan σ K Kp) Kp⟩
      | some (g, want) => ⟨fun call round T ds pan σ K Kp =>
          bif isB (g.run T) want then (oneC ρ D n isRound o).run call round T ds pan σ (fun T ds pan σ => (seqC ρ D n isRound ops l).run call round T ds pan σ K Kp) Kp
          else (seqC ρ D n isRound ops l).run call round ((putC n o.dst).run .undef T) ds pan σ K Kp⟩) := rfl
    rw [hcons]
    split
    · rename_i hg
      exact hgo (guardC_none hg L)
    · rename_i g want hg
      simp only [guardC_some hg h]
      cases hw : wantedA ops o L with
      | true => exact hgo hw
      | false =>
        simp only [cond_false]
        refine Le.trans (ih (h.put _ _) ds pan σ) (Le.of_eq ?_)
        simp only [runSeq, hw, Bool.false_eq_true, if_false]

theorem bndAll_eq (n : Nat) : ∀ l : List AV, bndAll n l = l.all fun x => bndA n x
  | [] => rfl
  | v :: l => by
    simp only [bndAll, List.all_cons]
    cases bndA n v with
    | true => simp [bndAll_eq n l]
    | false => simp

theorem u8_eq (a b : UInt8) : Nat.beq a.toNat b.toNat = (a == b) := by
  rw [beq_eq]
  by_cases h : a = b
  · subst h; simp
  · have : ¬ a.toNat = b.toNat := fun e => h (UInt8.toNat_inj.1 e)
    simp [h, this]

theorem eqBytes_eq : ∀ a b : List UInt8, eqBytes a b = (a == b)
  | [], [] => rfl
  | [], _ :: _ => rfl
  | _ :: _, [] => rfl
  | x :: a, y :: b => by
    show (bif Nat.beq x.toNat y.toNat then eqBytes a b else false) = _
    rw [u8_eq, eqBytes_eq a b]
    cases h : x == y <;> simp_all

theorem eqVS_eq (a b : Value) : eqVS a b = beqBase a b := by
  unfold eqVS
  split
  · rename_i k m
    split
    · rename_i k' n
      rw [same_eq, eqI_eq]
      simp only [beqBase]
      by_cases h : k = k'
      · subst h; simp
      · simp [h]
    · rename_i hne
      cases b <;> first | rfl | (exact (hne _ _ rfl).elim)
  · rename_i x
    split
    · rename_i y; cases x <;> cases y <;> rfl
    · rename_i hne
      cases b <;> first | rfl | (exact (hne _ rfl).elim)
  · rfl

theorem beqA0_eq (a b : AV) : beqA0 a b = beqA a b := by
  unfold beqA0
  split
  · rename_i x
    split
    · rename_i y; rw [eqVS_eq]; rfl
    · rename_i hne
      cases b <;> first | rfl | (exact (hne _ rfl).elim)
  · rfl
theorem beqL0_eq : ∀ a b : List AV, beqL0 a b = beqL a b
  | [], [] => rfl
  | [], _ :: _ => rfl
  | _ :: _, [] => rfl
  | x :: a, y :: b => by
    show (bif beqA0 x y then beqL0 a b else false) = _
    rw [beqA0_eq, beqL0_eq a b]
    simp only [beqL]
    cases beqA x y <;> simp
theorem beqAS_eq (a b : AV) : beqAS a b = beqA a b := by
  cases a with
  | base x =>
    cases b with
    | base y => exact eqVS_eq x y
    | _ => rfl
  | agg l =>
    cases b with
    | agg l' => exact beqL0_eq l l'
    | _ => rfl
  | _ => rfl

theorem beqLS_eq : ∀ a b : List AV, beqLS a b = beqL a b
  | [], [] => rfl
  | [], _ :: _ => rfl
  | _ :: _, [] => rfl
  | x :: a, y :: b => by
    show (bif beqAS x y then beqLS a b else false) = _
    rw [beqAS_eq, beqLS_eq a b]
    simp only [beqL]
    cases beqA x y <;> simp

theorem beqOS_eq (a b : AO) : beqOS a b = beqO a b := by
  cases a with
  | cells cs e o s =>
    cases b with
    | cells cs' e' o' s' =>
      show (bif Nat.beq e e' then bif (bif o then o' else !o') then bif Nat.beq s s' then beqLS cs cs' else false else false else false) = _
      simp only [beqO, beq_eq, beqLS_eq]
      have ho : (bif o then o' else !o') = (o == o') := by cases o <;> cases o' <;> rfl
      rw [ho]
      by_cases h1 : e = e' <;> by_cases h2 : s = s' <;> cases h3 : o == o' <;> simp [h1, h2]
    | _ => rfl
  | gone => cases b <;> rfl
  | _ => rfl

theorem beqHS_eq : ∀ a b : List AO, beqHS a b = beqH a b
  | [], [] => rfl
  | [], _ :: _ => rfl
  | _ :: _, [] => rfl
  | x :: a, y :: b => by
    show (bif beqOS x y then beqHS a b else false) = _
    rw [beqOS_eq, beqHS_eq a b]
    simp only [beqH]
    cases beqO x y <;> simp

/- trees of arguments -/
def fillL : List AV → Nat → List AV → List AV
  | [], _, L => L
  | x :: l, i, L => fillL l (i + 1) (L.set i x)

theorem TR.fill {n : Nat} : ∀ (l : List AV) (i : Nat) (T : RT) (L : List AV), TR n T L → TR n (fillT n l i T) (fillL l i L)
  | [], _, _, _, h => h
  | x :: l, i, _, _, h => TR.fill l (i + 1) _ _ (h.set i x)

theorem fillL_length : ∀ (l : List AV) (i : Nat) (L : List AV), (fillL l i L).length = L.length
  | [], _, _ => rfl
  | x :: l, i, L => by simp [fillL, fillL_length l]
theorem fillL_get : ∀ (l : List AV) (i : Nat) (L : List AV) (j : Nat), i + l.length ≤ L.length → (fillL l i L)[j]? = if i ≤ j ∧ j < i + l.length then l[j - i]? else L[j]?
  | [], i, L, j, _ => by simp [fillL]; omega
  | x :: l, i, L, j, h => by
    simp only [List.length_cons] at h
    rw [fillL, fillL_get l (i + 1) _ j (by simp; omega)]
    by_cases h1 : i + 1 ≤ j ∧ j < i + 1 + l.length
    · have h2 : i ≤ j ∧ j < i + (x :: l).length := by simp; omega
      rw [if_pos h1, if_pos h2]
      have : j - i = (j - (i + 1)) + 1 := by omega
      rw [this, List.getElem?_cons_succ]
    · rw [if_neg h1]
      by_cases h3 : j = i
      · subst h3
        have h2 : j ≤ j ∧ j < j + (x :: l).length := by simp
        rw [if_pos h2]
        have h5 : j < L.length := by omega
        simp [h5]
      · have h2 : ¬ (i ≤ j ∧ j < i + (x :: l).length) := by simp only [List.length_cons]; omega
        rw [if_neg h2, List.getElem?_set_ne (fun e => h3 e.symm)]

theorem replUndef_eq : ∀ n, replUndef n = List.replicate n AV.undef
  | 0 => rfl
  | n + 1 => by simp [replUndef, replUndef_eq n, List.replicate_succ]

theorem fillL_undef (l : List AV) (n : Nat) (h : l.length ≤ n) : fillL l 0 (List.replicate n AV.undef) = l ++ replUndef (n - l.length) := by
  apply List.ext_getElem?
  intro j
  rw [fillL_get l 0 _ j (by simpa using h), replUndef_eq, List.getElem?_append]
  by_cases hj : j < l.length
  · simp [hj]
  · rw [if_neg (by omega), if_neg hj, List.getElem?_replicate, List.getElem?_replicate]
    by_cases h2 : j < n
    · have h3 : j - l.length < n - l.length := by omega
      simp [h2, h3]
    · have h3 : ¬ j - l.length < n - l.length := by omega
      simp [h2, h3]

theorem TR.none (n : Nat) : TR n .e (List.replicate n AV.undef) :=
  ⟨by simp, fun k hk => by rw [gc_e, List.getD_eq_getElem?_getD, List.getElem?_replicate]; simp [hk]⟩

theorem TR.args {l : List AV} {n : Nat} (h : l.length ≤ n) : TR n (fillT n l 0 .e) (l ++ replUndef (n - l.length)) := by
  have := TR.fill l 0 _ _ (TR.none n)
  rwa [fillL_undef l n h] at this

theorem TR.toL {n : Nat} {T : RT} {L : List AV} (h : TR n T L) : toL n T = L := by
  apply List.ext_getElem?
  intro j
  simp only [Dt.toL, List.getElem?_map]
  by_cases hj : j < n
  · rw [List.getElem?_range hj]
    simp only [Option.map_some]
    rw [h.getC, List.getD_eq_getElem?_getD]
    have : j < L.length := by rw [h.len]; exact hj
    simp [this]
  · rw [List.getElem?_eq_none (by simpa using Nat.le_of_not_lt hj), List.getElem?_eq_none (by rw [h.len]; omega)]
    rfl

theorem sameL_ok {T : RT} {n : Nat} {L : List AV} (h : TR n T L) {op : Op} {v : AV} : ∀ {l : List St}, sameL v (fun σ => (readC D n op).run σ T) l = true → l.all (sameAt D L op v) = true
  | [], _ => rfl
  | σ :: l, hs => by
    simp only [sameL] at hs
    split at hs
    · rename_i v' hv'
      have h1 := readC_le (D := D) h σ op v' hv'
      rw [beqAS_eq] at hs
      cases hb : beqA v' v with
      | false => rw [hb] at hs; cases hs
      | true =>
        rw [hb] at hs
        simp only [List.all_cons, sameAt, h1, hb, Bool.true_and]
        exact sameL_ok h hs
    · cases hs

theorem planC_le (hc : CLe call call') (hr : ∀ l args σ, Le (round l args σ) (round' l args σ)) {n : Nat} {isRound : Bool} {ops : Array Oper}
    {K : Kont ρ} {K' : List AV → List ADef → Pan → St → R ρ} {Kp' : AV → List AV → List ADef → Pan → St → R ρ} (hK : KLe n K K') :
    ∀ (l : List PlanItem) (snaps : List St) {T : RT} {L : List AV} (_ : TR n T L) (ds : List ADef) (pan : Pan) (σ : St),
    Le ((planC ρ D n isRound ops l).run call round snaps T ds pan σ K) (runDraw D call' round' isRound ops l snaps L ds pan σ >>= kon K' Kp') := by
  intro l
  induction l with
  | nil => intro snaps T L h ds pan σ; exact hK _ _ _ _ _ h
  | cons it l ih =>
    intro snaps T L h ds pan σ
    show Le ((itemC ρ D n isRound ops it (planC ρ D n isRound ops l)).run call round snaps T ds pan σ K) _
    unfold itemC
    split
    · exact Le.error
    · rename_i o ho
      -- the operation itself
      have hgo : wantedA ops o L = true → Le ((match it.act with
          | true => (⟨fun call round snaps T ds pan σ K =>
              bif bndAll σ.n (argsC D n o.op.operands.toList T) then
                (oneC ρ D n isRound o).run call round T ds pan σ (fun T ds pan σ' => bif Nat.ble σ.n σ'.n then (planC ρ D n isRound ops l).run call round (σ' :: snaps) T ds pan σ' K else .error "runDraw n")
                  (fun _ _ _ _ _ => .error "panic in a drawn region")
              else .error "runDraw ids"⟩ : DC ρ)
          | false =>
            (match clsD D o.op with
            | .pure => ⟨fun call round snaps T ds pan σ K =>
                match (pureC D n o.op).run T with
                | .ok v => (planC ρ D n isRound ops l).run call round snaps ((putC n o.dst).run v T) ds pan σ K
                | .error e => .error e⟩
            | .read => ⟨fun call round snaps T ds pan σ K =>
                match (readC D n o.op).run σ T with
                | .ok v =>
                  bif Nat.blt it.lo snaps.length then
                    bif sameL v (fun σ => (readC D n o.op).run σ T) (snaps.take (Nat.sub snaps.length it.lo)) then (planC ρ D n isRound ops l).run call round snaps ((putC n o.dst).run v T) ds pan σ K else .error "unstable read"
                  else .error "unstable read"
                | .error e => .error e⟩
            | .alloc => ⟨fun call round snaps T ds pan σ K =>
                match allocOp D (fun x => (opd D n x).run T) o.op σ.n with
                | .ok r => (match r with
                  | ⟨v, ob⟩ => bif bndO (Nat.succ σ.n) ob then (planC ρ D n isRound ops l).run call round snaps ((putC n o.dst).run v T) ds pan (σ.push ob) K else .error "runDraw object")
                | .error e => .error e⟩
            | .act => ⟨fun _ _ _ _ _ _ _ _ => .error "runDraw"⟩)).run call round snaps T ds pan σ K)
          (runDraw D call' round' isRound ops (it :: l) snaps L ds pan σ >>= kon K' Kp') := by
        intro hw
        have hD : runDraw D call' round' isRound ops (it :: l) snaps L ds pan σ =
            (if it.act then do
              if o.op.operands.toList.all fun x => bndA σ.n (evalO D L x) then do
                let r ← runOne D call' round' isRound o L ds pan σ
                match r with
                | .go T ds pan σ' => if σ.n ≤ σ'.n then runDraw D call' round' isRound ops l (σ' :: snaps) T ds pan σ' else .error "runDraw n"
                | .panic .. => .error "panic in a drawn region"
              else .error "runDraw ids"
            else
              match clsD D o.op with
              | .pure => do
                let v ← pureOp D (evalO D L) o.op
                runDraw D call' round' isRound ops l snaps (put L o.dst v) ds pan σ
              | .read => do
                let v ← readOp D σ (evalO D L) o.op
                if it.lo < snaps.length && (snaps.take (snaps.length - it.lo)).all (sameAt D L o.op v) then
                  runDraw D call' round' isRound ops l snaps (put L o.dst v) ds pan σ
                else .error "unstable read"
              | .alloc => do
                let (v, ob) ← allocOp D (evalO D L) o.op σ.n
                if bndO (σ.n + 1) ob then runDraw D call' round' isRound ops l snaps (put L o.dst v) ds pan (σ.push ob) else .error "runDraw object"
              | .act => .error "runDraw") := by
          conv => lhs; unfold runDraw
          simp only [ho, hw, if_true]
          cases it.act with
          | true => rfl
          | false =>
            simp only [Bool.false_eq_true, if_false]
            cases clsD D o.op <;> rfl
        rw [hD]
        cases hact : it.act with
        | true =>
          simp only [if_true]
          rw [argsC_eq h, bndAll_eq, List.all_map]
          cases hb : (o.op.operands.toList.all fun x => bndA σ.n (evalO D L x)) with
          | false =>
            have : (o.op.operands.toList.all ((fun x => bndA σ.n x) ∘ evalO D L)) = false := hb
            rw [this]
            exact Le.error
          | true =>
            have : (o.op.operands.toList.all ((fun x => bndA σ.n x) ∘ evalO D L)) = true := hb
            rw [this]
            simp only [cond_true, if_true]
            have h1 := oneC_le (D := D) hc hr (isRound := isRound) (o := o) h ds pan σ
              (K := fun T ds pan σ' => bif Nat.ble σ.n σ'.n then (planC ρ D n isRound ops l).run call round (σ' :: snaps) T ds pan σ' K else .error "runDraw n")
              (K' := fun L ds pan σ' => (if σ.n ≤ σ'.n then runDraw D call' round' isRound ops l (σ' :: snaps) L ds pan σ' else .error "runDraw n") >>= kon K' Kp')
              (Kp := fun _ _ _ _ _ => .error "panic in a drawn region") (Kp' := fun _ _ _ _ _ => .error "panic in a drawn region")
              (fun T L ds pan σ' hT => by
                simp only [ble_eq']
                by_cases hn : σ.n ≤ σ'.n
                · simp only [hn, decide_true, cond_true, if_true]; exact ih _ hT ds pan σ'
                · simp only [hn, decide_false, cond_false]; exact Le.error) (fun _ _ _ _ _ _ _ => Le.error)
            refine Le.trans h1 (Le.of_eq ?_)
            rw [bind_assoc']
            congr 1
            funext r
            cases r <;> rfl
        | false =>
          simp only [Bool.false_eq_true, if_false]
          cases hcl : clsD D o.op with
          | pure =>
            simp only
            rw [bind_assoc']
            refine Le.step (pureC_le h o.op) (fun e he => ⟨e, by rw [he]⟩) fun v hv => ?_
            rw [hv]
            exact ih _ (h.put _ _) ds pan σ
          | read =>
            simp only
            rw [bind_assoc']
            refine Le.step (readC_le h σ o.op) (fun e he => ⟨e, by rw [he]⟩) fun v hv => ?_
            rw [hv]
            simp only
            rw [blt_eq]
            by_cases hlo : it.lo < snaps.length
            · simp only [hlo, decide_true, cond_true, Bool.true_and]
              cases hs : sameL v (fun σ => (readC D n o.op).run σ T) (snaps.take (Nat.sub snaps.length it.lo)) with
              | false => exact Le.error
              | true =>
                have h2 : (snaps.take (snaps.length - it.lo)).all (sameAt D L o.op v) = true := sameL_ok h hs
                simp only [cond_true, h2, if_true]
                exact ih _ (h.put _ _) ds pan σ
            · simp only [hlo, decide_false, cond_false]; exact Le.error
          | alloc =>
            simp only [h.opds]
            rw [bind_assoc']
            refine Le.step (Le.refl (allocOp D (evalO D L) o.op σ.n)) (fun e he => ⟨e, by rw [he]⟩) fun r hr => ?_
            rw [hr]
            obtain ⟨v, ob⟩ := r
            simp only
            cases hb : bndO (σ.n + 1) ob with
            | false => exact Le.error
            | true =>
              simp only [cond_true, if_true]
              exact ih _ (h.put _ _) ds pan _
          | act => exact Le.error
      simp only
      split
      · rename_i hg
        exact hgo (guardC_none hg L)
      · rename_i g want hg
        simp only [guardC_some hg h]
        cases hw : wantedA ops o L with
        | true => exact hgo hw
        | false =>
          simp only [cond_false]
          refine Le.trans (ih _ (h.put _ _) ds pan σ) (Le.of_eq ?_)
          conv => rhs; unfold runDraw
          simp only [ho, hw, Bool.false_eq_true, if_false]
          cases it.act <;> rfl

theorem beqLS_fun : beqLS = beqL := funext fun a => funext fun b => beqLS_eq a b
theorem beqHS_fun : beqHS = beqH := funext fun a => funext fun b => beqHS_eq a b

theorem regionC_le (hc : CLe call call') (hr : ∀ l args σ, Le (round l args σ) (round' l args σ)) {n : Nat} {isRound : Bool} {ops : Array Oper} {draw : Bool}
    {K : Kont ρ} {K' : List AV → List ADef → Pan → St → R ρ} {Kp : KPan ρ} {Kp' : AV → List AV → List ADef → Pan → St → R ρ} (hK : KLe n K K') (hKp : KPLe n Kp Kp')
    {T : RT} {L : List AV} (h : TR n T L) (ds : List ADef) (pan : Pan) (σ : St) :
    Le ((regionC ρ D n isRound ops draw).run call round T ds pan σ K Kp) (runRegion D call' round' isRound ops draw L ds pan σ >>= kon K' Kp') := by
  unfold regionC runRegion
  cases draw with
  | false => exact seqC_le hc hr hK hKp _ h ds pan σ
  | true =>
    simp only [if_true]
    cases hok : drawOkF ops (D.cut ops) with
    | false => exact Le.error
    | true =>
      simp only [drawOkF_ok hok, if_true, cond_true]
      have hplan : keepF (D.cut ops) (planOf ops) = planM ops (D.cut ops) := keepF_eq _ _
      rw [hplan]
      have hD : (do
          let r ← runDraw D call' round' isRound ops (planM ops (D.cut ops)) [σ] L ds pan σ
          match r with
          | .go T ds pan σ =>
            if ops.size = D.cut ops + 1 then
              if canE ops (D.cut ops) 0 (D.cut ops) then runSeq D call' round' isRound ops (ops.toList.drop (D.cut ops)) T ds pan σ else .error "last"
            else do
            let r ← runRest D beqL beqH ops (D.cut ops) T σ
            return .go r.1 ds pan r.2
          | .panic .. => .error "panic in a drawn region" : R OpEnd) >>= kon K' Kp' =
          (runDraw D call' round' isRound ops (planM ops (D.cut ops)) [σ] L ds pan σ >>= kon (fun T ds pan σ =>
            if ops.size = D.cut ops + 1 then
              if canE ops (D.cut ops) 0 (D.cut ops) then runSeq D call' round' isRound ops (ops.toList.drop (D.cut ops)) T ds pan σ >>= kon K' Kp' else .error "last"
            else runRest D beqL beqH ops (D.cut ops) T σ >>= fun r => K' r.1 ds pan r.2) fun _ _ _ _ _ => .error "panic in a drawn region") := by
        rw [bind_assoc']
        congr 1
        funext r
        cases r with
        | go T ds pan σ =>
          simp only [kon]
          split
          · split <;> rfl
          · rw [bind_assoc']
            rfl
        | panic => rfl
      refine Le.trans ?_ (Le.of_eq hD.symm)
      rw [ble_eq']
      by_cases hle : ops.toList.length ≤ D.cut ops
      · simp only [hle, decide_true, cond_true]
        refine planC_le hc hr (fun T L ds pan σ hT => ?_) _ _ h ds pan σ
        have hs : ops.size ≤ D.cut ops := by simpa using hle
        rw [if_neg (by omega)]
        have : runRest D beqL beqH ops (D.cut ops) L σ = .ok (L, σ) := by unfold runRest; rw [if_pos hs]
        rw [this]
        exact hK _ _ _ _ _ hT
      · simp only [hle, decide_false, cond_false]
        rw [beq_eq]
        by_cases hone : ops.toList.length = Nat.succ (D.cut ops)
        · simp only [hone, decide_true, cond_true]
          have hs : ops.size = D.cut ops + 1 := by simpa using hone
          cases hcan : canE ops (D.cut ops) 0 (D.cut ops) with
          | false => exact Le.error
          | true =>
            simp only [cond_true]
            refine planC_le hc hr (fun T L ds pan σ hT => ?_) _ _ h ds pan σ
            rw [if_pos hs, if_pos trivial]
            exact seqC_le hc hr hK hKp _ hT ds pan σ
        simp only [hone, decide_false, cond_false]
        refine planC_le hc hr (fun T L ds pan σ hT => ?_) _ _ h ds pan σ
        have hs : ¬ ops.size = D.cut ops + 1 := by simpa using hone
        rw [if_neg hs]
        unfold restC
        rw [beqLS_fun, beqHS_fun, hT.toL]
        refine Le.step (Le.refl _) (fun e he => ⟨e, by rw [he]⟩) fun r hr => ?_
        rw [hr]
        obtain ⟨L', σ'⟩ := r
        simp only
        rw [beq_eq, lenL_eq]
        by_cases hlen : L'.length = n
        · simp only [hlen, decide_true, cond_true]
          have hT' : TR n (fillT n L' 0 .e) L' := by
            have := TR.args (l := L') (n := n) (by rw [hlen]; exact Nat.le_refl _)
            rw [hlen, Nat.sub_self] at this
            simpa [replUndef] using this
          exact hK _ _ _ _ _ hT'
        · simp only [hlen, decide_false, cond_false]; exact Le.error

end
end Go.Dt
namespace Go.Dt

theorem allB_cons (v : AV) (l : List AV) : allB (v :: l) = match v with | .base _ => allB l | _ => false := rfl

theorem capChkS_eq (own : Bool) (cap : Option Nat) (o len sz : Nat) (cs : List AV) : capChkS own cap o len sz cs = capChk own cap o len sz cs.length := by
  unfold capChkS capChk
  cases cap with
  | none => cases own <;> rfl
  | some c =>
    simp only [lenL_eq]
    have e1 : Nat.ble (Nat.add o (Nat.mul c sz)) cs.length = Nat.ble (o + c * sz) cs.length := rfl
    have e2 : Nat.beq (Nat.mod o sz) 0 = Nat.beq (o % sz) 0 := rfl
    rw [e1, e2]
    cases Nat.blt 0 sz <;> cases Nat.ble len c <;> cases own <;> cases Nat.ble (o + c * sz) cs.length <;> rfl

theorem copyLS_nil (f : AV → St → R (AV × St)) (dst : St) : copyLS f [] dst = .ok ([], dst) := rfl
theorem copyLS_cons (f : AV → St → R (AV × St)) (x : AV) (l : List AV) (dst : St) : copyLS f (x :: l) dst =
    match f x dst with
    | .ok r => (match r with
      | ⟨x, dst⟩ => (match copyLS f l dst with
        | .ok r => (match r with
          | ⟨l, dst⟩ => .ok (x :: l, dst))
        | .error e => .error e))
    | .error e => .error e := rfl

theorem copyLS_le {f g : AV → St → R (AV × St)} (h : ∀ v dst, Le (f v dst) (g v dst)) : ∀ (l : List AV) (dst : St), Le (copyLS f l dst) (copyL g l dst)
  | [], dst => Le.refl _
  | x :: l, dst => by
    rw [copyLS_cons]
    unfold copyL
    refine Le.step (h x dst) (fun e he => ⟨e, by rw [he]⟩) fun r hr => ?_
    rw [hr]
    obtain ⟨x1, dst1⟩ := r
    simp only
    refine Le.step (copyLS_le h l dst1) (fun e he => ⟨e, by rw [he]⟩) fun r hr => ?_
    rw [hr]
    exact Le.refl _

theorem copyL_base {f : AV → St → R (AV × St)} (h : ∀ v dst, f (.base v) dst = .ok (.base v, dst)) : ∀ (l : List AV) (dst : St), allB l = true → copyL f l dst = .ok (l, dst)
  | [], dst, _ => rfl
  | x :: l, dst, hb => by
    rw [allB_cons] at hb
    cases x with
    | base v =>
      simp only at hb
      simp only [copyL, h, bind, Except.bind, copyL_base h l dst hb, pure, Except.pure]
    | _ => simp at hb

theorem copyA_base (own : Bool) (src : St) (n : Nat) (v : Value) (dst : St) : copyA own src (n + 1) (.base v) dst = .ok (.base v, dst) := by simp [copyA]

theorem copyAS_le (own : Bool) (src : St) : ∀ (n : Nat) (v : AV) (dst : St), Le (copyAS own src n v dst) (copyA own src n v dst) := by
  intro n
  induction n with
  | zero => intro v dst; exact Le.error
  | succ n ih =>
    intro v dst
    have many : ∀ (l : List AV) (dst : St), Le (bif Nat.beq n 0 then copyLS (copyAS own src n) l dst else bif allB l then .ok (l, dst) else copyLS (copyAS own src n) l dst) (copyL (copyA own src n) l dst) := by
      intro l dst
      rw [beq_eq]
      by_cases h0 : n = 0
      · simp only [h0, decide_true, cond_true]
        rw [← h0]
        exact copyLS_le ih l dst
      · simp only [h0, decide_false, cond_false]
        cases hb : allB l with
        | false => simp only [cond_false]; exact copyLS_le ih l dst
        | true =>
          simp only [cond_true]
          obtain ⟨m, rfl⟩ := Nat.exists_eq_succ_of_ne_zero h0
          exact Le.of_eq (copyL_base (fun v dst => copyA_base own src m v dst) l dst hb).symm
    cases v with
    | base v => exact Le.of_eq (copyA_base own src n v dst).symm
    | slice b o len cap sz =>
      have hS : copyAS own src (n + 1) (.slice b o len cap sz) dst =
        (match src.getO b with
        | .cells cs elem ow sz' =>
          bif (bif own then bif ow then Nat.beq sz' sz else false else true) then
          bif capChkS own cap o len sz cs then
            (match takeS cs o (Nat.mul len sz) with
            | .ok l => (match (bif Nat.beq n 0 then copyLS (copyAS own src n) l dst else bif allB l then .ok (l, dst) else copyLS (copyAS own src n) l dst) with
              | .ok r => (match r with
                | ⟨l, dst⟩ => (match dst with
                  | ⟨m, h, M⟩ => .ok (.slice m 0 len none sz, ⟨Nat.succ m, .cells l elem own sz :: h, M⟩)))
              | .error e => .error e)
            | .error e => .error e)
          else .error "copy not own"
          else .error "copy not own"
        | _ => .error "copy cells") := rfl
      rw [hS]
      simp only [copyA]
      cases hob : src.getO b with
      | cells cs elem ow sz' =>
        simp only
        rw [capChkS_eq]
        have hc1 : (bif own then bif ow then Nat.beq sz' sz else false else true) = (!own || (ow && sz' == sz)) := by
          rw [beq_eq]
          cases own <;> cases ow <;> simp <;> rfl
        rw [hc1]
        cases h1 : (!own || (ow && sz' == sz)) with
        | false => exact Le.error
        | true =>
          simp only [cond_true]
          cases h2 : capChk own cap o len sz cs.length with
          | false => exact Le.error
          | true =>
            simp only [cond_true, Bool.and_self, if_true]
            have ht : takeS cs o (Nat.mul len sz) = takeN cs o (len * sz) := takeS_eq ..
            rw [ht]
            refine Le.step (Le.refl _) (fun e he => ⟨e, by rw [he]⟩) fun l hl => ?_
            rw [hl]
            simp only
            refine Le.step (many l dst) (fun e he => ⟨e, by rw [he]⟩) fun r hr => ?_
            rw [hr]
            obtain ⟨l', m, h, M⟩ := r
            exact Le.refl _
      | _ => exact Le.error
    | iface t v =>
      show Le (match copyAS own src n v dst with
        | .ok r => (match r with
          | ⟨v, dst⟩ => (.ok (AV.iface t v, dst) : R (AV × St)))
        | .error e => .error e) _
      simp only [copyA]
      refine Le.step (ih v dst) (fun e he => ⟨e, by rw [he]⟩) fun r hr => ?_
      rw [hr]
      exact Le.refl _
    | agg l =>
      show Le (match (bif Nat.beq n 0 then copyLS (copyAS own src n) l dst else bif allB l then .ok (l, dst) else copyLS (copyAS own src n) l dst) with
        | .ok r => (match r with
          | ⟨l, dst⟩ => (.ok (AV.agg l, dst) : R (AV × St)))
        | .error e => .error e) _
      simp only [copyA]
      refine Le.step (many l dst) (fun e he => ⟨e, by rw [he]⟩) fun r hr => ?_
      rw [hr]
      exact Le.refl _
    | tuple l =>
      show Le (match (bif Nat.beq n 0 then copyLS (copyAS own src n) l dst else bif allB l then .ok (l, dst) else copyLS (copyAS own src n) l dst) with
        | .ok r => (match r with
          | ⟨l, dst⟩ => (.ok (AV.tuple l, dst) : R (AV × St)))
        | .error e => .error e) _
      simp only [copyA]
      refine Le.step (many l dst) (fun e he => ⟨e, by rw [he]⟩) fun r hr => ?_
      rw [hr]
      exact Le.refl _
    | _ => exact Le.refl _

theorem refsL_base {f : AV → List Nat} (h : ∀ v, f (.base v) = []) : ∀ l : List AV, allB l = true → refsL f l = []
  | [], _ => rfl
  | x :: l, hb => by
    rw [allB_cons] at hb
    cases x with
    | base v =>
      simp only at hb
      simp [refsL, h, refsL_base h l hb]
    | _ => simp at hb

theorem refsAS_eq (src : St) : ∀ (n : Nat) (v : AV), refsAS src n v = refsA src n v := by
  intro n
  induction n with
  | zero => intro v; rfl
  | succ n ih =>
    intro v
    have hf : refsAS src n = refsA src n := funext ih
    have hb : ∀ v, refsA src n (.base v) = [] := by intro v; cases n <;> rfl
    have many : ∀ l : List AV, (bif allB l then [] else refsL (refsAS src n) l) = refsL (refsA src n) l := by
      intro l
      rw [hf]
      cases h : allB l with
      | false => rfl
      | true => simp [refsL_base hb l h]
    cases v with
    | base v => rfl
    | slice b o len cap sz =>
      show (match src.getO b with
      | .cells cs _ _ _ => (match takeS cs o (Nat.mul len sz) with
        | .ok l => b :: (bif allB l then [] else refsL (refsAS src n) l)
        | .error _ => b :: refsL (refsAS src n) ((cs.drop o).take (len * sz)))
      | _ => []) = _
      simp only [refsA]
      cases src.getO b with
      | cells cs e ow s =>
        simp only
        have ht : takeS cs o (Nat.mul len sz) = takeN cs o (len * sz) := takeS_eq ..
        rw [ht]
        cases h : takeN cs o (len * sz) with
        | ok l =>
          simp only
          rw [many]
          have : l = (cs.drop o).take (len * sz) := by
            unfold takeN at h
            split at h
            · simp at h; exact h.symm
            · cases h
          rw [this]
        | error e => simp only; rw [hf]
      | _ => rfl
    | iface t v => exact ih v
    | agg l => exact many l
    | tuple l => exact many l
    | _ => rfl

theorem findS_eq (f : FuncId) (args : List AV) (h : List AO) : ∀ M : List Memo, findS f args h M = findMemo f args h M
  | [] => rfl
  | m :: M => by
    show (bif Nat.beq m.f f then bif beqLS m.args args then bif beqHS m.heap h then some m else findS f args h M else findS f args h M else findS f args h M) = _
    rw [findS_eq f args h M, beq_eq, beqLS_eq, beqHS_eq]
    conv => rhs; unfold findMemo
    by_cases h1 : m.f = f <;> cases h2 : beqL m.args args <;> cases h3 : beqH m.heap h <;> simp [h1]

theorem TR.params {n : Nat} : ∀ (l : List (Tmp × AV)) (T : RT) (L : List AV), TR n T L → TR n (paramsT n l T) (setParams l L)
  | [], _, _, h => h
  | (t, a) :: l, _, _, h => TR.params l _ _ (h.set t a)

structure FnsLe (F : FnsS) (G : Fns) : Prop where
  run : ∀ fn n rd T L todo ds pan σ, TR n T L → Le (F.run fn n rd T todo ds pan σ) (G.run { fn, T := L, todo, defers := ds, round := rd } pan σ)
  finish : ∀ fn n T L ds mode pan σ, TR n T L → Le (F.finish fn n T ds mode pan σ) (G.finish fn L ds mode pan σ)
  endLoop : ∀ fn n rd T L todo ds l e pan σ, TR n T L → Le (F.endLoop fn n rd T todo ds l e pan σ) (G.endLoop { fn, T := L, todo, defers := ds, round := rd } l e pan σ)
  call : CLe F.call G.call
  round : ∀ l args σ, Le (F.round l args σ) (G.round l args σ)

section
variable {D : Tab} {F : FnsS} {G : Fns}

theorem goS_le (H : FnsLe F G) (nx : ANext) (σ : St) : Le (goS F nx σ) (goF G nx σ) := by
  cases nx with
  | enter f args => exact H.call _ _ _
  | round l args => exact H.round _ _ _
  | _ => exact Le.error

theorem leaveS_le (H : FnsLe F G) {fn n : Nat} {rd : Option Nat} {T : RT} {L : List AV} (h : TR n T L) (todo : List AItem) (ds : List ADef) (jump : Option Code) (pan : Pan) (σ : St) :
    Le (leaveS F fn n rd T ds jump pan σ) (leaveF G { fn, T := L, todo, defers := ds, round := rd } jump pan σ) := by
  unfold leaveS leaveF
  cases rd with
  | none =>
    simp only
    cases jump with
    | none => exact H.finish _ _ _ _ _ _ _ _ h
    | some c =>
      cases c with
      | ret => exact H.finish _ _ _ _ _ _ _ _ h
      | _ => exact Le.error
  | some l =>
    simp only
    cases hd : ds.isEmpty with
    | false => exact Le.error
    | true =>
      simp only [cond_true, if_true]
      refine Le.step (Le.refl _) (fun e he => ⟨e, by rw [he]⟩) fun r hr => ?_
      rw [hr]
      exact Le.refl _

theorem panicS_le (H : FnsLe F G) {fn n : Nat} {rd : Option Nat} {T : RT} {L : List AV} (h : TR n T L) (todo : List AItem) (ds : List ADef) (v : AV) (pan : Pan) (σ : St) :
    Le (panicS F fn n rd T ds v pan σ) (panicF G { fn, T := L, todo, defers := ds, round := rd } v pan σ) := by
  unfold panicS panicF
  cases rd with
  | none => exact H.finish _ _ _ _ _ _ _ _ h
  | some l =>
    simp only
    cases hd : ds.isEmpty with
    | false => exact Le.error
    | true => exact Le.refl _

theorem runS_le (H : FnsLe F G) {fn n : Nat} {rd : Option Nat} {T : RT} {L : List AV} (h : TR n T L) (todo : List AItem) (ds : List ADef) (pan : Pan) (σ : St) :
    Le (runS D F fn n rd T todo ds pan σ) (runF D G { fn, T := L, todo, defers := ds, round := rd } pan σ) := by
  have run : ∀ todo ds pan σ, Le (F.run fn n rd T todo ds pan σ) (G.run { fn, T := L, todo, defers := ds, round := rd } pan σ) := fun todo ds pan σ => H.run _ _ _ _ _ _ _ _ _ h
  cases todo with
  | nil => exact leaveS_le H h [] ds none pan σ
  | cons it k =>
    cases it with
    | inBlock id => exact run _ _ _ _
    | inScope c => exact run _ _ _ _
    | inLoop c => exact run _ _ _ _
    | beginRound =>
      cases rd with
      | none => exact Le.error
      | some l =>
        simp only [runS, runF]
        refine Le.step (Le.refl _) (fun e he => ⟨e, by rw [he]⟩) fun r hr => ?_
        rw [hr]
        simp only
        split
        · exact run _ _ _ _
        · exact Le.error
    | code c =>
      cases c with
      | ret => exact leaveS_le H h (.code .ret :: k) ds (some .ret) pan σ
      | skip => exact run _ _ _ _
      | label l => exact run _ _ _ _
      | seq a b => exact run _ _ _ _
      | block id c => exact run _ _ _ _
      | loop c => exact run _ _ _ _
      | scope c => exact run _ _ _ _
      | refuse s => exact Le.error
      | cond c x y =>
        simp only [runS, runF, codeC]
        rw [h.ev]
        cases hv : evalO D L c with
        | base v =>
          cases v with
          | bool b => cases b <;> exact run _ _ _ _
          | _ => exact Le.error
        | _ => exact Le.error
      | exit id =>
        simp only [runS, runF, codeC]
        cases exitTo id k with
        | none => exact leaveS_le H h _ ds _ pan σ
        | some k' => exact run _ _ _ _
      | goto l =>
        simp only [runS, runF, codeC]
        cases gotoIn l k with
        | none => exact leaveS_le H h _ ds _ pan σ
        | some k' => exact run _ _ _ _
      | region id ops draw =>
        simp only [runS, runF, codeC]
        refine Le.trans (regionC_le (D := D) (K' := fun L ds pan σ => G.run { fn, T := L, todo := k, defers := ds, round := rd } pan σ)
          (Kp' := fun v L ds pan σ => panicF G { fn, T := L, todo := .code (.region id ops draw) :: k, defers := ds, round := rd } v pan σ) H.call H.round
          (fun T L ds pan σ hT => H.run _ _ _ _ _ _ _ _ _ hT) (fun v T L ds pan σ hT => panicS_le H hT _ ds v pan σ) h ds pan σ) (Le.of_eq ?_)
        congr 1
      | rangeFunc f params assign body =>
        simp only [runS, runF, codeC]
        rw [h.ev]
        cases rd with
        | none =>
          simp only
          refine Le.step (Le.refl _) (fun e he => ⟨e, by rw [he]⟩) fun nx hnx => ?_
          rw [hnx]
          simp only
          rw [h.toL]
          refine Le.step (goS_le H nx _) (fun e he => ⟨e, by rw [he]⟩) fun r hr => ?_
          rw [hr]
          exact H.endLoop _ _ _ _ _ _ _ _ _ _ _ h
        | some l0 =>
          simp only
          refine Le.step (Le.refl _) (fun e he => ⟨e, by rw [he]⟩) fun r0 hr0 => ?_
          rw [hr0]
          simp only
          refine Le.step (Le.refl _) (fun e he => ⟨e, by rw [he]⟩) fun nx hnx => ?_
          rw [hnx]
          simp only
          rw [h.toL]
          refine Le.step (goS_le H nx _) (fun e he => ⟨e, by rw [he]⟩) fun r hr => ?_
          rw [hr]
          exact H.endLoop _ _ _ _ _ _ _ _ _ _ _ h

theorem endLoopS_le (H : FnsLe F G) {fn n : Nat} {rd : Option Nat} {T : RT} {L : List AV} (h : TR n T L) (todo : List AItem) (ds : List ADef) (l : Nat) (e : AEnd) (pan : Pan) (σ : St) :
    Le (endLoopS F fn n rd T todo ds l e pan σ) (endLoopF G { fn, T := L, todo, defers := ds, round := rd } l e pan σ) := by
  unfold endLoopS endLoopF
  cases e with
  | panic v => exact panicS_le H h todo ds v pan σ
  | ret v =>
    simp only
    refine Le.step (Le.refl _) (fun e he => ⟨e, by rw [he]⟩) fun r hr => ?_
    rw [hr]
    simp only
    split
    · exact Le.error
    · cases hp : r.pending with
      | none => exact H.run _ _ _ _ _ _ _ _ _ h
      | some c => exact H.run _ _ _ _ _ _ _ _ _ h

theorem enterS_le (H : FnsLe F G) (f : FuncId) (args : List AV) (pan : Pan) (σ : St) :
    Le (enterS D F f args pan σ) (enterFr D f args >>= fun fr => G.run fr pan σ) := by
  unfold enterS enterC
  cases hf : D.func f with
  | none => exact Le.error
  | some fn =>
    simp only
    cases hb : fn.body with
    | none => exact Le.error
    | some c =>
      simp only [cond_true]
      rw [ble_eq', lenL_eq]
      by_cases hl : args.length ≤ fn.ntmps
      · simp only [hl, decide_true, cond_true]
        refine Le.trans (H.run _ _ _ _ _ _ _ _ _ (TR.args hl)) (Le.of_eq ?_)
        simp [enterFr, hf, hb, bind, Except.bind]
      · simp only [hl, decide_false, cond_false]; exact Le.error

theorem resultS_le {n : Nat} {σ : St} {T : RT} {L : List AV} (h : TR n T L) : ∀ l : List ResultVar, Le (resultS D n σ T l) (resultV D σ L l)
  | [] => Le.refl _
  | .tmp t :: l => by
    show Le (match resultS D n σ T l with
      | .ok r => .ok ((getC n t).run T :: r)
      | .error e => .error e) _
    unfold resultV
    refine Le.step (resultS_le h l) (fun e he => ⟨e, by rw [he]⟩) fun r hr => ?_
    rw [hr, h.getC]
    exact Le.refl _
  | .cell a t :: l => by
    show Le (match (loadC D t).run σ ((getC n a).run T) with
      | .ok v => (match resultS D n σ T l with
        | .ok r => .ok (v :: r)
        | .error e => .error e)
      | .error e => .error e) _
    unfold resultV
    rw [h.getC]
    refine Le.step (loadC_le _ _ _) (fun e he => ⟨e, by rw [he]⟩) fun v hv => ?_
    rw [hv]
    simp only
    refine Le.step (resultS_le h l) (fun e he => ⟨e, by rw [he]⟩) fun r hr => ?_
    rw [hr]
    exact Le.refl _

theorem finishS_le (H : FnsLe F G) {fn n : Nat} {T : RT} {L : List AV} (h : TR n T L) (ds : List ADef) (mode : Option AV) (pan : Pan) (σ : St) :
    Le (finishS D F fn n T ds mode pan σ) (finishF D G fn L ds mode pan σ) := by
  unfold finishS finishF
  cases ds with
  | nil =>
    simp only
    cases mode with
    | some v => exact Le.refl _
    | none =>
      simp only [resC, resultsV]
      cases D.func fn with
      | none => exact Le.error
      | some f =>
        simp only
        rw [bind_assoc']
        refine Le.step (resultS_le h _) (fun e he => ⟨e, by rw [he]⟩) fun vs hvs => ?_
        rw [hvs]
        cases vs with
        | nil => exact Le.refl _
        | cons v l =>
          cases l with
          | nil => exact Le.refl _
          | cons w l => exact Le.refl _
  | cons d ds =>
    cases d with
    | collected r =>
      simp only
      refine Le.step (Le.refl _) (fun e he => ⟨e, by rw [he]⟩) fun o ho => ?_
      rw [ho]
      cases o with
      | deferred calls =>
        cases calls with
        | none => exact Le.error
        | some calls => exact H.finish _ _ _ _ _ _ _ _ h
      | _ => exact Le.error
    | fn g cap args =>
      simp only
      refine Le.step (Le.refl _) (fun e he => ⟨e, by rw [he]⟩) fun nx hnx => ?_
      rw [hnx]
      cases nx with
      | enter f as =>
        simp only
        have := enterS_le (D := D) H f as (mode.map fun v => (v, false)) σ
        refine Le.trans (Le.step (y := enterFr D f as >>= fun fr => G.run fr (mode.map fun v => (v, false)) σ) (g := fun r => match r with
            | (e, p, σ) => match e with
              | .ret _ => match p with
                | some (v, false) => G.finish fn L ds (some v) pan σ
                | _ => G.finish fn L ds none pan σ
              | .panic v => match p with
                | none => G.finish fn L ds (some v) pan σ
                | some _ => .error "panic in a deferred call while panicking") this (fun e he => ⟨e, by rw [he]⟩) fun r hr => ?_) (Le.of_eq ?_)
        · rw [hr]
          obtain ⟨e, p, σ1⟩ := r
          cases e with
          | ret v =>
            cases p with
            | none => exact H.finish _ _ _ _ _ _ _ _ h
            | some p =>
              obtain ⟨v', r'⟩ := p
              cases r' with
              | false => exact H.finish _ _ _ _ _ _ _ _ h
              | true => exact H.finish _ _ _ _ _ _ _ _ h
          | panic v =>
            cases p with
            | none => exact H.finish _ _ _ _ _ _ _ _ h
            | some p => exact Le.error
        · rw [bind_assoc']
          rfl
      | _ => exact Le.error

theorem memoS_le (m : Memo) (σ : St) : Le (memoS m σ) (memoF m σ) := by
  unfold memoS memoF
  refine Le.step (copyAS_le true _ copyFuel m.val σ) (fun e he => ⟨e, by rw [he]⟩) fun r hr => ?_
  rw [hr]
  exact Le.refl _

theorem pureS_le (H : FnsLe F G) (f : FuncId) (args : List AV) (σX : St) : Le (pureS D F f args σX) (pureF D G f args σX) := by
  unfold pureS
  have hE := enterS_le (D := D) H f args none σX
  intro a ha
  cases hr : enterS D F f args none σX with
  | error e => rw [hr] at ha; cases ha
  | ok r =>
    obtain ⟨e, p, σ2⟩ := r
    rw [hr] at ha
    have hD := hE _ hr
    simp only [bind_ok] at hD
    obtain ⟨fr, hfr, hrun⟩ := hD
    cases e with
    | panic v => cases ha
    | ret v =>
      simp only at ha
      rw [refsAS_eq] at ha
      cases hn : nodup (refsA σ2 copyFuel v) with
      | false => rw [hn] at ha; cases ha
      | true =>
        rw [hn] at ha
        simp only [cond_true] at ha
        cases hc : copyAS true σ2 copyFuel v (freshSt D .e) with
        | error e => rw [hc] at ha; cases ha
        | ok r =>
          obtain ⟨y, nY, hY, MY⟩ := r
          rw [hc] at ha
          simp only at ha
          rw [refsAS_eq] at ha
          have hcD := copyAS_le _ _ _ _ _ _ hc
          cases hn2 : nodup (refsA (bareSt .e hY) copyFuel y) with
          | false => rw [hn2] at ha; cases ha
          | true =>
            rw [hn2] at ha
            simp only [cond_true] at ha
            simp only [pureF, bind_ok]
            refine ⟨fr, hfr, (.ret v, p, σ2), hrun, ?_⟩
            simp only [hn, if_true, bind_ok]
            refine ⟨(y, ⟨nY, hY, MY⟩), hcD, ?_⟩
            simp only [hn2, if_true]
            exact ha

theorem callS_le (H : FnsLe F G) : CLe (callS D F) (callF D G) := by
  intro f args σ
  unfold callS callF
  cases hp : D.pure f with
  | false =>
    simp only [cond_false, Bool.false_eq_true, if_false]
    unfold plainF
    refine Le.trans (Le.step (y := enterFr D f args >>= fun fr => G.run fr none σ) (g := fun r => match r with | (e, _, σ) => .ok (e, σ)) (enterS_le H f args none σ) (fun e he => ⟨e, by rw [he]⟩) fun r hr => ?_) (Le.of_eq ?_)
    · rw [hr]; exact Le.refl _
    · rw [bind_assoc']; rfl
  | true =>
    obtain ⟨n, l, M⟩ := σ
    simp only [cond_true, if_true]
    refine Le.step (copyLS_le (fun v dst => copyAS_le false ⟨n, l, M⟩ copyFuel v dst) args (freshSt D M)) (fun e he => ⟨e, by rw [he]⟩) fun r hr => ?_
    rw [hr]
    obtain ⟨args', nX, hX, MX⟩ := r
    simp only
    rw [findS_eq]
    cases hfm : findMemo f args' hX (MX.get (pth f)) with
    | some m => exact memoS_le _ _
    | none =>
      simp only
      refine Le.step (pureS_le H f args' _) (fun e he => ⟨e, by rw [he]⟩) fun r hr => ?_
      rw [hr]
      exact memoS_le _ _

theorem roundS_le (H : FnsLe F G) (l : Nat) (args : List AV) (σ : St) : Le (roundS D F l args σ) (roundF D G l args σ) := by
  unfold roundS roundF
  refine Le.step (Le.refl _) (fun e he => ⟨e, by rw [he]⟩) fun r hr => ?_
  rw [hr]
  simp only
  cases D.func r.fn with
  | none => exact Le.error
  | some fn =>
    simp only
    split
    · have hT : TR (lenL r.T) (paramsT (lenL r.T) (r.params.zip args) (fillT (lenL r.T) r.T 0 .e)) (setParams (r.params.zip args) r.T) := by
        refine TR.params _ _ _ ?_
        have := TR.args (l := r.T) (n := lenL r.T) (by rw [lenL_eq]; exact Nat.le_refl _)
        rw [lenL_eq, Nat.sub_self] at this
        simpa [replUndef, lenL_eq] using this
      refine Le.step (H.run _ _ _ _ _ _ _ _ _ hT) (fun e he => ⟨e, by rw [he]⟩) fun r hr => ?_
      rw [hr]
      exact Le.refl _
    · exact Le.error

theorem noFns_le : FnsLe noFnsS noFns where
  run := fun _ _ _ _ _ _ _ _ _ _ => Le.error
  finish := fun _ _ _ _ _ _ _ _ _ => Le.error
  endLoop := fun _ _ _ _ _ _ _ _ _ _ _ _ => Le.error
  call := fun _ _ _ => Le.error
  round := fun _ _ _ => Le.error

theorem fns_le (D : Tab) : ∀ n, FnsLe (fnsS D n) (fns D n)
  | 0 => noFns_le
  | n + 1 => {
    run := fun _ _ _ _ _ todo ds pan σ h => runS_le (fns_le D n) h todo ds pan σ
    finish := fun _ _ _ _ ds mode pan σ h => finishS_le (fns_le D n) h ds mode pan σ
    endLoop := fun _ _ _ _ _ todo ds l e pan σ h => endLoopS_le (fns_le D n) h todo ds l e pan σ
    call := callS_le (fns_le D n)
    round := roundS_le (fns_le D n) }

end
end Go.Dt
namespace Go.Dt

/-- a table as a tree -/
inductive Tri (α : Type) where
  | leaf (a : α)
  | node (k : Nat) (l r : Tri α)
noncomputable def Tri.get {α : Type} (i : Nat) (t : Tri α) : α := Tri.rec (motive := fun _ => α) (fun a => a) (fun k _ _ gl gr => bif Nat.blt i k then gl else gr) t
def Tri.ok {α : Type} (Q : Nat → α → Prop) : Tri α → Nat → Nat → Prop
  | .leaf a, lo, hi => hi ≤ lo + 1 ∧ Q lo a
  | .node k l r, lo, hi => Tri.ok Q l lo k ∧ Tri.ok Q r k hi
theorem Tri.get_node {α : Type} (i k : Nat) (l r : Tri α) : (Tri.node k l r).get i = bif Nat.blt i k then l.get i else r.get i := rfl
theorem Tri.get_ok {α : Type} {Q : Nat → α → Prop} {i : Nat} : ∀ (t : Tri α) (lo hi : Nat), t.ok Q lo hi → lo ≤ i → i < hi → Q i (t.get i)
  | .leaf a, lo, hi, h, h1, h2 => by
    have : i = lo := by have := h.1; omega
    subst this
    exact h.2
  | .node k l r, lo, hi, h, h1, h2 => by
    rw [Tri.get_node, blt_eq]
    by_cases hk : i < k
    · simp only [hk, decide_true, cond_true]; exact Tri.get_ok l lo k h.1 h1 hk
    · simp only [hk, decide_false, cond_false]; exact Tri.get_ok r k hi h.2 (by omega) h2

theorem Tri.okN {α : Type} {Q : Nat → α → Prop} {k lo hi : Nat} {l r : Tri α} (hl : l.ok Q lo k) (hr : r.ok Q k hi) : (Tri.node k l r).ok Q lo hi := ⟨hl, hr⟩
theorem Tri.okL {α : Type} {Q : Nat → α → Prop} {lo : Nat} {a : α} (hq : Q lo a) : (Tri.leaf a).ok Q lo (lo + 1) := ⟨Nat.le_refl _, hq⟩
/-- the functions without a body that the reading knows -/
def extL (l : List (Nat × ExtKind)) (g : Nat) : Option ExtKind :=
  match l with
  | [] => none
  | (i, k) :: l => bif Nat.beq g i then some k else extL l g
def ExtFn (P : Program) (g : Nat) (k : ExtKind) (fn : Func) : Prop :=
  P.funcs[g]? = some fn ∧ (fn.name == "runtime.NumGoroutine") = false ∧ fn.body.isNone = true ∧ (Extern.findNext fn).isNone = true ∧ Extern.find fn = some k.sem
def ExtAll (P : Program) : List (Nat × ExtKind) → Prop
  | [] => True
  | (i, k) :: l => (∃ fn, ExtFn P i k fn) ∧ ExtAll P l
theorem extL_ok {P : Program} : ∀ {l : List (Nat × ExtKind)}, ExtAll P l → ∀ g k, extL l g = some k → ∃ fn, P.funcs[g]? = some fn ∧ (fn.name == "runtime.NumGoroutine") = false ∧ fn.body.isNone = true ∧ (Extern.findNext fn).isNone = true ∧ Extern.find fn = some k.sem
  | [], _, g, k, h => by simp [extL] at h
  | (i, k') :: l, ha, g, k, h => by
    unfold extL at h
    rw [beq_eq] at h
    by_cases e : g = i
    · simp only [e, decide_true, cond_true, Option.some.injEq] at h
      subst h
      rw [e]
      exact ha.1
    · simp only [e, decide_false, cond_false] at h
      exact extL_ok ha.2 g k h

theorem noEq {p : Prop} (h : false = true) : p := by cases h

/-- is it a returned 'true'? -/
def okT (r : R (AEnd × St)) : Bool :=
  match r with
  | .ok (.ret (.base (.bool true)), _) => true
  | _ => false
theorem okT_spec {r : R (AEnd × St)} (h : okT r = true) : ∃ σ', r = .ok (.ret (.base (.bool true)), σ') := by
  unfold okT at h
  split at h
  · exact ⟨_, rfl⟩
  · cases h

/-- the program's tables: nf functions, nt types, ng variables; pm, which functions count as pure -/
noncomputable def mkTab (nf nt ng pm : Nat) (ft : Tri Func) (tt : Tri (TypeInfo × Bool)) (ex : Nat → Option ExtKind) (cuts : List (Nat × Nat × Nat × Nat)) : Tab where
  func := fun i => bif Nat.blt i nf then some (ft.get i) else none
  info := fun t => bif Nat.blt t nt then some (tt.get t).1 else none
  nglob := ng
  pure := fun i => Nat.beq (Nat.land 1 (Nat.shiftRight pm i)) 1
  eqOk := fun t => bif Nat.blt t nt then (tt.get t).2 else false
  ext := ex
  cut := cutBy cuts
  memo := fun _ => True

/-- and what its memos say -/
noncomputable def Tab.full (D : Tab) (P : Program) : Tab := { D with memo := fun m => MemoOK D P m }

theorem full_memo (D : Tab) (P : Program) (m : Memo) : (D.full P).memo m ↔ MemoOK (D.full P) P m :=
  ⟨fun h => ⟨h.nd, h.call⟩, fun h => ⟨h.nd, h.call⟩⟩

theorem fits_full {D : Tab} {P : Program} (h : Fits D P) : Fits (D.full P) P := ⟨h.func, h.info, h.eqOk, h.ext, h.depth, h.mixed⟩

theorem mkTab_fits {P : Program} {nf nt ng pm : Nat} {ft : Tri Func} {tt : Tri (TypeInfo × Bool)} {ex : Nat → Option ExtKind} {cuts : List (Nat × Nat × Nat × Nat)} (hf : ft.ok (fun i f => P.funcs[i]? = some f) 0 nf)
    (ht : tt.ok (fun i x => P.info? i = some x.1 ∧ (x.2 = true → P.stoodInHeld i = false)) 0 nt) (hx : ∀ g k, ex g = some k → ∃ fn, P.funcs[g]? = some fn ∧ (fn.name == "runtime.NumGoroutine") = false ∧ fn.body.isNone = true ∧ (Extern.findNext fn).isNone = true ∧ Extern.find fn = some k.sem) (hd : 10 ≤ P.depth) (hm : P.follows .mixedOrders = true) : Fits (mkTab nf nt ng pm ft tt ex cuts) P where
  ext := hx
  func := fun i f h => by
    simp only [mkTab, blt_eq] at h
    by_cases hi : i < nf
    · simp only [hi, decide_true, cond_true, Option.some.injEq] at h
      rw [← h]
      exact Tri.get_ok ft 0 nf hf (Nat.zero_le _) hi
    · simp [hi] at h
  info := fun t i h => by
    simp only [mkTab, blt_eq] at h
    by_cases hi : t < nt
    · simp only [hi, decide_true, cond_true, Option.some.injEq] at h
      rw [← h]
      exact (Tri.get_ok tt 0 nt ht (Nat.zero_le _) hi).1
    · simp [hi] at h
  eqOk := fun t h => by
    simp only [mkTab, blt_eq] at h
    by_cases hi : t < nt
    · simp only [hi, decide_true, cond_true] at h
      exact (Tri.get_ok tt 0 nt ht (Nat.zero_le _) hi).2 h
    · simp [hi] at h
  depth := hd
  mixed := hm

def iota0 : Nat → Loc := fun b => ⟨b, 0, 0, 0⟩

theorem rep0 (D : Tab) (W : World) {M : MTree} (hM : ∀ m, M.mem m → D.memo m) : Rep D iota0 (freshSt D M) W where
  len := by simp [freshSt, replGone_length]
  glob := Nat.le_refl _
  gloc := fun g _ => ⟨rfl, rfl⟩
  obj := fun b _ => by rw [fresh_gone]; trivial
  sep := fun b b' _ _ _ hm => by rw [fresh_gone] at hm; simp [AO.isMut] at hm
  mem := hM

/-- a call of the staged reading that returned a plain value -/
theorem run_calls {D : Tab} {P : Program} (F : Fits D P) (HM : ∀ m, D.memo m ↔ MemoOK D P m) {n f : Nat} {args : List AV} {v : Value} {σ' : St} {M : MTree} (hM : ∀ m, M.mem m → D.memo m)
    (hargs : ∀ ι A, idsL ι A args) (h : (fnsS D n).call f args (freshSt D M) = .ok (.ret (.base v), σ')) (W : World) :
    Calls P f (concL iota0 args).toArray W fun e W' => e = .returned v ∧ Fresh W W' := by
  have h1 := (fns_le D n).call _ _ _ _ h
  have h2 := (fns_ok F HM n).call _ _ _ _ _ h1 iota0 W (rep0 D W hM) (hargs _ _)
  intro cs
  obtain ⟨e, W', fr, ⟨ι', rfl, _, E, _⟩, hc, hl⟩ := h2 cs
  refine ⟨_, W', fr, ⟨rfl, E.fresh fun b _ => by rw [fresh_gone]; rfl⟩, hc, hl⟩

theorem Fresh.kept {W W' : World} (h : Fresh W W') (may : MemPlace → Prop) : W.keptBut W' may := by
  refine ⟨h.os, h.output, fun i hi => ?_⟩
  rw [h.old i hi]
  cases W.heap[i]? with
  | none => trivial
  | some o => cases o <;> simp

theorem Fresh.cell {W W' : World} (h : Fresh W W') {i : Nat} (hi : i < W.heap.size) : W'.heap[i]? = W.heap[i]? := h.old i hi

/-- a law without argument: what its row asks behind the call -/
theorem post_closed {H : Type} {enc : TypeId × Value → H} {P : Program} {f : Func} {s : ChangeSpec} {t : TypeId} {W W' : World} {apart fresh handsOn again : Bool} (hp : f.params = #[]) (hr : f.resultTypes = #[t]) (ht : P.underlying t = some .bool)
    (hv : s.vars = []) (hs : s.fn H [] = { results := [.lit (.bool true)], args := [] }) (h : Fresh W W') : s.post enc P f apart fresh handsOn again W #[] (.bool true) W' := by
  have hW : DataW.Whole enc P f.params.toList s.vars apart W (#[] : Array Value).toList [] [] [] := by
    refine ⟨[], [], ?_, ?_, rfl, ?_, fun _ => List.nodup_nil⟩
    · rw [hp]; simp [DataW.TrodAll]
    · rw [hv]; simp [DataW.TrodVars]
    · intro b off hb; simp at hb
  have hres : ∀ (b : Nat) (sp : Nat → Bool) (hd : Bool), DataW.TrodAll enc P W' b sp hd f.resultTypes.toList ((Value.bool true).resultList f.resultTypes.size) (s.fn H ([] ++ [])).results [] := by
    intro b sp hd
    rw [hr]
    simp only [List.append_nil, hs]
    exact ChangeShapes.trodAll_mk1 (RowKit.shut_bool ht true)
  have hargs : ∀ (b : Nat) (sp : Nat → Bool) (hd : Bool), DataW.TrodAll enc P W' b sp hd f.params.toList (#[] : Array Value).toList (s.fn H ([] ++ [])).args [] := by
    intro b sp hd
    rw [hp]
    simp [hs, DataW.TrodAll]
  have hvars : ∀ (sp : Nat → Bool), DataW.TrodVars enc P W' sp s.vars (s.fn H ([] ++ [])).vars [] := by
    intro sp
    rw [hv]
    simp [hs, DataW.TrodVars]
  refine ⟨[], [], [], [], [], [], hW, hres _ _ _, hargs _ _ _, hvars _, h.kept _, fun _ => ⟨?_, _, _, [], ⟨[], [], ChangeShapes.trodAll_append (hargs _ _ _) (hres _ _ _), hvars _, rfl, ?_, fun _ => List.nodup_nil⟩, ?_⟩⟩
  · intro j t' r hj hv'
    rw [hr] at hj hv'
    match j, hj, hv' with
    | 0, hj, hv' =>
      simp at hj hv'
      subst hj
      simp [Value.resultList] at hv'
      subst hv'
      exact RowKit.okWide_bool_mk ht _
    | j + 1, hj, _ => simp at hj
  · intro b off hb; simp at hb
  · intro p hp'; simp at hp'

end Go.Dt
namespace Go.Dt
/-- is it this memo? -/
noncomputable def isMemo (m : Memo) (r : R (Memo × MTree)) : Bool :=
  match r with
  | .ok (x, _) => bif Nat.beq x.f m.f then bif beqLS x.args m.args then bif beqHS x.heap m.heap then bif beqAS x.val m.val then beqHS x.res m.res else false else false else false else false
  | .error _ => false

theorem isMemo_ok {m : Memo} {r : R (Memo × MTree)} (h : isMemo m r = true) : ∃ M, r = .ok (m, M) := by
  unfold isMemo at h
  split at h
  · rename_i x M
    rw [beq_eq] at h
    cases h1 : decide (x.f = m.f) with
    | false => rw [h1] at h; cases h
    | true =>
      rw [h1] at h
      simp only [cond_true] at h
      cases h2 : beqLS x.args m.args with
      | false => rw [h2] at h; cases h
      | true =>
        rw [h2] at h
        simp only [cond_true] at h
        cases h3 : beqHS x.heap m.heap with
        | false => rw [h3] at h; cases h
        | true =>
          rw [h3] at h
          simp only [cond_true] at h
          cases h4 : beqAS x.val m.val with
          | false => rw [h4] at h; cases h
          | true =>
            rw [h4] at h
            simp only [cond_true] at h
            rw [beqLS_eq] at h2
            rw [beqHS_eq] at h3 h
            rw [beqAS_eq] at h4
            refine ⟨M, ?_⟩
            have e1 : x.f = m.f := of_decide_eq_true h1
            have e2 := beqL_ok _ _ h2
            have e3 := beqH_ok h3
            have e4 := beqA_ok _ _ h4
            have e5 := beqH_ok h
            cases x
            cases m
            simp only at e1 e2 e3 e4 e5
            subst e1; subst e2; subst e3; subst e4; subst e5
            rfl
  · cases h

/-- a memo that one run gives, out of memos that hold -/
theorem memo_of_run {D : Tab} {P : Program} (F : Fits D P) (HM : ∀ m, D.memo m ↔ MemoOK D P m) {n : Nat} {m : Memo} {M : MTree} (hM : ∀ x, M.mem x → D.memo x)
    (h : isMemo m (pureS D (fnsS D n) m.f m.args { n := m.heap.length, l := m.heap, M := M }) = true) : D.memo m := by
  obtain ⟨M', hr⟩ := isMemo_ok h
  have h1 := pureS_le (fns_le D n) m.f m.args _ _ hr
  exact (HM m).2 (pureF_ok F (fns_ok F HM n) h1 hM rfl).2.2.2.1

theorem mem_e {D : Tab} : ∀ x, MTree.e.mem x → D.memo x := fun _ h => h.elim
theorem mem_add' {D : Tab} {M : MTree} {m : Memo} {p : Pth} (hM : ∀ x, M.mem x → D.memo x) (hm : D.memo m) : ∀ x, (M.add m p).mem x → D.memo x := fun x hx => by
  rcases MTree.mem_add _ _ hx with rfl | h
  · exact hm
  · exact hM x h
end Go.Dt
