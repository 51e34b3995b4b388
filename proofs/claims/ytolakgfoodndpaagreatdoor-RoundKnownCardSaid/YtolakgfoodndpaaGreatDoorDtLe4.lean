/-
  The staged reading says no more than the plain one: copies, memos, frames. No statement of this seat stands here.
-/
import Derived.Test.YtolakgfoodndpaaGreatDoorDtLe3
import Derived.Test.YtolakgfoodndpaaGreatDoorDtFrm
namespace Go.Dt

theorem allB_cons (v : AV) (l : List AV) : allB (v :: l) = match v with | .base _ => allB l | _ => false := rfl

theorem capChkS_eq (own : Bool) (cap : Option Nat) (o len sz : Nat) (cs : List AV) : capChkS own cap o len sz cs = capChk own cap o len sz cs.length := by
  unfold capChkS capChk
  cases cap with
  | none => cases own <;> rfl
  | some c =>
    simp only [lenL_eq]
    cases Nat.blt 0 sz <;> cases Nat.ble len c <;> cases own <;> simp

theorem copyLS_nil (f : AV → St → R (AV × St)) (dst : St) : copyLS f [] dst = .ok ([], dst) := rfl
theorem copyLS_cons (f : AV → St → R (AV × St)) (x : AV) (l : List AV) (dst : St) : copyLS f (x :: l) dst =
    match f x dst with
    | .ok r => (match r with
      | ⟨x, dst⟩ => (match copyLS f l dst with
        | .ok r => (match r with
          | ⟨l, dst⟩ => .ok (x :: l, dst))
        | .error e => .error e))
    | .error e => .error e := rfl

theorem copyLS_le {f g : AV → St → R (AV × St)} (h : ∀ v dst, Le (f v dst) (g v dst)) : ∀ (l : List AV) (dst : St), Le (copyLS f l dst) (copyL g l dst)
  | [], dst => Le.refl _
  | x :: l, dst => by
    rw [copyLS_cons]
    unfold copyL
    refine Le.step (h x dst) (fun e he => ⟨e, by rw [he]⟩) fun r hr => ?_
    rw [hr]
    obtain ⟨x1, dst1⟩ := r
    simp only
    refine Le.step (copyLS_le h l dst1) (fun e he => ⟨e, by rw [he]⟩) fun r hr => ?_
    rw [hr]
    exact Le.refl _

theorem copyL_base {f : AV → St → R (AV × St)} (h : ∀ v dst, f (.base v) dst = .ok (.base v, dst)) : ∀ (l : List AV) (dst : St), allB l = true → copyL f l dst = .ok (l, dst)
  | [], dst, _ => rfl
  | x :: l, dst, hb => by
    rw [allB_cons] at hb
    cases x with
    | base v =>
      simp only at hb
      simp only [copyL, h, bind, Except.bind, copyL_base h l dst hb, pure, Except.pure]
    | _ => simp at hb

theorem copyA_base (own : Bool) (src : St) (n : Nat) (v : Value) (dst : St) : copyA own src (n + 1) (.base v) dst = .ok (.base v, dst) := by simp [copyA]

theorem copyAS_le (own : Bool) (src : St) : ∀ (n : Nat) (v : AV) (dst : St), Le (copyAS own src n v dst) (copyA own src n v dst) := by
  intro n
  induction n with
  | zero => intro v dst; exact Le.error
  | succ n ih =>
    intro v dst
    have many : ∀ (l : List AV) (dst : St), Le (bif Nat.beq n 0 then copyLS (copyAS own src n) l dst else bif allB l then .ok (l, dst) else copyLS (copyAS own src n) l dst) (copyL (copyA own src n) l dst) := by
      intro l dst
      rw [beq_eq]
      by_cases h0 : n = 0
      · simp only [h0, decide_true, cond_true]
        rw [← h0]
        exact copyLS_le ih l dst
      · simp only [h0, decide_false, cond_false]
        cases hb : allB l with
        | false => simp only [cond_false]; exact copyLS_le ih l dst
        | true =>
          simp only [cond_true]
          obtain ⟨m, rfl⟩ := Nat.exists_eq_succ_of_ne_zero h0
          exact Le.of_eq (copyL_base (fun v dst => copyA_base own src m v dst) l dst hb).symm
    cases v with
    | base v => exact Le.of_eq (copyA_base own src n v dst).symm
    | slice b o len cap sz =>
      have hS : copyAS own src (n + 1) (.slice b o len cap sz) dst =
        (match src.getO b with
        | .cells cs elem ow sz' =>
          bif (bif own then bif ow then Nat.beq sz' sz else false else true) then
          bif capChkS own cap o len sz cs then
            (match takeS cs o (Nat.mul len sz) with
            | .ok l => (match (bif Nat.beq n 0 then copyLS (copyAS own src n) l dst else bif allB l then .ok (l, dst) else copyLS (copyAS own src n) l dst) with
              | .ok r => (match r with
                | ⟨l, dst⟩ => (match dst with
                  | ⟨m, h, M⟩ => .ok (.slice m 0 len none sz, ⟨Nat.succ m, .cells l elem own sz :: h, M⟩)))
              | .error e => .error e)
            | .error e => .error e)
          else .error "copy not own"
          else .error "copy not own"
        | _ => .error "copy cells") := rfl
      rw [hS]
      simp only [copyA]
      cases hob : src.getO b with
      | cells cs elem ow sz' =>
        simp only
        rw [capChkS_eq]
        have hc1 : (bif own then bif ow then Nat.beq sz' sz else false else true) = (!own || (ow && sz' == sz)) := by
          rw [beq_eq]
          cases own <;> cases ow <;> simp <;> rfl
        rw [hc1]
        cases h1 : (!own || (ow && sz' == sz)) with
        | false => exact Le.error
        | true =>
          simp only [cond_true]
          cases h2 : capChk own cap o len sz cs.length with
          | false => exact Le.error
          | true =>
            simp only [cond_true, Bool.and_self, if_true]
            have ht : takeS cs o (Nat.mul len sz) = takeN cs o (len * sz) := takeS_eq ..
            rw [ht]
            refine Le.step (Le.refl _) (fun e he => ⟨e, by rw [he]⟩) fun l hl => ?_
            rw [hl]
            simp only
            refine Le.step (many l dst) (fun e he => ⟨e, by rw [he]⟩) fun r hr => ?_
            rw [hr]
            obtain ⟨l', m, h, M⟩ := r
            exact Le.refl _
      | _ => exact Le.error
    | iface t v =>
      show Le (match copyAS own src n v dst with
        | .ok r => (match r with
          | ⟨v, dst⟩ => (.ok (AV.iface t v, dst) : R (AV × St)))
        | .error e => .error e) _
      simp only [copyA]
      refine Le.step (ih v dst) (fun e he => ⟨e, by rw [he]⟩) fun r hr => ?_
      rw [hr]
      exact Le.refl _
    | agg l =>
      show Le (match (bif Nat.beq n 0 then copyLS (copyAS own src n) l dst else bif allB l then .ok (l, dst) else copyLS (copyAS own src n) l dst) with
        | .ok r => (match r with
          | ⟨l, dst⟩ => (.ok (AV.agg l, dst) : R (AV × St)))
        | .error e => .error e) _
      simp only [copyA]
      refine Le.step (many l dst) (fun e he => ⟨e, by rw [he]⟩) fun r hr => ?_
      rw [hr]
      exact Le.refl _
    | tuple l =>
      show Le (match (bif Nat.beq n 0 then copyLS (copyAS own src n) l dst else bif allB l then .ok (l, dst) else copyLS (copyAS own src n) l dst) with
        | .ok r => (match r with
          | ⟨l, dst⟩ => (.ok (AV.tuple l, dst) : R (AV × St)))
        | .error e => .error e) _
      simp only [copyA]
      refine Le.step (many l dst) (fun e he => ⟨e, by rw [he]⟩) fun r hr => ?_
      rw [hr]
      exact Le.refl _
    | _ => exact Le.refl _

theorem refsL_base {f : AV → List Nat} (h : ∀ v, f (.base v) = []) : ∀ l : List AV, allB l = true → refsL f l = []
  | [], _ => rfl
  | x :: l, hb => by
    rw [allB_cons] at hb
    cases x with
    | base v =>
      simp only at hb
      simp [refsL, h, refsL_base h l hb]
    | _ => simp at hb

theorem refsAS_eq (src : St) : ∀ (n : Nat) (v : AV), refsAS src n v = refsA src n v := by
  intro n
  induction n with
  | zero => intro v; rfl
  | succ n ih =>
    intro v
    have hf : refsAS src n = refsA src n := funext ih
    have hb : ∀ v, refsA src n (.base v) = [] := by intro v; cases n <;> rfl
    have many : ∀ l : List AV, (bif allB l then [] else refsL (refsAS src n) l) = refsL (refsA src n) l := by
      intro l
      rw [hf]
      cases h : allB l with
      | false => rfl
      | true => simp [refsL_base hb l h]
    cases v with
    | base v => rfl
    | slice b o len cap sz =>
      show (match src.getO b with
      | .cells cs _ _ _ => (match takeS cs o (Nat.mul len sz) with
        | .ok l => b :: (bif allB l then [] else refsL (refsAS src n) l)
        | .error _ => b :: refsL (refsAS src n) ((cs.drop o).take (len * sz)))
      | _ => []) = _
      simp only [refsA]
      cases src.getO b with
      | cells cs e ow s =>
        simp only
        have ht : takeS cs o (Nat.mul len sz) = takeN cs o (len * sz) := takeS_eq ..
        rw [ht]
        cases h : takeN cs o (len * sz) with
        | ok l =>
          simp only
          rw [many]
          have : l = (cs.drop o).take (len * sz) := by
            unfold takeN at h
            split at h
            · simp at h; exact h.symm
            · cases h
          rw [this]
        | error e => simp only; rw [hf]
      | _ => rfl
    | iface t v => exact ih v
    | agg l => exact many l
    | tuple l => exact many l
    | _ => rfl

theorem findS_eq (f : FuncId) (args : List AV) (h : List AO) : ∀ M : List Memo, findS f args h M = findMemo f args h M
  | [] => rfl
  | m :: M => by
    show (bif Nat.beq m.f f then bif beqLS m.args args then bif beqHS m.heap h then some m else findS f args h M else findS f args h M else findS f args h M) = _
    rw [findS_eq f args h M, beq_eq, beqLS_eq, beqHS_eq]
    conv => rhs; unfold findMemo
    by_cases h1 : m.f = f <;> cases h2 : beqL m.args args <;> cases h3 : beqH m.heap h <;> simp [h1]

theorem TR.params {n : Nat} : ∀ (l : List (Tmp × AV)) (T : RT) (L : List AV), TR n T L → TR n (paramsT n l T) (setParams l L)
  | [], _, _, h => h
  | (t, a) :: l, T, L, h => TR.params l _ _ (h.set t a)

structure FnsLe (F : FnsS) (G : Fns) : Prop where
  run : ∀ fn n rd T L todo ds pan σ, TR n T L → Le (F.run fn n rd T todo ds pan σ) (G.run { fn, T := L, todo, defers := ds, round := rd } pan σ)
  finish : ∀ fn n T L ds mode pan σ, TR n T L → Le (F.finish fn n T ds mode pan σ) (G.finish fn L ds mode pan σ)
  endLoop : ∀ fn n rd T L todo ds l e pan σ, TR n T L → Le (F.endLoop fn n rd T todo ds l e pan σ) (G.endLoop { fn, T := L, todo, defers := ds, round := rd } l e pan σ)
  call : CLe F.call G.call
  round : ∀ l args σ, Le (F.round l args σ) (G.round l args σ)

section
variable {D : Tab} {F : FnsS} {G : Fns}

theorem goS_le (H : FnsLe F G) (nx : ANext) (σ : St) : Le (goS F nx σ) (goF G nx σ) := by
  cases nx with
  | enter f args => exact H.call _ _ _
  | round l args => exact H.round _ _ _
  | _ => exact Le.error

theorem leaveS_le (H : FnsLe F G) {fn n : Nat} {rd : Option Nat} {T : RT} {L : List AV} (h : TR n T L) (todo : List AItem) (ds : List ADef) (jump : Option Code) (pan : Pan) (σ : St) :
    Le (leaveS F fn n rd T ds jump pan σ) (leaveF G { fn, T := L, todo, defers := ds, round := rd } jump pan σ) := by
  unfold leaveS leaveF
  cases rd with
  | none =>
    simp only
    cases jump with
    | none => exact H.finish _ _ _ _ _ _ _ _ h
    | some c =>
      cases c with
      | ret => exact H.finish _ _ _ _ _ _ _ _ h
      | _ => exact Le.error
  | some l =>
    simp only
    cases hd : ds.isEmpty with
    | false => exact Le.error
    | true =>
      simp only [cond_true, if_true]
      refine Le.step (Le.refl _) (fun e he => ⟨e, by rw [he]⟩) fun r hr => ?_
      rw [hr]
      exact Le.refl _

theorem panicS_le (H : FnsLe F G) {fn n : Nat} {rd : Option Nat} {T : RT} {L : List AV} (h : TR n T L) (todo : List AItem) (ds : List ADef) (v : AV) (pan : Pan) (σ : St) :
    Le (panicS F fn n rd T ds v pan σ) (panicF G { fn, T := L, todo, defers := ds, round := rd } v pan σ) := by
  unfold panicS panicF
  cases rd with
  | none => exact H.finish _ _ _ _ _ _ _ _ h
  | some l =>
    simp only
    cases hd : ds.isEmpty with
    | false => exact Le.error
    | true => exact Le.refl _

theorem runS_le (H : FnsLe F G) {fn n : Nat} {rd : Option Nat} {T : RT} {L : List AV} (h : TR n T L) (todo : List AItem) (ds : List ADef) (pan : Pan) (σ : St) :
    Le (runS D F fn n rd T todo ds pan σ) (runF D G { fn, T := L, todo, defers := ds, round := rd } pan σ) := by
  have run : ∀ todo ds pan σ, Le (F.run fn n rd T todo ds pan σ) (G.run { fn, T := L, todo, defers := ds, round := rd } pan σ) := fun todo ds pan σ => H.run _ _ _ _ _ _ _ _ _ h
  cases todo with
  | nil => exact leaveS_le H h [] ds none pan σ
  | cons it k =>
    cases it with
    | inBlock id => exact run _ _ _ _
    | inScope c => exact run _ _ _ _
    | inLoop c => exact run _ _ _ _
    | beginRound =>
      cases rd with
      | none => exact Le.error
      | some l =>
        simp only [runS, runF]
        refine Le.step (Le.refl _) (fun e he => ⟨e, by rw [he]⟩) fun r hr => ?_
        rw [hr]
        simp only
        split
        · exact run _ _ _ _
        · exact Le.error
    | code c =>
      cases c with
      | ret => exact leaveS_le H h (.code .ret :: k) ds (some .ret) pan σ
      | skip => exact run _ _ _ _
      | label l => exact run _ _ _ _
      | seq a b => exact run _ _ _ _
      | block id c => exact run _ _ _ _
      | loop c => exact run _ _ _ _
      | scope c => exact run _ _ _ _
      | refuse s => exact Le.error
      | cond c x y =>
        simp only [runS, runF, codeC]
        rw [h.ev]
        cases hv : evalO D L c with
        | base v =>
          cases v with
          | bool b => cases b <;> exact run _ _ _ _
          | _ => exact Le.error
        | _ => exact Le.error
      | exit id =>
        simp only [runS, runF, codeC]
        cases exitTo id k with
        | none => exact leaveS_le H h _ ds _ pan σ
        | some k' => exact run _ _ _ _
      | goto l =>
        simp only [runS, runF, codeC]
        cases gotoIn l k with
        | none => exact leaveS_le H h _ ds _ pan σ
        | some k' => exact run _ _ _ _
      | region id ops draw =>
        simp only [runS, runF, codeC]
        refine Le.trans (regionC_le (D := D) (K' := fun L ds pan σ => G.run { fn, T := L, todo := k, defers := ds, round := rd } pan σ)
          (Kp' := fun v L ds pan σ => panicF G { fn, T := L, todo := .code (.region id ops draw) :: k, defers := ds, round := rd } v pan σ) H.call H.round
          (fun T L ds pan σ hT => H.run _ _ _ _ _ _ _ _ _ hT) (fun v T L ds pan σ hT => panicS_le H hT _ ds v pan σ) h ds pan σ) (Le.of_eq ?_)
        congr 1
      | rangeFunc f params assign body =>
        simp only [runS, runF, codeC]
        rw [h.ev]
        cases rd with
        | none =>
          simp only
          refine Le.step (Le.refl _) (fun e he => ⟨e, by rw [he]⟩) fun nx hnx => ?_
          rw [hnx]
          simp only
          rw [h.toL]
          refine Le.step (goS_le H nx _) (fun e he => ⟨e, by rw [he]⟩) fun r hr => ?_
          rw [hr]
          exact H.endLoop _ _ _ _ _ _ _ _ _ _ _ h
        | some l0 =>
          simp only
          refine Le.step (Le.refl _) (fun e he => ⟨e, by rw [he]⟩) fun r0 hr0 => ?_
          rw [hr0]
          simp only
          refine Le.step (Le.refl _) (fun e he => ⟨e, by rw [he]⟩) fun nx hnx => ?_
          rw [hnx]
          simp only
          rw [h.toL]
          refine Le.step (goS_le H nx _) (fun e he => ⟨e, by rw [he]⟩) fun r hr => ?_
          rw [hr]
          exact H.endLoop _ _ _ _ _ _ _ _ _ _ _ h

theorem endLoopS_le (H : FnsLe F G) {fn n : Nat} {rd : Option Nat} {T : RT} {L : List AV} (h : TR n T L) (todo : List AItem) (ds : List ADef) (l : Nat) (e : AEnd) (pan : Pan) (σ : St) :
    Le (endLoopS F fn n rd T todo ds l e pan σ) (endLoopF G { fn, T := L, todo, defers := ds, round := rd } l e pan σ) := by
  unfold endLoopS endLoopF
  cases e with
  | panic v => exact panicS_le H h todo ds v pan σ
  | ret v =>
    simp only
    refine Le.step (Le.refl _) (fun e he => ⟨e, by rw [he]⟩) fun r hr => ?_
    rw [hr]
    simp only
    split
    · exact Le.error
    · cases hp : r.pending with
      | none => exact H.run _ _ _ _ _ _ _ _ _ h
      | some c => exact H.run _ _ _ _ _ _ _ _ _ h

theorem enterS_le (H : FnsLe F G) (f : FuncId) (args : List AV) (pan : Pan) (σ : St) :
    Le (enterS D F f args pan σ) (enterFr D f args >>= fun fr => G.run fr pan σ) := by
  unfold enterS enterC
  cases hf : D.func f with
  | none => exact Le.error
  | some fn =>
    simp only
    cases hb : fn.body with
    | none => exact Le.error
    | some c =>
      simp only [cond_true]
      rw [ble_eq', lenL_eq]
      by_cases hl : args.length ≤ fn.ntmps
      · simp only [hl, decide_true, cond_true]
        refine Le.trans (H.run _ _ _ _ _ _ _ _ _ (TR.args hl)) (Le.of_eq ?_)
        simp [enterFr, hf, hb, bind, Except.bind]
      · simp only [hl, decide_false, cond_false]; exact Le.error

theorem resultS_le {n : Nat} {σ : St} {T : RT} {L : List AV} (h : TR n T L) : ∀ l : List ResultVar, Le (resultS D n σ T l) (resultV D σ L l)
  | [] => Le.refl _
  | .tmp t :: l => by
    show Le (match resultS D n σ T l with
      | .ok r => .ok ((getC n t).run T :: r)
      | .error e => .error e) _
    unfold resultV
    refine Le.step (resultS_le h l) (fun e he => ⟨e, by rw [he]⟩) fun r hr => ?_
    rw [hr, h.getC]
    exact Le.refl _
  | .cell a t :: l => by
    show Le (match (loadC D t).run σ ((getC n a).run T) with
      | .ok v => (match resultS D n σ T l with
        | .ok r => .ok (v :: r)
        | .error e => .error e)
      | .error e => .error e) _
    unfold resultV
    rw [h.getC]
    refine Le.step (loadC_le _ _ _) (fun e he => ⟨e, by rw [he]⟩) fun v hv => ?_
    rw [hv]
    simp only
    refine Le.step (resultS_le h l) (fun e he => ⟨e, by rw [he]⟩) fun r hr => ?_
    rw [hr]
    exact Le.refl _

theorem finishS_le (H : FnsLe F G) {fn n : Nat} {T : RT} {L : List AV} (h : TR n T L) (ds : List ADef) (mode : Option AV) (pan : Pan) (σ : St) :
    Le (finishS D F fn n T ds mode pan σ) (finishF D G fn L ds mode pan σ) := by
  unfold finishS finishF
  cases ds with
  | nil =>
    simp only
    cases mode with
    | some v => exact Le.refl _
    | none =>
      simp only [resC, resultsV]
      cases D.func fn with
      | none => exact Le.error
      | some f =>
        simp only
        rw [bind_assoc']
        refine Le.step (resultS_le h _) (fun e he => ⟨e, by rw [he]⟩) fun vs hvs => ?_
        rw [hvs]
        cases vs with
        | nil => exact Le.refl _
        | cons v l =>
          cases l with
          | nil => exact Le.refl _
          | cons w l => exact Le.refl _
  | cons d ds =>
    cases d with
    | collected r =>
      simp only
      refine Le.step (Le.refl _) (fun e he => ⟨e, by rw [he]⟩) fun o ho => ?_
      rw [ho]
      cases o with
      | deferred calls =>
        cases calls with
        | none => exact Le.error
        | some calls => exact H.finish _ _ _ _ _ _ _ _ h
      | _ => exact Le.error
    | fn g cap args =>
      simp only
      refine Le.step (Le.refl _) (fun e he => ⟨e, by rw [he]⟩) fun nx hnx => ?_
      rw [hnx]
      cases nx with
      | enter f as =>
        simp only
        have := enterS_le (D := D) H f as (mode.map fun v => (v, false)) σ
        refine Le.trans (Le.step (y := enterFr D f as >>= fun fr => G.run fr (mode.map fun v => (v, false)) σ) (g := fun r => match r with
            | (e, p, σ) => match e with
              | .ret _ => match p with
                | some (v, false) => G.finish fn L ds (some v) pan σ
                | _ => G.finish fn L ds none pan σ
              | .panic v => match p with
                | none => G.finish fn L ds (some v) pan σ
                | some _ => .error "panic in a deferred call while panicking") this (fun e he => ⟨e, by rw [he]⟩) fun r hr => ?_) (Le.of_eq ?_)
        · rw [hr]
          obtain ⟨e, p, σ1⟩ := r
          cases e with
          | ret v =>
            cases p with
            | none => exact H.finish _ _ _ _ _ _ _ _ h
            | some p =>
              obtain ⟨v', r'⟩ := p
              cases r' with
              | false => exact H.finish _ _ _ _ _ _ _ _ h
              | true => exact H.finish _ _ _ _ _ _ _ _ h
          | panic v =>
            cases p with
            | none => exact H.finish _ _ _ _ _ _ _ _ h
            | some p => exact Le.error
        · rw [bind_assoc']
          rfl
      | _ => exact Le.error

theorem memoS_le (m : Memo) (σ : St) : Le (memoS m σ) (memoF m σ) := by
  unfold memoS memoF
  refine Le.step (copyAS_le true _ copyFuel m.val σ) (fun e he => ⟨e, by rw [he]⟩) fun r hr => ?_
  rw [hr]
  exact Le.refl _

theorem pureS_le (H : FnsLe F G) (f : FuncId) (args : List AV) (σX : St) : Le (pureS D F f args σX) (pureF D G f args σX) := by
  unfold pureS
  have hE := enterS_le (D := D) H f args none σX
  intro a ha
  cases hr : enterS D F f args none σX with
  | error e => rw [hr] at ha; cases ha
  | ok r =>
    obtain ⟨e, p, σ2⟩ := r
    rw [hr] at ha
    have hD := hE _ hr
    simp only [bind_ok] at hD
    obtain ⟨fr, hfr, hrun⟩ := hD
    cases e with
    | panic v => cases ha
    | ret v =>
      simp only at ha
      rw [refsAS_eq] at ha
      cases hn : nodup (refsA σ2 copyFuel v) with
      | false => rw [hn] at ha; cases ha
      | true =>
        rw [hn] at ha
        simp only [cond_true] at ha
        cases hc : copyAS true σ2 copyFuel v (freshSt D .e) with
        | error e => rw [hc] at ha; cases ha
        | ok r =>
          obtain ⟨y, nY, hY, MY⟩ := r
          rw [hc] at ha
          simp only at ha
          rw [refsAS_eq] at ha
          have hcD := copyAS_le _ _ _ _ _ _ hc
          cases hn2 : nodup (refsA (bareSt .e hY) copyFuel y) with
          | false => rw [hn2] at ha; cases ha
          | true =>
            rw [hn2] at ha
            simp only [cond_true] at ha
            simp only [pureF, bind_ok]
            refine ⟨fr, hfr, (.ret v, p, σ2), hrun, ?_⟩
            simp only [hn, if_true, bind_ok]
            refine ⟨(y, ⟨nY, hY, MY⟩), hcD, ?_⟩
            simp only [hn2, if_true]
            exact ha

theorem callS_le (H : FnsLe F G) : CLe (callS D F) (callF D G) := by
  intro f args σ
  unfold callS callF
  cases hp : D.pure f with
  | false =>
    simp only [cond_false, Bool.false_eq_true, if_false]
    unfold plainF
    refine Le.trans (Le.step (y := enterFr D f args >>= fun fr => G.run fr none σ) (g := fun r => match r with | (e, _, σ) => .ok (e, σ)) (enterS_le H f args none σ) (fun e he => ⟨e, by rw [he]⟩) fun r hr => ?_) (Le.of_eq ?_)
    · rw [hr]; exact Le.refl _
    · rw [bind_assoc']; rfl
  | true =>
    obtain ⟨n, l, M⟩ := σ
    simp only [cond_true, if_true]
    refine Le.step (copyLS_le (fun v dst => copyAS_le false ⟨n, l, M⟩ copyFuel v dst) args (freshSt D M)) (fun e he => ⟨e, by rw [he]⟩) fun r hr => ?_
    rw [hr]
    obtain ⟨args', nX, hX, MX⟩ := r
    simp only
    rw [findS_eq]
    cases hfm : findMemo f args' hX (MX.get (pth f)) with
    | some m => exact memoS_le _ _
    | none =>
      simp only
      refine Le.step (pureS_le H f args' _) (fun e he => ⟨e, by rw [he]⟩) fun r hr => ?_
      rw [hr]
      exact memoS_le _ _

theorem roundS_le (H : FnsLe F G) (l : Nat) (args : List AV) (σ : St) : Le (roundS D F l args σ) (roundF D G l args σ) := by
  unfold roundS roundF
  refine Le.step (Le.refl _) (fun e he => ⟨e, by rw [he]⟩) fun r hr => ?_
  rw [hr]
  simp only
  cases D.func r.fn with
  | none => exact Le.error
  | some fn =>
    simp only
    split
    · have hT : TR (lenL r.T) (paramsT (lenL r.T) (r.params.zip args) (fillT (lenL r.T) r.T 0 .e)) (setParams (r.params.zip args) r.T) := by
        refine TR.params _ _ _ ?_
        have := TR.args (l := r.T) (n := lenL r.T) (by rw [lenL_eq]; exact Nat.le_refl _)
        rw [lenL_eq, Nat.sub_self] at this
        simpa [replUndef, lenL_eq] using this
      refine Le.step (H.run _ _ _ _ _ _ _ _ _ hT) (fun e he => ⟨e, by rw [he]⟩) fun r hr => ?_
      rw [hr]
      exact Le.refl _
    · exact Le.error

theorem noFns_le : FnsLe noFnsS noFns where
  run := fun _ _ _ _ _ _ _ _ _ _ => Le.error
  finish := fun _ _ _ _ _ _ _ _ _ => Le.error
  endLoop := fun _ _ _ _ _ _ _ _ _ _ _ _ => Le.error
  call := fun _ _ _ => Le.error
  round := fun _ _ _ => Le.error

theorem fns_le (D : Tab) : ∀ n, FnsLe (fnsS D n) (fns D n)
  | 0 => noFns_le
  | n + 1 => {
    run := fun _ _ _ _ _ todo ds pan σ h => runS_le (fns_le D n) h todo ds pan σ
    finish := fun _ _ _ _ ds mode pan σ h => finishS_le (fns_le D n) h ds mode pan σ
    endLoop := fun _ _ _ _ _ todo ds l e pan σ h => endLoopS_le (fns_le D n) h todo ds l e pan σ
    call := callS_le (fns_le D n)
    round := roundS_le (fns_le D n) }

end
end Go.Dt
