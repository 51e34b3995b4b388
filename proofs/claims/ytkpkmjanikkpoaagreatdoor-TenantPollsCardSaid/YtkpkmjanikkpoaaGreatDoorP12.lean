/-
  More fuel says no less: the deterministic reading is monotone in its fuel. No statement of this seat stands here.
-/
import Derived.Test.YtkpkmjanikkpoaaGreatDoorP10
namespace Go.Dt

theorem Le.bnd {α β : Type} {x y : R α} {f g : α → R β} (h : Le x y) (k : ∀ a, Le (f a) (g a)) : Le (x >>= f) (y >>= g) := by
  intro b hb
  rw [bind_ok] at hb ⊢
  obtain ⟨a, ha, hb⟩ := hb
  exact ⟨a, h a ha, k a b hb⟩

def RLe (r r' : RoundT) : Prop := ∀ l args σ, Le (r l args σ) (r' l args σ)

structure FLe (F G : Fns) : Prop where
  run : ∀ fr pan σ, Le (F.run fr pan σ) (G.run fr pan σ)
  finish : ∀ f T ds m pan σ, Le (F.finish f T ds m pan σ) (G.finish f T ds m pan σ)
  endLoop : ∀ fr l e pan σ, Le (F.endLoop fr l e pan σ) (G.endLoop fr l e pan σ)
  call : CLe F.call G.call
  round : RLe F.round G.round

section
variable {D : Tab}

theorem runOne_mono {call call' : CallT} {round round' : RoundT} (hc : CLe call call') (hr : RLe round round') (b : Bool) (o : Oper) (T : List AV) (ds : List ADef) (pan : Pan) (σ : St) :
    Le (runOne D call round b o T ds pan σ) (runOne D call' round' b o T ds pan σ) := by
  unfold runOne
  refine Le.bnd (Le.refl _) fun p => ?_
  obtain ⟨nx, σ⟩ := p
  cases nx with
  | enter f args => exact Le.bnd (hc f args σ) fun e => Le.refl _
  | round l args => exact Le.bnd (hr l args σ) fun e => Le.refl _
  | _ => exact Le.refl _

theorem runSeq_mono {call call' : CallT} {round round' : RoundT} (hc : CLe call call') (hr : RLe round round') (b : Bool) (ops : Array Oper) :
    ∀ (l : List Oper) (T : List AV) (ds : List ADef) (pan : Pan) (σ : St), Le (runSeq D call round b ops l T ds pan σ) (runSeq D call' round' b ops l T ds pan σ)
  | [], _, _, _, _ => Le.refl _
  | o :: rest, T, ds, pan, σ => by
    unfold runSeq
    split
    · refine Le.bnd (runOne_mono hc hr b o T ds pan σ) fun r => ?_
      cases r with
      | go T ds pan σ => exact runSeq_mono hc hr b ops rest T ds pan σ
      | panic => exact Le.refl _
    · exact runSeq_mono hc hr b ops rest _ ds pan σ

theorem runDraw_mono {call call' : CallT} {round round' : RoundT} (hc : CLe call call') (hr : RLe round round') (b : Bool) (ops : Array Oper) :
    ∀ (l : List PlanItem) (sn : List St) (T : List AV) (ds : List ADef) (pan : Pan) (σ : St), Le (runDraw D call round b ops l sn T ds pan σ) (runDraw D call' round' b ops l sn T ds pan σ)
  | [], _, _, _, _, _ => Le.refl _
  | it :: rest, sn, T, ds, pan, σ => by
    unfold runDraw
    split
    · exact Le.refl _
    · rename_i o _
      split
      · split
        · split
          · refine Le.bnd (runOne_mono hc hr b o T ds pan σ) fun r => ?_
            cases r with
            | go T ds pan σ' =>
              try simp only []
              split
              · exact runDraw_mono hc hr b ops rest _ T ds pan σ'
              · exact Le.refl _
            | panic => exact Le.refl _
          · exact Le.refl _
        · split
          · exact Le.bnd (Le.refl _) fun v => runDraw_mono hc hr b ops rest _ _ ds pan σ
          · refine Le.bnd (Le.refl _) fun v => ?_
            try simp only []
            split
            · exact runDraw_mono hc hr b ops rest _ _ ds pan σ
            · exact Le.refl _
          · refine Le.bnd (Le.refl _) fun p => ?_
            obtain ⟨v, ob⟩ := p
            try simp only []
            split
            · exact runDraw_mono hc hr b ops rest _ _ ds pan _
            · exact Le.refl _
          · exact Le.refl _
      · exact runDraw_mono hc hr b ops rest _ _ ds pan σ

theorem runRegion_mono {call call' : CallT} {round round' : RoundT} (hc : CLe call call') (hr : RLe round round') (b : Bool) (ops : Array Oper) (d : Bool) (T : List AV) (ds : List ADef) (pan : Pan) (σ : St) :
    Le (runRegion D call round b ops d T ds pan σ) (runRegion D call' round' b ops d T ds pan σ) := by
  unfold runRegion
  split
  · split
    · refine Le.bnd (runDraw_mono hc hr b ops _ _ T ds pan σ) fun r => ?_
      cases r with
      | go T ds pan σ =>
        try simp only []
        split
        · split
          · exact runSeq_mono hc hr b ops _ T ds pan σ
          · exact Le.refl _
        · exact Le.refl _
      | panic => exact Le.refl _
    · exact Le.refl _
  · exact runSeq_mono hc hr b ops _ T ds pan σ

variable {F G : Fns} (h : FLe F G)
include h
theorem leaveF_mono (fr : AFr) (j : Option Code) (pan : Pan) (σ : St) : Le (leaveF F fr j pan σ) (leaveF G fr j pan σ) := by
  unfold leaveF
  split
  · split
    · exact h.finish _ _ _ _ _ _
    · exact h.finish _ _ _ _ _ _
    · exact Le.refl _
  · exact Le.refl _
theorem panicF_mono (fr : AFr) (v : AV) (pan : Pan) (σ : St) : Le (panicF F fr v pan σ) (panicF G fr v pan σ) := by
  unfold panicF
  split
  · exact h.finish _ _ _ _ _ _
  · exact Le.refl _
theorem goF_mono (nx : ANext) (σ : St) : Le (goF F nx σ) (goF G nx σ) := by
  unfold goF
  split
  · exact h.call _ _ _
  · exact h.round _ _ _
  · exact Le.refl _

theorem runF_mono (fr : AFr) (pan : Pan) (σ : St) : Le (runF D F fr pan σ) (runF D G fr pan σ) := by
  unfold runF
  split
  · exact leaveF_mono h _ _ _ _
  · exact h.run _ _ _
  · exact h.run _ _ _
  · exact h.run _ _ _
  · split
    · refine Le.bnd (Le.refl _) fun r => ?_
      try simp only []
      split
      · exact h.run _ _ _
      · exact Le.refl _
    · exact Le.refl _
  · split
    · exact leaveF_mono h _ _ _ _
    · exact h.run _ _ _
    · exact h.run _ _ _
    · exact h.run _ _ _
    · exact Le.bnd (Le.refl _) fun b => h.run _ _ _
    · exact h.run _ _ _
    · exact h.run _ _ _
    · exact h.run _ _ _
    · split
      · exact h.run _ _ _
      · exact leaveF_mono h _ _ _ _
    · split
      · exact h.run _ _ _
      · exact leaveF_mono h _ _ _ _
    · refine Le.bnd (runRegion_mono h.call h.round _ _ _ _ _ _ _) fun r => ?_
      cases r with
      | go T ds pan σ => exact h.run _ _ _
      | panic v T ds pan σ => exact panicF_mono h _ _ _ _
    · split
      · refine Le.bnd (Le.refl _) fun r0 => Le.bnd (Le.refl _) fun nx => Le.bnd (goF_mono h _ _) fun e => ?_
        exact h.endLoop _ _ _ _ _
      · refine Le.bnd (Le.refl _) fun nx => Le.bnd (goF_mono h _ _) fun e => ?_
        exact h.endLoop _ _ _ _ _
    · exact Le.refl _

theorem endLoopF_mono (fr : AFr) (l : Nat) (e : AEnd) (pan : Pan) (σ : St) : Le (endLoopF F fr l e pan σ) (endLoopF G fr l e pan σ) := by
  unfold endLoopF
  split
  · refine Le.bnd (Le.refl _) fun r => ?_
    try simp only []
    split
    · exact Le.refl _
    · split
      · exact h.run _ _ _
      · exact h.run _ _ _
  · exact panicF_mono h _ _ _ _

theorem finishF_mono (f : FuncId) (T : List AV) (ds : List ADef) (m : Option AV) (pan : Pan) (σ : St) : Le (finishF D F f T ds m pan σ) (finishF D G f T ds m pan σ) := by
  unfold finishF
  split
  · exact Le.refl _
  · refine Le.bnd (Le.refl _) fun o => ?_
    try simp only []
    split
    · exact h.finish _ _ _ _ _ _
    · exact Le.refl _
  · refine Le.bnd (Le.refl _) fun nx => ?_
    try simp only []
    split
    · refine Le.bnd (Le.refl _) fun fr => Le.bnd (h.run _ _ _) fun e => ?_
      obtain ⟨e, p, σ⟩ := e
      try simp only []
      split
      · split
        · exact h.finish _ _ _ _ _ _
        · exact h.finish _ _ _ _ _ _
      · split
        · exact h.finish _ _ _ _ _ _
        · exact Le.refl _
    · exact Le.refl _

theorem plainF_mono (f : FuncId) (args : List AV) (σ : St) : Le (plainF D F f args σ) (plainF D G f args σ) := by
  unfold plainF
  exact Le.bnd (Le.refl _) fun fr => Le.bnd (h.run _ _ _) fun e => Le.refl _

theorem pureF_mono (f : FuncId) (args : List AV) (σ : St) : Le (pureF D F f args σ) (pureF D G f args σ) := by
  unfold pureF
  exact Le.bnd (Le.refl _) fun fr => Le.bnd (h.run _ _ _) fun e => Le.refl _

theorem callF_mono : CLe (callF D F) (callF D G) := by
  intro f args σ
  unfold callF
  split
  · refine Le.bnd (Le.refl _) fun p => ?_
    obtain ⟨args', σX⟩ := p
    try simp only []
    split
    · exact Le.refl _
    · exact Le.bnd (pureF_mono h _ _ _) fun m => Le.refl _
  · exact plainF_mono h _ _ _

theorem roundF_mono : RLe (roundF D F) (roundF D G) := by
  intro l args σ
  unfold roundF
  refine Le.bnd (Le.refl _) fun r => ?_
  try simp only []
  split
  · exact Le.refl _
  · split
    · exact Le.bnd (h.run _ _ _) fun e => Le.refl _
    · exact Le.refl _

theorem nextFns_mono : FLe (nextFns D F) (nextFns D G) :=
  ⟨runF_mono h, finishF_mono h, endLoopF_mono h, callF_mono h, roundF_mono h⟩
omit h
theorem fns_succ : ∀ n, FLe (fns D n) (fns D (n + 1))
  | 0 => ⟨fun _ _ _ => Le.error, fun _ _ _ _ _ _ => Le.error, fun _ _ _ _ _ => Le.error, fun _ _ _ => Le.error, fun _ _ _ => Le.error⟩
  | n + 1 => nextFns_mono (fns_succ n)
theorem FLe.refl (F : Fns) : FLe F F := ⟨fun _ _ _ => Le.refl _, fun _ _ _ _ _ _ => Le.refl _, fun _ _ _ _ _ => Le.refl _, fun _ _ _ => Le.refl _, fun _ _ _ => Le.refl _⟩
theorem FLe.trans {F G H : Fns} (a : FLe F G) (b : FLe G H) : FLe F H :=
  ⟨fun _ _ _ => (a.run _ _ _ ).trans (b.run _ _ _ ), fun _ _ _ _ _ _ => (a.finish _ _ _ _ _ _ ).trans (b.finish _ _ _ _ _ _ ), fun _ _ _ _ _ => (a.endLoop _ _ _ _ _ ).trans (b.endLoop _ _ _ _ _ ),
    fun _ _ _ => (a.call _ _ _).trans (b.call _ _ _), fun _ _ _ => (a.round _ _ _).trans (b.round _ _ _)⟩
theorem fns_le' {n m : Nat} (hnm : n ≤ m) : FLe (fns D n) (fns D m) := by
  induction hnm with
  | refl => exact FLe.refl _
  | step _ ih => exact ih.trans (fns_succ _)
end
end Go.Dt
namespace Go.Dt

/- the limit of the calls -/
open Classical in
noncomputable def callW (D : Tab) : CallT := fun f args σ =>
  if h : ∃ r n, (fns D n).call f args σ = .ok r then .ok h.choose else .error "no end"

theorem callW_ok {D : Tab} {f : FuncId} {args : List AV} {σ : St} {r : AEnd × St} : callW D f args σ = .ok r ↔ ∃ n, (fns D n).call f args σ = .ok r := by
  unfold callW
  constructor
  · intro h
    split at h
    · rename_i hx
      simp at h; subst h
      exact hx.choose_spec
    · cases h
  · rintro ⟨n, h⟩
    have hx : ∃ r n, (fns D n).call f args σ = .ok r := ⟨r, n, h⟩
    rw [dif_pos hx]
    obtain ⟨m, hm⟩ := hx.choose_spec
    have h1 := (fns_le' (D := D) (Nat.le_max_left n m)).call _ _ _ _ h
    have h2 := (fns_le' (D := D) (Nat.le_max_right n m)).call _ _ _ _ hm
    rw [h1] at h2
    simpa using h2.symm

/- the limit of the rounds of loops over functions -/
open Classical in
noncomputable def rndW (D : Tab) : RoundT := fun l args σ =>
  if h : ∃ r n, (fns D n).round l args σ = .ok r then .ok h.choose else .error "no end"
theorem rndW_ok {D : Tab} {l : Nat} {args : List AV} {σ : St} {r : AEnd × St} : rndW D l args σ = .ok r ↔ ∃ n, (fns D n).round l args σ = .ok r := by
  unfold rndW
  constructor
  · intro h
    split at h
    · rename_i hx
      simp at h; subst h
      exact hx.choose_spec
    · cases h
  · rintro ⟨n, h⟩
    have hx : ∃ r n, (fns D n).round l args σ = .ok r := ⟨r, n, h⟩
    rw [dif_pos hx]
    obtain ⟨m, hm⟩ := hx.choose_spec
    have h1 := (fns_le' (D := D) (Nat.le_max_left n m)).round _ _ _ _ h
    have h2 := (fns_le' (D := D) (Nat.le_max_right n m)).round _ _ _ _ hm
    rw [h1] at h2
    simpa using h2.symm

/- environments -/
abbrev Rg := Nat → AV
def putE (N : Nat) (T : Rg) (dst : Option Tmp) (v : AV) : Rg :=
  match dst with
  | some d => fun i => bif Nat.beq i d then (bif Nat.blt d N then v else T i) else T i
  | none => T
def evalE (D : Tab) (T : Rg) : Operand → AV
  | .tmp t => T t
  | .const v => ofConst v
  | .global g => bif Nat.blt g D.nglob then .ptr g 0 else .base (.pointer (some ⟨g, 0, none⟩))
  | .func f => .func (.func f) [] []
def isBoolV (v : AV) (want : Bool) : Bool :=
  match v with
  | .base (.bool b) => bif want then b else !b
  | _ => false
def wantE (N : Nat) (ops : Array Oper) (o : Oper) (T : Rg) : Bool :=
  match o.guard with
  | none => true
  | some (j, want) =>
    match (ops[j]?).bind (·.dst) with
    | some d => bif Nat.blt d N then isBoolV (T d) want else false
    | none => false
def TE (N : Nat) (T : Rg) (L : List AV) : Prop := L.length = N ∧ ∀ i, T i = L.getD i .undef

theorem TE.eval {D : Tab} {N : Nat} {T : Rg} {L : List AV} (h : TE N T L) : evalO D L = evalE D T := by
  funext x
  cases x with
  | tmp t => exact (h.2 t).symm
  | const v => rfl
  | global g =>
    simp only [evalO, evalE, blt_eq]
    by_cases hg : g < D.nglob <;> simp [hg]
  | func f => rfl
theorem TE.put {N : Nat} {T : Rg} {L : List AV} (h : TE N T L) (d : Option Tmp) (v : AV) : TE N (putE N T d v) (put L d v) := by
  cases d with
  | none => exact h
  | some d =>
    refine ⟨by simp [Dt.put, h.1], fun i => ?_⟩
    simp only [putE, Dt.put, beq_eq, blt_eq]
    by_cases hi : i = d
    · subst hi
      by_cases hn : i < N
      · simp [hn, List.getD, h.1]
      · simp [hn, h.2 i, List.getD, h.1]
    · simp [hi, h.2 i, List.getD, Ne.symm hi]
theorem TE.want {N : Nat} {T : Rg} {L : List AV} (h : TE N T L) (ops : Array Oper) (o : Oper) : wantedA ops o L = wantE N ops o T := by
  unfold wantedA wantE
  cases o.guard with
  | none => rfl
  | some g =>
    obtain ⟨j, want⟩ := g
    simp only
    unfold yieldedA
    cases hd : (ops[j]?).bind (·.dst) with
    | none => simp
    | some d =>
      simp only [Option.bind_some, blt_eq]
      by_cases hn : d < N
      · have : L[d]? = some (T d) := by
          rw [h.2 d]
          simp [List.getD, List.getElem?_eq_getElem (h.1 ▸ hn : d < L.length)]
        rw [this]
        simp only [hn, decide_true, cond_true, isBoolV]
        cases T d with
        | base v => cases v <;> simp; rename_i b; cases b <;> cases want <;> rfl
        | _ => simp
      · have : L[d]? = none := List.getElem?_eq_none (by rw [h.1]; exact Nat.not_lt.1 hn)
        rw [this]
        simp [hn]

/- regions -/
inductive RO where
  | go (T : Rg) (σ : St)
  | pan (v : AV) (σ : St)
inductive Oc where
  | nxt (T : Rg) (σ : St)
  | exit (id : Nat) (T : Rg) (σ : St)
  | ret (T : Rg) (σ : St)
  | pan (v : AV) (σ : St)
structure K (ρ : Type) where
  nxt : Rg → St → R ρ
  ret : Rg → St → R ρ
  exit : Nat → Rg → St → R ρ
  pan : AV → St → R ρ
def K.app {ρ : Type} (k : K ρ) : Oc → R ρ
  | .nxt T σ => k.nxt T σ
  | .ret T σ => k.ret T σ
  | .exit id T σ => k.exit id T σ
  | .pan v σ => k.pan v σ
def kOc : K Oc := ⟨fun T σ => .ok (.nxt T σ), fun T σ => .ok (.ret T σ), fun id T σ => .ok (.exit id T σ), fun v σ => .ok (.pan v σ)⟩
def bodyC (D : Tab) (f : Nat) : Code := match D.func f with
  | some fn => fn.body.getD .skip
  | none => .skip
def subC : Code → List Nat → Code
  | c, [] => c
  | .seq a _, 0 :: p => subC a p
  | .seq _ b, 1 :: p => subC b p
  | .cond _ a _, 0 :: p => subC a p
  | .cond _ _ b, 1 :: p => subC b p
  | .block _ b, 0 :: p => subC b p
  | .loop b, 0 :: p => subC b p
  | .scope b, 0 :: p => subC b p
  | .rangeFunc _ _ a _, 0 :: p => subC a p
  | .rangeFunc _ _ _ b, 1 :: p => subC b p
  | c, _ => c
def extK (D : Tab) (g : Nat) : ExtKind := match D.ext g with
  | some k => k
  | none => .same
def kseq {ρ : Type} (f : Rg → St → R ρ) (k : K ρ) : K ρ := ⟨f, k.ret, k.exit, k.pan⟩
def kblk {ρ : Type} (id : Nat) (k : K ρ) : K ρ := ⟨k.nxt, k.ret, fun id' T σ => match Nat.beq id' id with
  | true => k.nxt T σ
  | false => k.exit id' T σ, k.pan⟩
def retK {ρ : Type} (p : AEnd × St) (k : AV → St → R ρ) (kp : AV → St → R ρ) : R ρ :=
  match p.1 with
  | .ret v => k v p.2
  | .panic v => kp v p.2
/- single operations, by their values -/
def nilCheckV (v : AV) : R AV :=
  match v with
  | .ptr b o => .ok (.ptr b o)
  | .func (.func f) a b => .ok (.func (.func f) a b)
  | .yield l => .ok (.yield l)
  | .iface t v => .ok (.iface t v)
  | _ => .error "nilCheck"
def extractV (v : AV) (ix : Nat) : R AV :=
  match v with
  | .tuple vs => match vs[ix]? with
    | some x => .ok x
    | none => .error "extract"
  | _ => .error "extract"
def pickV (c a b : AV) : R AV := do
  let t ← asB c
  return if t then a else b
def boxA (D : Tab) (elem : Nat) (x : AV) (b : Nat) : R (AV × AO) := do
  let s ← size D elem
  return (.ptr b 0, .cells x.cells elem true s)
def buildSliceA (D : Tab) (t len : Nat) (parts : List (Nat × AV)) (b : Nat) : R (AV × AO) := do
  let elem ← sliceElem D t
  let s ← size D elem
  if len * s > 2 ^ 24 then .error "buildSlice" else do
  let z ← zeroRow D elem len
  let cells ← fill (fun i => some (i * s, s)) z parts
  return (.slice b 0 len (some len) s, .cells cells elem true s)
def makeSliceA (D : Tab) (t : Nat) (l c : AV) (b : Nat) : R (AV × AO) := do
  let elem ← sliceElem D t
  let (_, l) ← asI l
  let (_, c) ← asI c
  let i ← inf D elem
  if 0 ≤ l ∧ l ≤ c ∧ c < 2 ^ 30 ∧ i.bytes < 2 ^ 16 then do
    let s ← size D elem
    let z ← zeroRow D elem c.toNat
    return (.slice b 0 l.toNat (some c.toNat) s, .cells z elem true s)
  else .error "makeSlice"
def allocA (D : Tab) (elem : Nat) (b : Nat) : R (AV × AO) := do
  let z ← zero D elem
  let s ← size D elem
  return (.ptr b 0, .cells z.cells elem true s)
def sameR (r : R AV) (v : AV) : Bool :=
  match r with
  | .ok v' => beqA v' v
  | .error _ => false
def bindR {α β : Type} (x : R α) (f : α → R β) : R β := match x with | .ok a => f a | .error e => .error e

/- short names for the printed equations -/
def g1 (x : R AV) : R AV := bif true then x else .ok .undef
def mv (x : AV) : R AV := g1 (.ok x)
def g2 (σ : St) (x : R (AEnd × St)) : R (AEnd × St) := bif true then x else .ok (.ret .undef, σ)
def g3 (σ : St) (x : R St) : R St := bif true then x else .ok σ
def g4 (σ : St) (x : R (AV × St)) : R (AV × St) := bif true then x else .ok (.undef, σ)
def puts (N : Nat) (T : Rg) : List (Nat × AV) → Rg
  | [] => T
  | (d, v) :: l => puts N (putE N T (some d) v) l

section
variable {ρ : Type} (D : Tab) (call : CallT) (rnd : RoundT) (N : Nat)

def nextK (T : Rg) (dst : Option Tmp) (k : Rg → St → R ρ) (kp : AV → St → R ρ) (nx : ANext) (σ : St) : R ρ :=
  match nx with
  | .value v => k (putE N T dst v) σ
  | .skip => k (putE N T dst .undef) σ
  | .enter f args => bindR (call f args σ) fun p => retK p (fun v σ => k (putE N T dst v) σ) kp
  | .round l args => bindR (rnd l args σ) fun p => retK p (fun v σ => k (putE N T dst v) σ) kp
  | .panic v => kp v σ
  | _ => .error "next"

def enterQ (nx : ANext) (σ : St) : R (AEnd × St) :=
  match nx with
  | .enter f args => call f args σ
  | .round l args => rnd l args σ
  | _ => .error "enterQ"
/-- a call of a value -/
def callG (f : AV) (args : List AV) (σ : St) : R (AEnd × St) :=
  match extOf D f with
  | some kk => bindR (extV D σ kk args) fun p => .ok (.ret p.1, p.2)
  | none => bindR (callV D f args) fun nx => enterQ call rnd nx σ
def invokeQ (recv : AV) (name : String) (args : List AV) (σ : St) : R (AEnd × St) := bindR (callM D recv name args) fun nx => enterQ call rnd nx σ

/-- an act, if g -/
def actK (g : Bool) (o : Oper) (T : Rg) (σ : St) (k : Rg → St → R ρ) (kp : AV → St → R ρ) : R ρ :=
  match o.op with
  | .store t a x => bindR (bif g then storeV D σ t (evalE D T a) (evalE D T x) else .ok σ) fun σ' => k (putE N T o.dst .undef) σ'
  | .call c =>
    match c.callee with
    | .builtin b =>
      match b, c.argTypes.toList, c.args.toList with
      | .append, [t, u], [s, x] => bindR (bif g then appendV D σ t u (evalE D T s) (evalE D T x) else .ok (.undef, σ)) fun p => k (putE N T o.dst p.1) p.2
      | _, _, _ => match g with
        | true => bindR (actOp D σ (evalE D T) (.call c)) fun p => nextK call rnd N T o.dst k kp p.1 p.2
        | false => k (putE N T o.dst .undef) σ
    | .invoke recv name => bindR (bif g then invokeQ D call rnd (evalE D T recv) name (c.args.toList.map (evalE D T)) σ else .ok (.ret .undef, σ)) fun p => retK p (fun v σ => k (putE N T o.dst v) σ) kp
    | .value f => bindR (bif g then callG D call rnd (evalE D T f) (c.args.toList.map (evalE D T)) σ else .ok (.ret .undef, σ)) fun p => retK p (fun v σ => k (putE N T o.dst v) σ) kp
  | op => match g with
    | true => bindR (actOp D σ (evalE D T) op) fun p => nextK call rnd N T o.dst k kp p.1 p.2
    | false => k (putE N T o.dst .undef) σ

def oneK (g : Bool) (o : Oper) (T : Rg) (σ : St) (k : Rg → St → R ρ) (kp : AV → St → R ρ) : R ρ :=
  match clsD D o.op with
  | .pure => bindR (bif g then pureOp D (evalE D T) o.op else .ok .undef) fun v => k (putE N T o.dst v) σ
  | .read => bindR (bif g then readOp D σ (evalE D T) o.op else .ok .undef) fun v => k (putE N T o.dst v) σ
  | .alloc => match g with
    | true => bindR (allocOp D (evalE D T) o.op σ.n) fun p => k (putE N T o.dst p.1) (σ.push p.2)
    | false => k (putE N T o.dst .undef) σ
  | .act => actK D call rnd N g o T σ k kp

def seqK (ops : Array Oper) (k : Rg → St → R ρ) (kp : AV → St → R ρ) : List Oper → Rg → St → R ρ
  | [], T, σ => k T σ
  | o :: rest, T, σ => oneK D call rnd N (wantE N ops o T) o T σ (seqK ops k kp rest) kp

def sameE (T : Rg) (op : Op) (v : AV) (snap : St) : Bool := sameR (readOp D snap (evalE D T) op) v

def drawK (ops : Array Oper) (k : Rg → St → R ρ) : List PlanItem → List St → Rg → St → R ρ
  | [], _, T, σ => k T σ
  | it :: rest, snaps, T, σ =>
    match ops[it.i]? with
    | none => .error "draw"
    | some o =>
    match wantE N ops o T with
    | true =>
      match it.act with
      | true =>
        bif o.op.operands.toList.all fun x => bndA σ.n (evalE D T x) then
          oneK D call rnd N true o T σ (fun T σ' => bif Nat.ble σ.n σ'.n then drawK ops k rest (σ' :: snaps) T σ' else .error "draw n") (fun _ _ => .error "panic in a drawn region")
        else .error "draw ids"
      | false =>
        match clsD D o.op with
        | .pure => bindR (pureOp D (evalE D T) o.op) fun v => drawK ops k rest snaps (putE N T o.dst v) σ
        | .read => bindR (readOp D σ (evalE D T) o.op) fun v =>
          bif Nat.blt it.lo (lenS snaps) && (snaps.take (Nat.sub (lenS snaps) it.lo)).all (sameE D T o.op v) then drawK ops k rest snaps (putE N T o.dst v) σ else .error "unstable read"
        | .alloc => bindR (allocOp D (evalE D T) o.op σ.n) fun p =>
          bif bndO (σ.n + 1) p.2 then drawK ops k rest snaps (putE N T o.dst p.1) (σ.push p.2) else .error "draw object"
        | .act => .error "draw"
    | false => drawK ops k rest (match it.act with | true => σ :: snaps | false => snaps) (putE N T o.dst .undef) σ
where lenS : List St → Nat
  | [] => 0
  | _ :: l => Nat.succ (lenS l)

noncomputable def regionK (ops : Array Oper) (draw : Bool) (T : Rg) (σ : St) (k : Rg → St → R ρ) (kp : AV → St → R ρ) : R ρ :=
  match draw with
  | true =>
    match drawOkF ops (D.cut ops) with
    | true =>
      drawK D call rnd N ops (fun T σ => match Nat.ble ops.size (D.cut ops) with
        | true => k T σ
        | false =>
          match Nat.beq ops.size (Nat.succ (D.cut ops)) && canE ops (D.cut ops) 0 (D.cut ops) with
          | true => seqK D call rnd N ops k kp (ops.toList.drop (D.cut ops)) T σ
          | false => .error "rest") (planM ops (D.cut ops)) [σ] T σ
    | false => .error "plan"
  | false => seqK D call rnd N ops k kp ops.toList T σ

/- direct -/
def nextE (T : Rg) (dst : Option Tmp) (nx : ANext) (σ : St) : R RO :=
  match nx with
  | .value v => .ok (.go (putE N T dst v) σ)
  | .skip => .ok (.go (putE N T dst .undef) σ)
  | .enter f args => bindR (call f args σ) fun p =>
    match p.1 with
    | .ret v => .ok (.go (putE N T dst v) p.2)
    | .panic v => .ok (.pan v p.2)
  | .round l args => bindR (rnd l args σ) fun p =>
    match p.1 with
    | .ret v => .ok (.go (putE N T dst v) p.2)
    | .panic v => .ok (.pan v p.2)
  | .panic v => .ok (.pan v σ)
  | _ => .error "next"
def RO.app (k : Rg → St → R ρ) (kp : AV → St → R ρ) : RO → R ρ
  | .go T σ => k T σ
  | .pan v σ => kp v σ
def oneE (o : Oper) (T : Rg) (σ : St) : R RO := bindR (execOp D (evalE D T) σ o.op) fun p => nextE call rnd N T o.dst p.1 p.2
def seqE (ops : Array Oper) : List Oper → Rg → St → R RO
  | [], T, σ => .ok (.go T σ)
  | o :: rest, T, σ =>
    bif wantE N ops o T then bindR (oneE D call rnd N o T σ) (RO.app (seqE ops rest) fun v σ => .ok (.pan v σ)) else seqE ops rest (putE N T o.dst .undef) σ
def drawE (ops : Array Oper) : List PlanItem → List St → Rg → St → R (Rg × St)
  | [], _, T, σ => .ok (T, σ)
  | it :: rest, snaps, T, σ =>
    match ops[it.i]? with
    | none => .error "draw"
    | some o =>
    bif wantE N ops o T then
      bif it.act then
        bif o.op.operands.toList.all fun x => bndA σ.n (evalE D T x) then
          bindR (oneE D call rnd N o T σ) (RO.app (fun T σ' => bif Nat.ble σ.n σ'.n then drawE ops rest (σ' :: snaps) T σ' else .error "draw n") (fun _ _ => .error "panic in a drawn region"))
        else .error "draw ids"
      else
        match clsD D o.op with
        | .pure => bindR (pureOp D (evalE D T) o.op) fun v => drawE ops rest snaps (putE N T o.dst v) σ
        | .read => bindR (readOp D σ (evalE D T) o.op) fun v =>
          bif Nat.blt it.lo (drawK.lenS snaps) && (snaps.take (Nat.sub (drawK.lenS snaps) it.lo)).all (sameE D T o.op v) then drawE ops rest snaps (putE N T o.dst v) σ else .error "unstable read"
        | .alloc => bindR (allocOp D (evalE D T) o.op σ.n) fun p =>
          bif bndO (σ.n + 1) p.2 then drawE ops rest snaps (putE N T o.dst p.1) (σ.push p.2) else .error "draw object"
        | .act => .error "draw"
    else drawE ops rest (bif it.act then σ :: snaps else snaps) (putE N T o.dst .undef) σ
noncomputable def regionE (ops : Array Oper) (draw : Bool) (T : Rg) (σ : St) : R RO :=
  bif draw then
    bif drawOkF ops (D.cut ops) then
      bindR (drawE D call rnd N ops (planM ops (D.cut ops)) [σ] T σ) fun p => bif Nat.ble ops.size (D.cut ops) then .ok (.go p.1 p.2) else
        bif Nat.beq ops.size (Nat.succ (D.cut ops)) && canE ops (D.cut ops) 0 (D.cut ops) then seqE D call rnd N ops (ops.toList.drop (D.cut ops)) p.1 p.2 else .error "rest"
    else .error "plan"
  else seqE D call rnd N ops ops.toList T σ

/- loops: the limit -/
def loopN (step : Rg → St → R Oc) : Nat → Rg → St → R Oc
  | 0, _, _ => .error "fuel"
  | n + 1, T, σ => match step T σ with
    | .ok (.nxt T σ) => loopN step n T σ
    | r => r
open Classical in
noncomputable def loopLim (step : Rg → St → R Oc) (T : Rg) (σ : St) : R Oc :=
  if h : ∃ r n, loopN step n T σ = .ok r then .ok h.choose else .error "no end"

def condR (v : AV) (a b : R ρ) : R ρ :=
  match v with
  | .base (.bool c) => bif c then a else b
  | _ => .error "bool"

noncomputable def dd : Code → Rg → St → R Oc
  | .skip, T, σ => .ok (.nxt T σ)
  | .label _, T, σ => .ok (.nxt T σ)
  | .ret, T, σ => .ok (.ret T σ)
  | .exit id, T, σ => .ok (.exit id T σ)
  | .seq a b, T, σ => bindR (dd a T σ) fun o => match o with
    | .nxt T σ => dd b T σ
    | o => .ok o
  | .cond c a b, T, σ => condR (evalE D T c) (dd a T σ) (dd b T σ)
  | .block id b, T, σ => bindR (dd b T σ) fun o => match o with
    | .exit id' T σ => bif Nat.beq id' id then .ok (.nxt T σ) else .ok (.exit id' T σ)
    | o => .ok o
  | .loop b, T, σ => loopLim (dd b) T σ
  | .scope b, T, σ => dd b T σ
  | .region _ ops draw, T, σ => bindR (regionE D call rnd N ops draw T σ) fun o => match o with
    | .go T σ => .ok (.nxt T σ)
    | .pan v σ => .ok (.pan v σ)
  | _, _, _ => .error "dd"

noncomputable def denK : Code → K ρ → Rg → St → R ρ
  | .skip, k, T, σ => k.nxt T σ
  | .label _, k, T, σ => k.nxt T σ
  | .ret, k, T, σ => k.ret T σ
  | .exit id, k, T, σ => k.exit id T σ
  | .seq a b, k, T, σ => denK a (kseq (denK b k) k) T σ
  | .cond c a b, k, T, σ => condR (evalE D T c) (denK a k T σ) (denK b k T σ)
  | .block id b, k, T, σ => denK b (kblk id k) T σ
  | .loop b, k, T, σ => bindR (loopLim (dd D call rnd N b) T σ) k.app
  | .scope b, k, T, σ => denK b k T σ
  | .region _ ops draw, k, T, σ => regionK D call rnd N ops draw T σ k.nxt k.pan
  | _, _, _, _ => .error "dd"

theorem bindR_assoc {α β γ : Type} (x : R α) (f : α → R β) (g : β → R γ) : bindR (bindR x f) g = bindR x fun a => bindR (f a) g := by
  cases x <;> rfl
theorem bindR_ok {α β : Type} {x : R α} {f : α → R β} {b : β} : bindR x f = .ok b ↔ ∃ a, x = .ok a ∧ f a = .ok b := by
  cases x <;> simp [bindR]
theorem bindR_eq {α β : Type} (x : R α) (f : α → R β) : x >>= f = bindR x f := by cases x <;> rfl

theorem nextK_eq (T : Rg) (dst : Option Tmp) (k : Rg → St → R ρ) (kp : AV → St → R ρ) (nx : ANext) (σ : St) :
    nextK call rnd N T dst k kp nx σ = bindR (nextE call rnd N T dst nx σ) (RO.app k kp) := by
  cases nx with
  | enter f args =>
    simp only [nextK, nextE, bindR_assoc]
    congr 1
    funext p
    unfold retK
    cases p.1 <;> rfl
  | round f args =>
    simp only [nextK, nextE, bindR_assoc]
    congr 1
    funext p
    unfold retK
    cases p.1 <;> rfl
  | _ => rfl

/-- where the answer is found, the direct reading finds it as well -/
theorem enterQ_le {ρ : Type} (T : Rg) (dst : Option Tmp) (k : Rg → St → R ρ) (kp : AV → St → R ρ) (nx : ANext) (σ : St) (r : ρ)
    (h : bindR (enterQ call rnd nx σ) (fun p => retK p (fun v σ => k (putE N T dst v) σ) kp) = .ok r) : nextK call rnd N T dst k kp nx σ = .ok r := by
  cases nx with
  | enter f args => exact h
  | round f args => exact h
  | _ => cases h

theorem actK_le (g : Bool) (o : Oper) (T : Rg) (σ : St) (k : Rg → St → R ρ) (kp : AV → St → R ρ) (r : ρ) (h : actK D call rnd N g o T σ k kp = .ok r) :
    (bif g then bindR (bindR (actOp D σ (evalE D T) o.op) fun p => nextE call rnd N T o.dst p.1 p.2) (RO.app k kp) else k (putE N T o.dst .undef) σ) = .ok r := by
  cases g with
  | false =>
    simp only [cond_false]
    unfold actK at h
    split at h
    · exact h
    · split at h
      · split at h <;> exact h
      · exact h
      · exact h
    · exact h
  | true =>
    simp only [cond_true]
    rw [bindR_assoc]
    have hn : ∀ nx σ, bindR (nextE call rnd N T o.dst nx σ) (RO.app k kp) = nextK call rnd N T o.dst k kp nx σ := fun nx σ => (nextK_eq call rnd N T o.dst k kp nx σ).symm
    simp only [hn]
    unfold actK at h
    split at h
    · rename_i t a x heq
      rw [heq]
      simp only [cond_true] at h
      simp only [actOp, bindR_eq, bindR_assoc]
      exact h
    · rename_i c heq
      rw [heq]
      split at h
      · rename_i b hc
        split at h
        · rename_i t u s x h1 h2
          simp only [cond_true] at h
          simp only [actOp, hc, h1, h2, bindR_eq, bindR_assoc]
          exact h
        · exact h
      · rename_i recv name hc
        simp only [cond_true, invokeQ, bindR_assoc] at h
        simp only [actOp, hc, bindR_eq, bindR_assoc]
        rw [bindR_ok] at h ⊢
        obtain ⟨nx, h1, h2⟩ := h
        exact ⟨nx, h1, enterQ_le call rnd N T o.dst k kp nx σ r h2⟩
      · rename_i f hc
        simp only [cond_true, callG] at h
        split at h
        · rename_i kk hk
          simp only [bindR_assoc] at h
          simp only [actOp, hc, hk, bindR_eq, bindR_assoc]
          exact h
        · rename_i hk
          simp only [bindR_assoc] at h
          simp only [actOp, hc, hk, bindR_eq, bindR_assoc]
          rw [bindR_ok] at h ⊢
          obtain ⟨nx, h1, h2⟩ := h
          exact ⟨nx, h1, enterQ_le call rnd N T o.dst k kp nx σ r h2⟩
    · exact h

theorem oneK_le (g : Bool) (o : Oper) (T : Rg) (σ : St) (k : Rg → St → R ρ) (kp : AV → St → R ρ) (r : ρ) (h : oneK D call rnd N g o T σ k kp = .ok r) :
    (bif g then bindR (oneE D call rnd N o T σ) (RO.app k kp) else k (putE N T o.dst .undef) σ) = .ok r := by
  unfold oneK at h
  unfold oneE execOp
  cases hc : clsD D o.op with
  | act => rw [hc] at h; exact actK_le D call rnd N g o T σ k kp r h
  | _ =>
    rw [hc] at h
    cases g with
    | false => exact h
    | true =>
      simp only [cond_true] at h ⊢
      simp only [bindR_eq, bindR_assoc]
      exact h

theorem seqK_le (ops : Array Oper) (k : Rg → St → R ρ) (kp : AV → St → R ρ) (r : ρ) : ∀ (l : List Oper) (T : Rg) (σ : St),
    seqK D call rnd N ops k kp l T σ = .ok r → bindR (seqE D call rnd N ops l T σ) (RO.app k kp) = .ok r
  | [], T, σ, h => h
  | o :: rest, T, σ, h => by
    unfold seqK at h
    have := oneK_le D call rnd N _ o T σ _ kp r h
    unfold seqE
    cases hw : wantE N ops o T with
    | false =>
      rw [hw] at this
      exact seqK_le ops k kp r rest _ _ this
    | true =>
      rw [hw] at this
      simp only [cond_true] at this ⊢
      rw [bindR_assoc]
      rw [bindR_ok] at this ⊢
      obtain ⟨r1, h1, h2⟩ := this
      refine ⟨r1, h1, ?_⟩
      cases r1 with
      | go T σ => exact seqK_le ops k kp r rest _ _ h2
      | pan v σ => exact h2

theorem drawK_le (ops : Array Oper) (k : Rg → St → R ρ) (r : ρ) : ∀ (l : List PlanItem) (sn : List St) (T : Rg) (σ : St),
    drawK D call rnd N ops k l sn T σ = .ok r → bindR (drawE D call rnd N ops l sn T σ) (fun p => k p.1 p.2) = .ok r
  | [], _, T, σ, h => h
  | it :: rest, sn, T, σ, h => by
    unfold drawK at h
    unfold drawE
    cases hop : ops[it.i]? with
    | none => rw [hop] at h; cases h
    | some o =>
      rw [hop] at h
      simp only at h ⊢
      cases hw : wantE N ops o T with
      | false =>
        rw [hw] at h
        exact drawK_le ops k r rest _ _ _ h
      | true =>
        rw [hw] at h
        simp only [cond_true] at h ⊢
        cases hact : it.act with
        | true =>
          rw [hact] at h
          simp only [cond_true] at h ⊢
          cases hb : (o.op.operands.toList.all fun x => bndA σ.n (evalE D T x)) with
          | false => rw [hb] at h; cases h
          | true =>
            rw [hb] at h
            simp only [cond_true] at h ⊢
            have := oneK_le D call rnd N true o T σ _ _ r h
            simp only [cond_true] at this
            rw [bindR_assoc]
            rw [bindR_ok] at this ⊢
            obtain ⟨r1, h1, h2⟩ := this
            refine ⟨r1, h1, ?_⟩
            cases r1 with
            | go T σ' =>
              simp only [RO.app] at h2 ⊢
              cases hle : Nat.ble σ.n σ'.n with
              | true => rw [hle] at h2; exact drawK_le ops k r rest _ _ _ h2
              | false => rw [hle] at h2; cases h2
            | pan v σ => cases h2
        | false =>
          rw [hact] at h
          simp only [cond_false] at h ⊢
          cases hc : clsD D o.op with
          | pure =>
            rw [hc] at h
            simp only at h ⊢
            rw [bindR_assoc, bindR_ok]
            rw [bindR_ok] at h
            obtain ⟨v, h1, h2⟩ := h
            exact ⟨v, h1, drawK_le ops k r rest _ _ _ h2⟩
          | read =>
            rw [hc] at h
            simp only at h ⊢
            rw [bindR_assoc, bindR_ok]
            rw [bindR_ok] at h
            obtain ⟨v, h1, h2⟩ := h
            refine ⟨v, h1, ?_⟩
            cases hs : (Nat.blt it.lo (drawK.lenS sn) && (sn.take (Nat.sub (drawK.lenS sn) it.lo)).all (sameE D T o.op v)) with
            | false => rw [hs] at h2; cases h2
            | true => rw [hs] at h2; exact drawK_le ops k r rest _ _ _ h2
          | alloc =>
            rw [hc] at h
            simp only at h ⊢
            rw [bindR_assoc, bindR_ok]
            rw [bindR_ok] at h
            obtain ⟨p, h1, h2⟩ := h
            refine ⟨p, h1, ?_⟩
            cases hs : bndO (σ.n + 1) p.2 with
            | false => rw [hs] at h2; cases h2
            | true => rw [hs] at h2; exact drawK_le ops k r rest _ _ _ h2
          | act => rw [hc] at h; cases h

theorem regionK_le (ops : Array Oper) (d : Bool) (T : Rg) (σ : St) (k : Rg → St → R ρ) (kp : AV → St → R ρ) (r : ρ) (h : regionK D call rnd N ops d T σ k kp = .ok r) :
    bindR (regionE D call rnd N ops d T σ) (RO.app k kp) = .ok r := by
  unfold regionK at h
  unfold regionE
  cases d with
  | false => exact seqK_le D call rnd N ops k kp r _ _ _ h
  | true =>
    simp only [cond_true] at h ⊢
    cases hok : drawOkF ops (D.cut ops) with
    | false => rw [hok] at h; cases h
    | true =>
      rw [hok] at h
      simp only [cond_true] at h ⊢
      have := drawK_le D call rnd N ops _ r _ _ _ _ h
      rw [bindR_assoc]
      rw [bindR_ok] at this ⊢
      obtain ⟨p, h1, h2⟩ := this
      refine ⟨p, h1, ?_⟩
      cases hle : Nat.ble ops.size (D.cut ops) with
      | true => rw [hle] at h2; exact h2
      | false =>
        rw [hle] at h2
        simp only [cond_false] at h2 ⊢
        cases hq : (Nat.beq ops.size (Nat.succ (D.cut ops)) && canE ops (D.cut ops) 0 (D.cut ops)) with
        | false => rw [hq] at h2; cases h2
        | true => rw [hq] at h2; exact seqK_le D call rnd N ops k kp r _ _ _ h2

theorem condR_bind {α β : Type} (v : AV) (a b : R α) (f : α → R β) : bindR (condR v a b) f = condR v (bindR a f) (bindR b f) := by
  unfold condR
  split
  · rename_i c; cases c <;> rfl
  · rfl

theorem denK_le : ∀ (c : Code) (k : K ρ) (T : Rg) (σ : St) (r : ρ), denK D call rnd N c k T σ = .ok r → bindR (dd D call rnd N c T σ) k.app = .ok r
  | .skip, k, T, σ, r, h => h
  | .label _, k, T, σ, r, h => h
  | .ret, k, T, σ, r, h => h
  | .exit id, k, T, σ, r, h => h
  | .seq a b, k, T, σ, r, h => by
    simp only [denK] at h
    simp only [dd, bindR_assoc]
    have := denK_le a _ T σ r h
    rw [bindR_ok] at this ⊢
    obtain ⟨o, h1, h2⟩ := this
    refine ⟨o, h1, ?_⟩
    cases o with
    | nxt T σ => exact denK_le b k T σ r h2
    | _ => exact h2
  | .cond c a b, k, T, σ, r, h => by
    simp only [denK] at h
    simp only [dd, condR_bind]
    unfold condR at h ⊢
    split at h
    · rename_i q heq
      cases q with
      | true => exact denK_le a k T σ r h
      | false => exact denK_le b k T σ r h
    · cases h
  | .block id b, k, T, σ, r, h => by
    simp only [denK] at h
    simp only [dd, bindR_assoc]
    have := denK_le b _ T σ r h
    rw [bindR_ok] at this ⊢
    obtain ⟨o, h1, h2⟩ := this
    refine ⟨o, h1, ?_⟩
    cases o with
    | exit id' T σ =>
      simp only [K.app, kblk] at h2
      cases hb : Nat.beq id' id with
      | true => rw [hb] at h2; simp only [hb]; exact h2
      | false => rw [hb] at h2; simp only [hb]; exact h2
    | _ => exact h2
  | .loop b, k, T, σ, r, h => h
  | .scope b, k, T, σ, r, h => denK_le b k T σ r h
  | .region _ ops d, k, T, σ, r, h => by
    simp only [denK] at h
    simp only [dd, bindR_assoc]
    have := regionK_le D call rnd N ops d T σ _ _ r h
    rw [bindR_ok] at this ⊢
    obtain ⟨o, h1, h2⟩ := this
    refine ⟨o, h1, ?_⟩
    cases o <;> exact h2
  | .rangeFunc _ _ _ _, k, T, σ, r, h => by cases h
  | .goto _, k, T, σ, r, h => by cases h
  | .refuse _, k, T, σ, r, h => by cases h

/-- one round of a loop, by its equation -/
theorem dd_of {c : Code} {T : Rg} {σ : St} {o : Oc} (h : denK D call rnd N c kOc T σ = .ok o) : dd D call rnd N c T σ = .ok o := by
  have := denK_le D call rnd N c kOc T σ o h
  rw [bindR_ok] at this
  obtain ⟨o', h1, h2⟩ := this
  rw [h1]
  cases o' <;> exact h2
end
end Go.Dt
