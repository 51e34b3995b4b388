/-
  Regions in the text's order, continued. No statement of this seat stands here.
-/
import Derived.Test.YtolakgfoodndpaaGreatDoorDtReg
namespace Go.Dt

/-- who waits for a frame: a normal caller, or the frame that unwinds through it -/
inductive Ctx where
  | norm (cs : List Frame)
  | dfr (c : Frame) (rest : List Frame)

def panMode (ι : Nat → Loc) : Pan → FrameMode
  | none => .returning
  | some (v, r) => .panicking [{ v := conc ι v, recovered := r }]

def Ctx.cs (X : Ctx) (ι : Nat → Loc) (pan : Pan) : List Frame :=
  match X with
  | .norm cs => cs
  | .dfr c rest => { c with mode := panMode ι pan } :: rest
def Ctx.kind : Ctx → CallKind
  | .norm _ => .normal
  | .dfr _ _ => .deferred
def Ctx.fits (X : Ctx) (pan : Pan) : Prop :=
  match X with
  | .norm _ => pan = none
  | .dfr _ _ => True

def idsPan (ι : Nat → Loc) (A : Nat → Prop) : Pan → Prop
  | none => True
  | some (v, _) => ids ι A v

theorem idsPan_mono {ι ι' : Nat → Loc} {A B : Nat → Prop} (h : ∀ b, A b → B b ∧ ι' b = ι b) (p : Pan) (hp : idsPan ι A p) : idsPan ι' B p := by
  cases p with
  | none => trivial
  | some p => exact ids_mono h _ hp
theorem Ctx.agree {X : Ctx} {ι ι' : Nat → Loc} {A : Nat → Prop} (h : ∀ b, A b → ι' b = ι b) {p : Pan} (hp : idsPan ι A p) : X.cs ι' p = X.cs ι p := by
  cases X with
  | norm cs => rfl
  | dfr c rest =>
    cases p with
    | none => rfl
    | some p => simp [Ctx.cs, panMode, conc_agree h _ hp]

def idsDs (ι : Nat → Loc) (A : Nat → Prop) (ds : List ADef) : Prop := ∀ d, d ∈ ds → idsDef ι A d
theorem idsDs_mono {ι ι' : Nat → Loc} {A B : Nat → Prop} (h : ∀ b, A b → B b ∧ ι' b = ι b) {ds : List ADef} (hd : idsDs ι A ds) : idsDs ι' B ds :=
  fun d hm => idsDef_mono h d (hd d hm)
theorem concDs_agree {ι ι' : Nat → Loc} {A : Nat → Prop} (h : ∀ b, A b → ι' b = ι b) {ds : List ADef} (hd : idsDs ι A ds) : ds.map (concDef ι') = ds.map (concDef ι) :=
  List.map_congr_left fun d hm => concDef_agree h d (hd d hm)

def concEnd (ι : Nat → Loc) : AEnd → Ending
  | .ret v => .returned (conc ι v)
  | .panic v => .panicked [{ v := conc ι v, recovered := false }]
def idsEnd (ι : Nat → Loc) (A : Nat → Prop) : AEnd → Prop
  | .ret v => ids ι A v
  | .panic v => ids ι A v

def after (c : Frame) : Ending → Frame
  | .returned v => c.finish v
  | .panicked chain => c.raise chain
  | .outgrown => c

def CallOK (D : Tab) (P : Program) (call : CallT) : Prop :=
  ∀ f args σ e σ', call f args σ = .ok (e, σ') → ∀ ι w, Rep D ι σ w → idsL ι (· < σ.n) args →
    Calls P f (concL ι args).toArray w fun en w' => ∃ ι', en = concEnd ι' e ∧ Rep D ι' σ' w' ∧ Ext ι σ w ι' σ' w' ∧ idsEnd ι' (· < σ'.n) e

def RoundOK (D : Tab) (P : Program) (round : RoundT) : Prop :=
  ∀ l args σ e σ', round l args σ = .ok (e, σ') → ∀ ι w, Rep D ι σ w → idsL ι (· < σ.n) args → l < σ.n →
    ∃ fn tmps assign body, (Instr.yield (ι l).block (concL ι args).toArray).run P w = .ok (.round (ι l).block fn tmps assign body) w ∧
      ∀ (c : Frame) (cs : List Frame), ∃ ι' w', Steps P (lone (Frame.round (ι l).block fn tmps assign body .normal) (c :: cs) w) (lone (after c (concEnd ι' e)) cs w') ∧
        Rep D ι' σ' w' ∧ Ext ι σ w ι' σ' w' ∧ idsEnd ι' (· < σ'.n) e

section
variable {D : Tab} {P : Program} {ι : Nat → Loc} {σ : St} {w : World}

theorem getD_conc (ι : Nat → Loc) (T : List AV) (t : Nat) : (concL ι T).toArray.getD t undef = conc ι (T.getD t .undef) := by
  simp only [Array.getD_eq_getD_getElem?, List.getElem?_toArray, concL_getElem?, List.getD_eq_getElem?_getD]
  cases T[t]? <;> simp

theorem evalO_conc (R : Rep D ι σ w) (T : List AV) (x : Operand) : evT (concL ι T).toArray x = conc ι (evalO D T x) := by
  cases x with
  | tmp t => simp only [evT, evalO]; exact getD_conc ι T t
  | const v => simp [evT, evalO]
  | global g =>
    simp only [evT, evalO]
    split
    · rename_i hg
      have := R.gloc g hg
      simp [conc, Loc.at, this.1, this.2]
    · simp [conc]
  | func f => simp [evT, evalO, conc, concL]

theorem evT_eq (R : Rep D ι σ w) (T : List AV) : evT (concL ι T).toArray = fun x => conc ι (evalO D T x) := by
  funext x; exact evalO_conc R T x

theorem evalO_ids (R : Rep D ι σ w) {A : Nat → Prop} (hA : ∀ g, g < D.nglob → A g) {T : List AV} (hT : idsL ι A T) (x : Operand) : ids ι A (evalO D T x) := by
  cases x with
  | tmp t =>
    simp only [evalO, List.getD_eq_getElem?_getD]
    cases h : T[t]? with
    | none => simpa using ids_undef ι A
    | some v => simpa using idsL_get hT h
  | const v => exact ids_ofConst ι A v
  | global g =>
    simp only [evalO]
    split
    · rename_i hg; exact hA g hg
    · trivial
  | func f => simp [evalO, ids, idsL]

theorem putV_conc (ι : Nat → Loc) (T : List AV) (dst : Option Tmp) (v : AV) : putV (concL ι T).toArray dst (conc ι v) = (concL ι (put T dst v)).toArray := by
  cases dst with
  | none => rfl
  | some d =>
    simp only [putV, put]
    apply Array.ext'
    simp [concL_eq, List.map_set]

theorem Rep.glob_lt (R : Rep D ι σ w) : ∀ g, g < D.nglob → g < σ.n := fun _ hg => Nat.lt_of_lt_of_le hg R.glob

theorem putV_agree {ι' : Nat → Loc} {σ' : St} {w' : World} (E : Ext ι σ w ι' σ' w') {T : List AV} (hT : idsL ι (· < σ.n) T) {dst : Option Tmp} {v : AV} :
    putV (concL ι T).toArray dst (conc ι' v) = (concL ι' (put T dst v)).toArray := by
  rw [← concL_agree E.agree T hT, putV_conc]

theorem put_ids {A : Nat → Prop} {T : List AV} {v : AV} (hT : idsL ι A T) (hv : ids ι A v) (dst : Option Tmp) : idsL ι A (put T dst v) := by
  cases dst with
  | none => exact hT
  | some d => exact idsL_set hT hv d

theorem conc_bool {v : AV} {b : Bool} (h : conc ι v = .bool b) : v = .base (.bool b) := by
  cases v with
  | base v => simp only [conc] at h; rw [h]
  | slice b o len cap sz => cases cap <;> simp [conc] at h
  | sliceZ b o l sz => simp only [conc] at h; split at h <;> cases h
  | _ => simp [conc] at h

theorem yielded_conc (ι : Nat → Loc) (ops : Array Oper) (T : List AV) (j : Nat) : yielded ops (concL ι T).toArray j = yieldedA ops T j := by
  unfold yielded yieldedA
  cases h : (ops[j]?).bind (·.dst) with
  | none => simp
  | some t =>
    simp only [Option.bind_some, List.getElem?_toArray, concL_getElem?]
    cases ht : T[t]? with
    | none => simp
    | some v =>
      simp only [Option.map_some]
      cases v with
      | base v => simp only [conc]; cases v <;> rfl
      | slice b o len cap sz => cases cap <;> simp [conc]
      | sliceZ b o l sz => obtain ⟨a, c, hc⟩ := conc_sliceZ ι b o l sz; rw [hc]
      | _ => simp [conc]

theorem wanted_conc (ι : Nat → Loc) (ops : Array Oper) (T : List AV) (o : Oper) : Region.wanted o (yielded ops (concL ι T).toArray) = wantedA ops o T := by
  have : yielded ops (concL ι T).toArray = yieldedA ops T := funext fun j => yielded_conc ι ops T j
  rw [this]
  unfold Region.wanted wantedA
  cases o.guard with
  | none => rfl
  | some p => rfl

/-- the abstract operation and the model's -/
theorem execOp_run (F : Fits D P) (R : Rep D ι σ w) {e : Operand → AV} {o : Oper} {nx : ANext} {σ' : St} (h : execOp D e σ o.op = .ok (nx, σ'))
    (hid : ∀ x, x ∈ o.op.operands → ids ι (· < σ.n) (e x)) :
    ∃ ι' w', Comes' P ι' nx (Go.execOp (fun x => conc ι (e x)) o) w w' ∧ Rep D ι' σ' w' ∧ Ext ι σ w ι' σ' w' ∧ idsNext ι' (· < σ'.n) nx := by
  unfold execOp at h
  split at h
  · simp only [bind_ok, pure_ok, Prod.mk.injEq] at h
    obtain ⟨v, h, rfl, rfl⟩ := h
    obtain ⟨h1, h2⟩ := pureOp_run F w h hid
    exact ⟨ι, w, ⟨_, rfl, h1⟩, R, Ext.refl _ _ _, h2⟩
  · simp only [bind_ok, pure_ok, Prod.mk.injEq] at h
    obtain ⟨v, h, rfl, rfl⟩ := h
    obtain ⟨h1, h2⟩ := readOp_run F R h
    exact ⟨ι, w, ⟨_, rfl, h1⟩, R, Ext.refl _ _ _, h2⟩
  · simp only [bind_ok, pure_ok, Prod.mk.injEq] at h
    obtain ⟨⟨v, ob⟩, h, rfl, rfl⟩ := h
    obtain ⟨obj, L, h1, h2, h3, h4⟩ := (allocOp_run F w (by simp) h hid).out
    have hk : ∀ b, (b < σ.n ∨ b = σ.n) → b < σ.n + 1 ∧ upd ι σ.n L b = upd ι σ.n L b := fun b hb => ⟨by omega, rfl⟩
    have hp := R.push h2 (h3.mono hk)
    exact ⟨_, _, ⟨_, rfl, h1⟩, hp.1, hp.2, ids_mono hk _ h4⟩
  · exact actOp_run F R h hid

end
end Go.Dt
