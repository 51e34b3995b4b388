/-
  A region that draws its order: what the plan's run says of each operation. No statement of this seat stands here.
-/
import Derived.Test.YtolakgfoodndpaaGreatDoorDtOrd
namespace Go.Dt

abbrev Alc := Nat × Nat × AO

inductive Tr (D : Tab) (call : CallT) (round : RoundT) (isRound : Bool) (ops : Array Oper) (Te : List AV) (dsE : List ADef) (panE : Pan) (σE : St) :
    List PlanItem → List St → List AV → List ADef → Pan → St → List Alc → Prop
  | nil {snaps : List St} : Tr D call round isRound ops Te dsE panE σE [] snaps Te dsE panE σE []
  | skip {it : PlanItem} {rest : List PlanItem} {snaps : List St} {T : List AV} {ds : List ADef} {pan : Pan} {σ : St} {al : List Alc} {o : Oper}
      (ho : ops[it.i]? = some o) (hw : wantedA ops o T = false)
      (next : Tr D call round isRound ops Te dsE panE σE rest (if it.act then σ :: snaps else snaps) (put T o.dst .undef) ds pan σ al) :
      Tr D call round isRound ops Te dsE panE σE (it :: rest) snaps T ds pan σ al
  | act {it : PlanItem} {rest : List PlanItem} {snaps : List St} {T : List AV} {ds : List ADef} {pan : Pan} {σ : St} {al : List Alc} {o : Oper} {v : AV} {ds' : List ADef} {pan' : Pan} {σ' : St}
      (ho : ops[it.i]? = some o) (hw : wantedA ops o T = true) (ha : it.act = true)
      (hb : ∀ x, x ∈ o.op.operands → bndA σ.n (evalO D T x) = true)
      (hr : runOne D call round isRound o T ds pan σ = .ok (.go (put T o.dst v) ds' pan' σ')) (hn : σ.n ≤ σ'.n)
      (next : Tr D call round isRound ops Te dsE panE σE rest (σ' :: snaps) (put T o.dst v) ds' pan' σ' al) :
      Tr D call round isRound ops Te dsE panE σE (it :: rest) snaps T ds pan σ al
  | pure {it : PlanItem} {rest : List PlanItem} {snaps : List St} {T : List AV} {ds : List ADef} {pan : Pan} {σ : St} {al : List Alc} {o : Oper} {v : AV}
      (ho : ops[it.i]? = some o) (hw : wantedA ops o T = true) (ha : it.act = false)
      (hr : pureOp D (evalO D T) o.op = .ok v)
      (next : Tr D call round isRound ops Te dsE panE σE rest snaps (put T o.dst v) ds pan σ al) :
      Tr D call round isRound ops Te dsE panE σE (it :: rest) snaps T ds pan σ al
  | read {it : PlanItem} {rest : List PlanItem} {snaps : List St} {T : List AV} {ds : List ADef} {pan : Pan} {σ : St} {al : List Alc} {o : Oper} {v : AV}
      (ho : ops[it.i]? = some o) (hw : wantedA ops o T = true) (ha : it.act = false)
      (hlo : it.lo < snaps.length) (hs : ∀ s, s ∈ snaps.take (snaps.length - it.lo) → sameAt D T o.op v s = true)
      (next : Tr D call round isRound ops Te dsE panE σE rest snaps (put T o.dst v) ds pan σ al) :
      Tr D call round isRound ops Te dsE panE σE (it :: rest) snaps T ds pan σ al
  | alloc {it : PlanItem} {rest : List PlanItem} {snaps : List St} {T : List AV} {ds : List ADef} {pan : Pan} {σ : St} {al : List Alc} {o : Oper} {v : AV} {ob : AO}
      (ho : ops[it.i]? = some o) (hw : wantedA ops o T = true) (ha : it.act = false)
      (hr : allocOp D (evalO D T) o.op σ.n = .ok (v, ob)) (hb : bndO (σ.n + 1) ob = true)
      (next : Tr D call round isRound ops Te dsE panE σE rest snaps (put T o.dst v) ds pan (σ.push ob) al) :
      Tr D call round isRound ops Te dsE panE σE (it :: rest) snaps T ds pan σ ((it.i, σ.n, ob) :: al)

section
variable {D : Tab} {call : CallT} {round : RoundT} {isRound : Bool} {ops : Array Oper}

theorem runOne_go {o : Oper} {T : List AV} {ds : List ADef} {pan : Pan} {σ : St} {T' : List AV} {ds' : List ADef} {pan' : Pan} {σ' : St}
    (h : runOne D call round isRound o T ds pan σ = .ok (.go T' ds' pan' σ')) : ∃ v, T' = put T o.dst v := by
  simp only [runOne, bind_ok] at h
  obtain ⟨⟨nx, σ1⟩, _, h⟩ := h
  cases nx with
  | value v => simp at h; exact ⟨v, h.1.symm⟩
  | skip => simp at h; exact ⟨_, h.1.symm⟩
  | defer d => simp only at h; split at h <;> simp at h; exact ⟨_, h.1.symm⟩
  | recover =>
    simp only at h
    split at h
    · simp at h
    · split at h <;> simp at h <;> exact ⟨_, h.1.symm⟩
  | panic v => simp at h
  | enter f args =>
    simp only [bind_ok] at h
    obtain ⟨⟨e, σ2⟩, _, h⟩ := h
    cases e <;> simp at h
    exact ⟨_, h.1.symm⟩
  | round l args =>
    simp only [bind_ok] at h
    obtain ⟨⟨e, σ2⟩, _, h⟩ := h
    cases e <;> simp at h
    exact ⟨_, h.1.symm⟩

theorem runDraw_tr : ∀ (p : List PlanItem) {snaps : List St} {T : List AV} {ds : List ADef} {pan : Pan} {σ : St} {r : OpEnd},
    runDraw D call round isRound ops p snaps T ds pan σ = .ok r →
    ∃ Te dsE panE σE al, r = .go Te dsE panE σE ∧ Tr D call round isRound ops Te dsE panE σE p snaps T ds pan σ al := by
  intro p
  induction p with
  | nil =>
    intro snaps T ds pan σ r h
    simp [runDraw] at h
    exact ⟨_, _, _, _, _, h.symm, .nil⟩
  | cons it rest ih =>
    intro snaps T ds pan σ r h
    simp only [runDraw] at h
    split at h
    · simp at h
    · rename_i o ho
      split at h
      · rename_i hw
        split at h
        · rename_i ha
          split at h
          · rename_i hb
            simp only [bind_ok] at h
            obtain ⟨r1, h1, h⟩ := h
            cases r1 with
            | go T' ds' pan' σ' =>
              simp only at h
              split at h
              · rename_i hn
                obtain ⟨v, rfl⟩ := runOne_go h1
                obtain ⟨Te, dsE, panE, σE, al, hr, ht⟩ := ih h
                refine ⟨Te, dsE, panE, σE, al, hr, .act ho hw ha (fun x hx => ?_) h1 hn ht⟩
                exact List.all_eq_true.1 hb x (by simpa using hx)
              · simp at h
            | panic => simp at h
          · simp at h
        · rename_i ha
          have ha : it.act = false := by simpa using ha
          split at h
          · simp only [bind_ok] at h
            obtain ⟨v, h1, h⟩ := h
            obtain ⟨Te, dsE, panE, σE, al, hr, ht⟩ := ih h
            exact ⟨Te, dsE, panE, σE, al, hr, .pure ho hw ha h1 ht⟩
          · simp only [bind_ok] at h
            obtain ⟨v, h1, h⟩ := h
            split at h
            · rename_i hs
              simp only [Bool.and_eq_true, decide_eq_true_eq] at hs
              obtain ⟨Te, dsE, panE, σE, al, hr, ht⟩ := ih h
              exact ⟨Te, dsE, panE, σE, al, hr, .read ho hw ha hs.1 (fun s hm => List.all_eq_true.1 hs.2 s hm) ht⟩
            · simp at h
          · simp only [bind_ok] at h
            obtain ⟨⟨v, ob⟩, h1, h⟩ := h
            split at h
            · rename_i hb
              obtain ⟨Te, dsE, panE, σE, al, hr, ht⟩ := ih h
              exact ⟨Te, dsE, panE, σE, _, hr, .alloc ho hw ha h1 hb ht⟩
            · simp at h
          · simp at h
      · rename_i hw
        obtain ⟨Te, dsE, panE, σE, al, hr, ht⟩ := ih h
        exact ⟨Te, dsE, panE, σE, al, hr, .skip ho (by simpa using hw) ht⟩

theorem put_length (T : List AV) (dst : Option Tmp) (v : AV) : (put T dst v).length = T.length := by
  cases dst <;> simp [put]
theorem put_get_ne {T : List AV} {dst : Option Tmp} {v : AV} {t : Tmp} (h : dst ≠ some t) : (put T dst v)[t]? = T[t]? := by
  cases dst with
  | none => rfl
  | some d =>
    have hne : d ≠ t := fun e => h (by rw [e])
    simp [put, hne]
theorem put_get_eq {T : List AV} {v : AV} {t : Tmp} (h : t < T.length) : (put T (some t) v)[t]? = some v := by
  simp [put, h]

variable {Te : List AV} {dsE : List ADef} {panE : Pan} {σE : St}

theorem writes_cons {it : PlanItem} {rest : List PlanItem} {t : Tmp} : writes ops (it :: rest) t = (dstAt ops it.i == some t || writes ops rest t) := by simp [writes]

theorem dstAt_eq {i : Nat} {o : Oper} (ho : ops[i]? = some o) : dstAt ops i = o.dst := by simp [dstAt, ho]

/-- a step of the run's list -/
theorem Tr.T_eq {p : List PlanItem} {snaps : List St} {T : List AV} {ds : List ADef} {pan : Pan} {σ : St} {al : List Alc}
    (h : Tr D call round isRound ops Te dsE panE σE p snaps T ds pan σ al) : T.length = Te.length ∧ ∀ t, writes ops p t = false → T[t]? = Te[t]? := by
  induction h with
  | nil => exact ⟨rfl, fun _ _ => rfl⟩
  | skip ho _ _ ih | act ho _ _ _ _ _ _ ih | pure ho _ _ _ _ ih | read ho _ _ _ _ _ ih | alloc ho _ _ _ _ _ ih =>
    refine ⟨by rw [← ih.1, put_length], fun t ht => ?_⟩
    rw [writes_cons, Bool.or_eq_false_iff, dstAt_eq ho] at ht
    rw [← ih.2 t ht.2, put_get_ne (by simpa using ht.1)]

theorem Tr.n_le {p : List PlanItem} {snaps : List St} {T : List AV} {ds : List ADef} {pan : Pan} {σ : St} {al : List Alc}
    (h : Tr D call round isRound ops Te dsE panE σE p snaps T ds pan σ al) : (∀ e, e ∈ al → σ.n ≤ e.2.1 ∧ ∃ it, it ∈ p ∧ it.i = e.1) ∧ al.Pairwise (fun a b => a.2.1 < b.2.1) := by
  have up : ∀ {it : PlanItem} {rest : List PlanItem} {i : Nat}, (∃ it', it' ∈ rest ∧ it'.i = i) → ∃ it', it' ∈ it :: rest ∧ it'.i = i :=
    fun ⟨it', hm, he⟩ => ⟨it', List.mem_cons_of_mem _ hm, he⟩
  induction h with
  | nil => exact ⟨by simp, .nil⟩
  | skip ho _ _ ih | pure ho _ _ _ _ ih | read ho _ _ _ _ _ ih => exact ⟨fun e he => ⟨(ih.1 e he).1, up (ih.1 e he).2⟩, ih.2⟩
  | act ho _ _ _ _ hn _ ih => exact ⟨fun e he => ⟨Nat.le_trans hn (ih.1 e he).1, up (ih.1 e he).2⟩, ih.2⟩
  | alloc ho _ _ _ _ _ ih =>
    refine ⟨fun e he => ?_, List.pairwise_cons.2 ⟨fun e he => ?_, ih.2⟩⟩
    · rcases List.mem_cons.1 he with rfl | he
      · exact ⟨Nat.le_refl _, _, List.mem_cons_self, rfl⟩
      · exact ⟨Nat.le_of_succ_le (ih.1 e he).1, up (ih.1 e he).2⟩
    · exact (ih.1 e he).1

/-- what the run says of one operation that is no act -/
structure Fact (D : Tab) (ops : Array Oper) (Te : List AV) (s : St) (al : List Alc) (i : Nat) (lo k : Nat) : Prop where
  out : ∃ o T, ops[i]? = some o ∧ (∀ t, t ∈ looksAt ops o → T[t]? = Te[t]?) ∧ ∃ v, (∀ d, o.dst = some d → d < Te.length → Te[d]? = some v) ∧
    ((wantedA ops o T = false ∧ v = .undef ∧ ∀ e, e ∈ al → e.1 ≠ i) ∨
     (wantedA ops o T = true ∧ pureOp D (evalO D T) o.op = .ok v ∧ ∀ e, e ∈ al → e.1 ≠ i) ∨
     (wantedA ops o T = true ∧ (lo ≤ k → sameAt D T o.op v s = true) ∧ ∀ e, e ∈ al → e.1 ≠ i) ∨
     (∃ n ob, wantedA ops o T = true ∧ allocOp D (evalO D T) o.op n = .ok (v, ob) ∧ bndO (n + 1) ob = true ∧ (i, n, ob) ∈ al ∧ ∀ e, e ∈ al → e.1 = i → e = (i, n, ob)))

/-- the plan's static facts that the run needs -/
def ssa (ops : Array Oper) : List PlanItem → Prop
  | [] => True
  | it :: rest => (∀ it', it' ∈ rest → it'.i ≠ it.i) ∧ (∀ o, ops[it.i]? = some o → (∀ t, t ∈ looksAt ops o → writes ops (it :: rest) t = false) ∧ (∀ d, o.dst = some d → writes ops rest d = false)) ∧ ssa ops rest

theorem Tr.fact {p : List PlanItem} {snaps : List St} {T : List AV} {ds : List ADef} {pan : Pan} {σ : St} {al : List Alc}
    (h : Tr D call round isRound ops Te dsE panE σE p snaps T ds pan σ al) (hs : ssa ops p) {s : St} {old : List St} :
    (∃ more, snaps = more ++ s :: old) → ∀ it, it ∈ p → it.act = false → Fact D ops Te s al it.i it.lo old.length := by
  have hdst : ∀ {rest : List PlanItem} {T : List AV} {o : Oper} {v : AV}, (put T o.dst v).length = Te.length ∧ (∀ t, writes ops rest t = false → (put T o.dst v)[t]? = Te[t]?) →
      (∀ d, o.dst = some d → writes ops rest d = false) → ∀ d, o.dst = some d → d < Te.length → Te[d]? = some v := by
    intro rest T o v h1 h2 d hd hlt
    rw [← h1.2 d (h2 d hd), hd, put_get_eq (by rw [← h1.1, put_length] at hlt; exact hlt)]
  have noal : ∀ {it : PlanItem} {rest : List PlanItem} {al : List Alc} {n : Nat}, (∀ e, e ∈ al → n ≤ e.2.1 ∧ ∃ it', it' ∈ rest ∧ it'.i = e.1) → (∀ it', it' ∈ rest → it'.i ≠ it.i) → ∀ e, e ∈ al → e.1 ≠ it.i := by
    intro it rest al n h1 h2 e he heq
    obtain ⟨it', hm, hi⟩ := (h1 e he).2
    exact h2 it' hm (hi.trans heq)
  induction h with
  | nil => intro _ it hm; simp at hm
  | @skip it rest snaps T ds pan σ al o ho hw next ih =>
    intro hsn it' hm ha
    obtain ⟨more, rfl⟩ := hsn
    rcases List.mem_cons.1 hm with rfl | hm
    · exact ⟨o, T, ho, fun t ht => (Tr.skip ho hw next).T_eq.2 t ((hs.2.1 o ho).1 t ht), .undef, hdst next.T_eq (hs.2.1 o ho).2, .inl ⟨hw, rfl, noal next.n_le.1 hs.1⟩⟩
    · refine ih hs.2.2 ?_ it' hm ha
      split
      · exact ⟨_ :: more, rfl⟩
      · exact ⟨more, rfl⟩
  | @act it rest snaps T ds pan σ al o v ds' pan' σ' ho hw ha' hb hr hn next ih =>
    intro hsn it' hm ha
    obtain ⟨more, rfl⟩ := hsn
    rcases List.mem_cons.1 hm with rfl | hm
    · rw [ha] at ha'; cases ha'
    · exact ih hs.2.2 ⟨_ :: more, rfl⟩ it' hm ha
  | @pure it rest snaps T ds pan σ al o v ho hw ha' hr next ih =>
    intro hsn it' hm ha
    rcases List.mem_cons.1 hm with rfl | hm
    · exact ⟨o, T, ho, fun t ht => (Tr.pure ho hw ha hr next).T_eq.2 t ((hs.2.1 o ho).1 t ht), v, hdst next.T_eq (hs.2.1 o ho).2, .inr (.inl ⟨hw, hr, noal next.n_le.1 hs.1⟩)⟩
    · exact ih hs.2.2 hsn it' hm ha
  | @read it rest snaps T ds pan σ al o v ho hw ha' hlo hss next ih =>
    intro hsn it' hm ha
    rcases List.mem_cons.1 hm with rfl | hm
    · refine ⟨o, T, ho, fun t ht => (Tr.read ho hw ha hlo hss next).T_eq.2 t ((hs.2.1 o ho).1 t ht), v, hdst next.T_eq (hs.2.1 o ho).2, .inr (.inr (.inl ⟨hw, fun hk => ?_, noal next.n_le.1 hs.1⟩))⟩
      obtain ⟨more, rfl⟩ := hsn
      refine hss s ?_
      rw [List.mem_take_iff_getElem]
      refine ⟨more.length, ?_, ?_⟩
      · simp only [List.length_append, List.length_cons]; omega
      · simp
    · exact ih hs.2.2 hsn it' hm ha
  | @alloc it rest snaps T ds pan σ al o v ob ho hw ha' hr hb next ih =>
    intro hsn it' hm ha
    have h0 := noal next.n_le.1 hs.1
    rcases List.mem_cons.1 hm with rfl | hm
    · refine ⟨o, T, ho, fun t ht => (Tr.alloc ho hw ha hr hb next).T_eq.2 t ((hs.2.1 o ho).1 t ht), v, hdst next.T_eq (hs.2.1 o ho).2, .inr (.inr (.inr ⟨σ.n, ob, hw, hr, hb, List.mem_cons_self, fun e he hei => ?_⟩))⟩
      rcases List.mem_cons.1 he with rfl | he
      · rfl
      · exact (h0 e he hei).elim
    · have hne : it.i ≠ it'.i := fun e => hs.1 it' hm e.symm
      obtain ⟨o', T', ho', hl, v', hd, hc⟩ := (ih hs.2.2 hsn it' hm ha).out
      refine ⟨o', T', ho', hl, v', hd, ?_⟩
      have hn : ∀ e, e ∈ (it.i, σ.n, ob) :: al → e.1 = it'.i → e ∈ al := fun e he hei => by
        rcases List.mem_cons.1 he with rfl | he
        · exact (hne hei).elim
        · exact he
      rcases hc with ⟨h1, h2, h3⟩ | ⟨h1, h2, h3⟩ | ⟨h1, h2, h3⟩ | ⟨n, ob', h1, h2, h3, h4, h5⟩
      · exact .inl ⟨h1, h2, fun e he hei => h3 e (hn e he hei) hei⟩
      · exact .inr (.inl ⟨h1, h2, fun e he hei => h3 e (hn e he hei) hei⟩)
      · exact .inr (.inr (.inl ⟨h1, h2, fun e he hei => h3 e (hn e he hei) hei⟩))
      · exact .inr (.inr (.inr ⟨n, ob', h1, h2, h3, List.mem_cons_of_mem _ h4, fun e he hei => h5 e (hn e he hei) hei⟩))

end
end Go.Dt
