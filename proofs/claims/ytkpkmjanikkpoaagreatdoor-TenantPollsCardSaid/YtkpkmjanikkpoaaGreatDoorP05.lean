/-
  A region that draws its order: what the plan's run says of each operation. No statement of this seat stands here.
-/
import Derived.Test.YtkpkmjanikkpoaaGreatDoorP04
import Derived.Orders
namespace Go.Dt

abbrev Alc := Nat × Nat × AO

inductive Tr (D : Tab) (call : CallT) (round : RoundT) (isRound : Bool) (ops : Array Oper) (Te : List AV) (dsE : List ADef) (panE : Pan) (σE : St) :
    List PlanItem → List St → List AV → List ADef → Pan → St → List Alc → Prop
  | nil {snaps : List St} : Tr D call round isRound ops Te dsE panE σE [] snaps Te dsE panE σE []
  | skip {it : PlanItem} {rest : List PlanItem} {snaps : List St} {T : List AV} {ds : List ADef} {pan : Pan} {σ : St} {al : List Alc} {o : Oper}
      (ho : ops[it.i]? = some o) (hw : wantedA ops o T = false)
      (next : Tr D call round isRound ops Te dsE panE σE rest (if it.act then σ :: snaps else snaps) (put T o.dst .undef) ds pan σ al) :
      Tr D call round isRound ops Te dsE panE σE (it :: rest) snaps T ds pan σ al
  | act {it : PlanItem} {rest : List PlanItem} {snaps : List St} {T : List AV} {ds : List ADef} {pan : Pan} {σ : St} {al : List Alc} {o : Oper} {v : AV} {ds' : List ADef} {pan' : Pan} {σ' : St}
      (ho : ops[it.i]? = some o) (hw : wantedA ops o T = true) (ha : it.act = true)
      (hb : ∀ x, x ∈ o.op.operands → bndA σ.n (evalO D T x) = true)
      (hr : runOne D call round isRound o T ds pan σ = .ok (.go (put T o.dst v) ds' pan' σ')) (hn : σ.n ≤ σ'.n)
      (next : Tr D call round isRound ops Te dsE panE σE rest (σ' :: snaps) (put T o.dst v) ds' pan' σ' al) :
      Tr D call round isRound ops Te dsE panE σE (it :: rest) snaps T ds pan σ al
  | pure {it : PlanItem} {rest : List PlanItem} {snaps : List St} {T : List AV} {ds : List ADef} {pan : Pan} {σ : St} {al : List Alc} {o : Oper} {v : AV}
      (ho : ops[it.i]? = some o) (hw : wantedA ops o T = true) (ha : it.act = false)
      (hr : pureOp D (evalO D T) o.op = .ok v)
      (next : Tr D call round isRound ops Te dsE panE σE rest snaps (put T o.dst v) ds pan σ al) :
      Tr D call round isRound ops Te dsE panE σE (it :: rest) snaps T ds pan σ al
  | read {it : PlanItem} {rest : List PlanItem} {snaps : List St} {T : List AV} {ds : List ADef} {pan : Pan} {σ : St} {al : List Alc} {o : Oper} {v : AV}
      (ho : ops[it.i]? = some o) (hw : wantedA ops o T = true) (ha : it.act = false)
      (hlo : it.lo < snaps.length) (hs : ∀ s, s ∈ snaps.take (snaps.length - it.lo) → sameAt D T o.op v s = true)
      (next : Tr D call round isRound ops Te dsE panE σE rest snaps (put T o.dst v) ds pan σ al) :
      Tr D call round isRound ops Te dsE panE σE (it :: rest) snaps T ds pan σ al
  | alloc {it : PlanItem} {rest : List PlanItem} {snaps : List St} {T : List AV} {ds : List ADef} {pan : Pan} {σ : St} {al : List Alc} {o : Oper} {v : AV} {ob : AO}
      (ho : ops[it.i]? = some o) (hw : wantedA ops o T = true) (ha : it.act = false)
      (hr : allocOp D (evalO D T) o.op σ.n = .ok (v, ob)) (hb : bndO (σ.n + 1) ob = true)
      (next : Tr D call round isRound ops Te dsE panE σE rest snaps (put T o.dst v) ds pan (σ.push ob) al) :
      Tr D call round isRound ops Te dsE panE σE (it :: rest) snaps T ds pan σ ((it.i, σ.n, ob) :: al)

section
variable {D : Tab} {call : CallT} {round : RoundT} {isRound : Bool} {ops : Array Oper}

theorem runOne_go {o : Oper} {T : List AV} {ds : List ADef} {pan : Pan} {σ : St} {T' : List AV} {ds' : List ADef} {pan' : Pan} {σ' : St}
    (h : runOne D call round isRound o T ds pan σ = .ok (.go T' ds' pan' σ')) : ∃ v, T' = put T o.dst v := by
  simp only [runOne, bind_ok] at h
  obtain ⟨⟨nx, σ1⟩, _, h⟩ := h
  cases nx with
  | value v => simp at h; exact ⟨v, h.1.symm⟩
  | skip => simp at h; exact ⟨_, h.1.symm⟩
  | defer d => simp only at h; split at h <;> simp at h; exact ⟨_, h.1.symm⟩
  | recover =>
    simp only at h
    split at h
    · simp at h
    · split at h <;> simp at h <;> exact ⟨_, h.1.symm⟩
  | panic v => simp at h
  | enter f args =>
    simp only [bind_ok] at h
    obtain ⟨⟨e, σ2⟩, _, h⟩ := h
    cases e <;> simp at h
    exact ⟨_, h.1.symm⟩
  | round l args =>
    simp only [bind_ok] at h
    obtain ⟨⟨e, σ2⟩, _, h⟩ := h
    cases e <;> simp at h
    exact ⟨_, h.1.symm⟩

theorem runDraw_tr : ∀ (p : List PlanItem) {snaps : List St} {T : List AV} {ds : List ADef} {pan : Pan} {σ : St} {r : OpEnd},
    runDraw D call round isRound ops p snaps T ds pan σ = .ok r →
    ∃ Te dsE panE σE al, r = .go Te dsE panE σE ∧ Tr D call round isRound ops Te dsE panE σE p snaps T ds pan σ al := by
  intro p
  induction p with
  | nil =>
    intro snaps T ds pan σ r h
    simp [runDraw] at h
    exact ⟨_, _, _, _, _, h.symm, .nil⟩
  | cons it rest ih =>
    intro snaps T ds pan σ r h
    simp only [runDraw] at h
    split at h
    · simp at h
    · rename_i o ho
      split at h
      · rename_i hw
        split at h
        · rename_i ha
          split at h
          · rename_i hb
            simp only [bind_ok] at h
            obtain ⟨r1, h1, h⟩ := h
            cases r1 with
            | go T' ds' pan' σ' =>
              simp only at h
              split at h
              · rename_i hn
                obtain ⟨v, rfl⟩ := runOne_go h1
                obtain ⟨Te, dsE, panE, σE, al, hr, ht⟩ := ih h
                refine ⟨Te, dsE, panE, σE, al, hr, .act ho hw ha (fun x hx => ?_) h1 hn ht⟩
                exact List.all_eq_true.1 hb x (by simpa using hx)
              · simp at h
            | panic => simp at h
          · simp at h
        · rename_i ha
          have ha : it.act = false := by simpa using ha
          split at h
          · simp only [bind_ok] at h
            obtain ⟨v, h1, h⟩ := h
            obtain ⟨Te, dsE, panE, σE, al, hr, ht⟩ := ih h
            exact ⟨Te, dsE, panE, σE, al, hr, .pure ho hw ha h1 ht⟩
          · simp only [bind_ok] at h
            obtain ⟨v, h1, h⟩ := h
            split at h
            · rename_i hs
              simp only [Bool.and_eq_true, decide_eq_true_eq] at hs
              obtain ⟨Te, dsE, panE, σE, al, hr, ht⟩ := ih h
              exact ⟨Te, dsE, panE, σE, al, hr, .read ho hw ha hs.1 (fun s hm => List.all_eq_true.1 hs.2 s hm) ht⟩
            · simp at h
          · simp only [bind_ok] at h
            obtain ⟨⟨v, ob⟩, h1, h⟩ := h
            split at h
            · rename_i hb
              obtain ⟨Te, dsE, panE, σE, al, hr, ht⟩ := ih h
              exact ⟨Te, dsE, panE, σE, _, hr, .alloc ho hw ha h1 hb ht⟩
            · simp at h
          · simp at h
      · rename_i hw
        obtain ⟨Te, dsE, panE, σE, al, hr, ht⟩ := ih h
        exact ⟨Te, dsE, panE, σE, al, hr, .skip ho (by simpa using hw) ht⟩

theorem put_length (T : List AV) (dst : Option Tmp) (v : AV) : (put T dst v).length = T.length := by
  cases dst <;> simp [put]
theorem put_get_ne {T : List AV} {dst : Option Tmp} {v : AV} {t : Tmp} (h : dst ≠ some t) : (put T dst v)[t]? = T[t]? := by
  cases dst with
  | none => rfl
  | some d =>
    have hne : d ≠ t := fun e => h (by rw [e])
    simp [put, hne]
theorem put_get_eq {T : List AV} {v : AV} {t : Tmp} (h : t < T.length) : (put T (some t) v)[t]? = some v := by
  simp [put, h]

variable {Te : List AV} {dsE : List ADef} {panE : Pan} {σE : St}

theorem writes_cons {it : PlanItem} {rest : List PlanItem} {t : Tmp} : writes ops (it :: rest) t = (dstAt ops it.i == some t || writes ops rest t) := by simp [writes]

theorem dstAt_eq {i : Nat} {o : Oper} (ho : ops[i]? = some o) : dstAt ops i = o.dst := by simp [dstAt, ho]

/-- a step of the run's list -/
theorem Tr.T_eq {p : List PlanItem} {snaps : List St} {T : List AV} {ds : List ADef} {pan : Pan} {σ : St} {al : List Alc}
    (h : Tr D call round isRound ops Te dsE panE σE p snaps T ds pan σ al) : T.length = Te.length ∧ ∀ t, writes ops p t = false → T[t]? = Te[t]? := by
  induction h with
  | nil => exact ⟨rfl, fun _ _ => rfl⟩
  | skip ho _ _ ih | act ho _ _ _ _ _ _ ih | pure ho _ _ _ _ ih | read ho _ _ _ _ _ ih | alloc ho _ _ _ _ _ ih =>
    refine ⟨by rw [← ih.1, put_length], fun t ht => ?_⟩
    rw [writes_cons, Bool.or_eq_false_iff, dstAt_eq ho] at ht
    rw [← ih.2 t ht.2, put_get_ne (by simpa using ht.1)]

theorem Tr.n_le {p : List PlanItem} {snaps : List St} {T : List AV} {ds : List ADef} {pan : Pan} {σ : St} {al : List Alc}
    (h : Tr D call round isRound ops Te dsE panE σE p snaps T ds pan σ al) : (∀ e, e ∈ al → σ.n ≤ e.2.1 ∧ ∃ it, it ∈ p ∧ it.i = e.1) ∧ al.Pairwise (fun a b => a.2.1 < b.2.1) := by
  have up : ∀ {it : PlanItem} {rest : List PlanItem} {i : Nat}, (∃ it', it' ∈ rest ∧ it'.i = i) → ∃ it', it' ∈ it :: rest ∧ it'.i = i :=
    fun ⟨it', hm, he⟩ => ⟨it', List.mem_cons_of_mem _ hm, he⟩
  induction h with
  | nil => exact ⟨by simp, .nil⟩
  | skip ho _ _ ih | pure ho _ _ _ _ ih | read ho _ _ _ _ _ ih => exact ⟨fun e he => ⟨(ih.1 e he).1, up (ih.1 e he).2⟩, ih.2⟩
  | act ho _ _ _ _ hn _ ih => exact ⟨fun e he => ⟨Nat.le_trans hn (ih.1 e he).1, up (ih.1 e he).2⟩, ih.2⟩
  | alloc ho _ _ _ _ _ ih =>
    refine ⟨fun e he => ?_, List.pairwise_cons.2 ⟨fun e he => ?_, ih.2⟩⟩
    · rcases List.mem_cons.1 he with rfl | he
      · exact ⟨Nat.le_refl _, _, List.mem_cons_self, rfl⟩
      · exact ⟨Nat.le_of_succ_le (ih.1 e he).1, up (ih.1 e he).2⟩
    · exact (ih.1 e he).1

/-- what the run says of one operation that is no act -/
structure Fact (D : Tab) (ops : Array Oper) (Te : List AV) (s : St) (al : List Alc) (i : Nat) (lo k : Nat) : Prop where
  out : ∃ o T, ops[i]? = some o ∧ (∀ t, t ∈ looksAt ops o → T[t]? = Te[t]?) ∧ ∃ v, (∀ d, o.dst = some d → d < Te.length → Te[d]? = some v) ∧
    ((wantedA ops o T = false ∧ v = .undef ∧ ∀ e, e ∈ al → e.1 ≠ i) ∨
     (wantedA ops o T = true ∧ pureOp D (evalO D T) o.op = .ok v ∧ ∀ e, e ∈ al → e.1 ≠ i) ∨
     (wantedA ops o T = true ∧ (lo ≤ k → sameAt D T o.op v s = true) ∧ ∀ e, e ∈ al → e.1 ≠ i) ∨
     (∃ n ob, wantedA ops o T = true ∧ allocOp D (evalO D T) o.op n = .ok (v, ob) ∧ bndO (n + 1) ob = true ∧ (i, n, ob) ∈ al ∧ ∀ e, e ∈ al → e.1 = i → e = (i, n, ob)))

/-- the plan's static facts that the run needs -/
def ssa (ops : Array Oper) : List PlanItem → Prop
  | [] => True
  | it :: rest => (∀ it', it' ∈ rest → it'.i ≠ it.i) ∧ (∀ o, ops[it.i]? = some o → (∀ t, t ∈ looksAt ops o → writes ops (it :: rest) t = false) ∧ (∀ d, o.dst = some d → writes ops rest d = false)) ∧ ssa ops rest

theorem Tr.fact {p : List PlanItem} {snaps : List St} {T : List AV} {ds : List ADef} {pan : Pan} {σ : St} {al : List Alc}
    (h : Tr D call round isRound ops Te dsE panE σE p snaps T ds pan σ al) (hs : ssa ops p) {s : St} {old : List St} :
    (∃ more, snaps = more ++ s :: old) → ∀ it, it ∈ p → it.act = false → Fact D ops Te s al it.i it.lo old.length := by
  have hdst : ∀ {rest : List PlanItem} {T : List AV} {o : Oper} {v : AV}, (put T o.dst v).length = Te.length ∧ (∀ t, writes ops rest t = false → (put T o.dst v)[t]? = Te[t]?) →
      (∀ d, o.dst = some d → writes ops rest d = false) → ∀ d, o.dst = some d → d < Te.length → Te[d]? = some v := by
    intro rest T o v h1 h2 d hd hlt
    rw [← h1.2 d (h2 d hd), hd, put_get_eq (by rw [← h1.1, put_length] at hlt; exact hlt)]
  have noal : ∀ {it : PlanItem} {rest : List PlanItem} {al : List Alc} {n : Nat}, (∀ e, e ∈ al → n ≤ e.2.1 ∧ ∃ it', it' ∈ rest ∧ it'.i = e.1) → (∀ it', it' ∈ rest → it'.i ≠ it.i) → ∀ e, e ∈ al → e.1 ≠ it.i := by
    intro it rest al n h1 h2 e he heq
    obtain ⟨it', hm, hi⟩ := (h1 e he).2
    exact h2 it' hm (hi.trans heq)
  induction h with
  | nil => intro _ it hm; simp at hm
  | @skip it rest snaps T ds pan σ al o ho hw next ih =>
    intro hsn it' hm ha
    obtain ⟨more, rfl⟩ := hsn
    rcases List.mem_cons.1 hm with rfl | hm
    · exact ⟨o, T, ho, fun t ht => (Tr.skip ho hw next).T_eq.2 t ((hs.2.1 o ho).1 t ht), .undef, hdst next.T_eq (hs.2.1 o ho).2, .inl ⟨hw, rfl, noal next.n_le.1 hs.1⟩⟩
    · refine ih hs.2.2 ?_ it' hm ha
      split
      · exact ⟨_ :: more, rfl⟩
      · exact ⟨more, rfl⟩
  | @act it rest snaps T ds pan σ al o v ds' pan' σ' ho hw ha' hb hr hn next ih =>
    intro hsn it' hm ha
    obtain ⟨more, rfl⟩ := hsn
    rcases List.mem_cons.1 hm with rfl | hm
    · rw [ha] at ha'; cases ha'
    · exact ih hs.2.2 ⟨_ :: more, rfl⟩ it' hm ha
  | @pure it rest snaps T ds pan σ al o v ho hw ha' hr next ih =>
    intro hsn it' hm ha
    rcases List.mem_cons.1 hm with rfl | hm
    · exact ⟨o, T, ho, fun t ht => (Tr.pure ho hw ha hr next).T_eq.2 t ((hs.2.1 o ho).1 t ht), v, hdst next.T_eq (hs.2.1 o ho).2, .inr (.inl ⟨hw, hr, noal next.n_le.1 hs.1⟩)⟩
    · exact ih hs.2.2 hsn it' hm ha
  | @read it rest snaps T ds pan σ al o v ho hw ha' hlo hss next ih =>
    intro hsn it' hm ha
    rcases List.mem_cons.1 hm with rfl | hm
    · refine ⟨o, T, ho, fun t ht => (Tr.read ho hw ha hlo hss next).T_eq.2 t ((hs.2.1 o ho).1 t ht), v, hdst next.T_eq (hs.2.1 o ho).2, .inr (.inr (.inl ⟨hw, fun hk => ?_, noal next.n_le.1 hs.1⟩))⟩
      obtain ⟨more, rfl⟩ := hsn
      refine hss s ?_
      rw [List.mem_take_iff_getElem]
      refine ⟨more.length, ?_, ?_⟩
      · simp only [List.length_append, List.length_cons]; omega
      · simp
    · exact ih hs.2.2 hsn it' hm ha
  | @alloc it rest snaps T ds pan σ al o v ob ho hw ha' hr hb next ih =>
    intro hsn it' hm ha
    have h0 := noal next.n_le.1 hs.1
    rcases List.mem_cons.1 hm with rfl | hm
    · refine ⟨o, T, ho, fun t ht => (Tr.alloc ho hw ha hr hb next).T_eq.2 t ((hs.2.1 o ho).1 t ht), v, hdst next.T_eq (hs.2.1 o ho).2, .inr (.inr (.inr ⟨σ.n, ob, hw, hr, hb, List.mem_cons_self, fun e he hei => ?_⟩))⟩
      rcases List.mem_cons.1 he with rfl | he
      · rfl
      · exact (h0 e he hei).elim
    · have hne : it.i ≠ it'.i := fun e => hs.1 it' hm e.symm
      obtain ⟨o', T', ho', hl, v', hd, hc⟩ := (ih hs.2.2 hsn it' hm ha).out
      refine ⟨o', T', ho', hl, v', hd, ?_⟩
      have hn : ∀ e, e ∈ (it.i, σ.n, ob) :: al → e.1 = it'.i → e ∈ al := fun e he hei => by
        rcases List.mem_cons.1 he with rfl | he
        · exact (hne hei).elim
        · exact he
      rcases hc with ⟨h1, h2, h3⟩ | ⟨h1, h2, h3⟩ | ⟨h1, h2, h3⟩ | ⟨n, ob', h1, h2, h3, h4, h5⟩
      · exact .inl ⟨h1, h2, fun e he hei => h3 e (hn e he hei) hei⟩
      · exact .inr (.inl ⟨h1, h2, fun e he hei => h3 e (hn e he hei) hei⟩)
      · exact .inr (.inr (.inl ⟨h1, h2, fun e he hei => h3 e (hn e he hei) hei⟩))
      · exact .inr (.inr (.inr ⟨n, ob', h1, h2, h3, List.mem_cons_of_mem _ h4, fun e he hei => h5 e (hn e he hei) hei⟩))

end
end Go.Dt
namespace Go.Dt

theorem sameAt_ok {D : Tab} {T : List AV} {op : Op} {v : AV} {s : St} (h : sameAt D T op v s = true) : readOp D s (evalO D T) op = .ok v := by
  unfold sameAt at h
  split at h
  · rename_i v' hv
    rw [hv, beqA_ok _ _ h]
  · cases h

mutual
theorem ids_restrict {ι : Nat → Loc} {A : Nat → Prop} {n : Nat} : ∀ (v : AV), ids ι A v → bndA n v = true → ids ι (fun b => A b ∧ b < n) v
  | .base _, _, _ => trivial
  | .ptr b _, h, k => ⟨h, by simpa [bndA] using k⟩
  | .slice b _ _ (some _) _, h, k => ⟨h, by simpa [bndA] using k⟩
  | .slice b _ _ none _, h, k => ⟨⟨h.1, by simpa [bndA] using k⟩, h.2⟩
  | .sliceZ b _ _ _, h, k => ⟨⟨h.1, by simpa [bndA] using k⟩, h.2⟩
  | .mapv b, h, k => ⟨h, by simpa [bndA] using k⟩
  | .func _ a c, h, k => by
    simp only [bndA, Bool.and_eq_true] at k
    exact ⟨idsL_restrict a h.1 k.1, idsL_restrict c h.2 k.2⟩
  | .yield l, h, k => ⟨h, by simpa [bndA] using k⟩
  | .iface _ v, h, k => ids_restrict v h k
  | .agg cs, h, k => idsL_restrict cs h k
  | .tuple vs, h, k => idsL_restrict vs h k
theorem idsL_restrict {ι : Nat → Loc} {A : Nat → Prop} {n : Nat} : ∀ (l : List AV), idsL ι A l → bndL n l = true → idsL ι (fun b => A b ∧ b < n) l
  | [], _, _ => trivial
  | v :: l, h, k => by
    simp only [bndL, Bool.and_eq_true] at k
    exact ⟨ids_restrict v h.1 k.1, idsL_restrict l h.2 k.2⟩
end

theorem ids_sub {ι : Nat → Loc} {A B : Nat → Prop} (h : ∀ b, A b → B b) {v : AV} (k : ids ι A v) : ids ι B v := ids_mono (fun b hb => ⟨h b hb, rfl⟩) v k

theorem ORep.restrict {ι : Nat → Loc} {A : Nat → Prop} {n : Nat} {o : AO} {L : Loc} {w : World} (h : ORep ι A o L w) (k : bndO n o = true) : ORep ι (fun b => A b ∧ b < n) o L w := by
  cases o with
  | cells cs elem own sz =>
    obtain ⟨h1, h2⟩ := h
    exact ⟨idsL_restrict cs h1 k, h2⟩
  | map es clock =>
    cases es with
    | nil => exact ⟨h.1, h.2.1, by simp⟩
    | cons e es => simp [bndO] at k
  | _ => simp [bndO] at k

theorem bndO_ne {n : Nat} {o : AO} (k : bndO n o = true) : o ≠ .gone := by rintro rfl; simp [bndO] at k

section
variable {D : Tab} {ι ι' : Nat → Loc} {σ : St} {w : World}

theorem Rep.iota (R : Rep D ι σ w) (h : ∀ b, b < σ.n → ι' b = ι b) : Rep D ι' σ w where
  len := R.len
  glob := R.glob
  gloc := fun g hg => by rw [h g (Nat.lt_of_lt_of_le hg R.glob)]; exact R.gloc g hg
  obj := fun b hb => by rw [h b hb]; exact (R.obj b hb).mono fun x hx => ⟨hx, h x hx⟩
  sep := fun b b' hb hb' hne hm hg => by rw [h b hb, h b' hb']; exact R.sep b b' hb hb' hne hm hg
  mem := R.mem

theorem Ext.iota {ι0 : Nat → Loc} {σ0 : St} {w0 : World} (E : Ext ι0 σ0 w0 ι σ w) (h : ∀ b, b < σ.n → ι' b = ι b) : Ext ι0 σ0 w0 ι' σ w where
  os := E.os
  tape := E.tape
  output := E.output
  size := E.size
  n := E.n
  agree := fun b hb => (h b (Nat.lt_of_lt_of_le hb E.n)).trans (E.agree b hb)
  frame := E.frame
  own := fun b hb hg => by rw [h b hb]; exact E.own b hb hg

/-- an object that lies in memory already is taken into the heap -/
theorem Rep.adopt (R : Rep D ι σ w) {o : AO} (ho : ORep ι (· < σ.n + 1) o (ι σ.n) w) (hs : ∀ b, b < σ.n → σ.getO b ≠ .gone → (ι b).block ≠ (ι σ.n).block) :
    Rep D ι (σ.push o) w where
  len := by simp [St.push, R.len]
  glob := Nat.le_succ_of_le R.glob
  gloc := R.gloc
  obj := fun b hb => by
    simp only [St.push] at hb
    by_cases he : b = σ.n
    · subst he; rw [getO_push_new]; exact ho
    · have hb1 : b < σ.n := by omega
      rw [getO_push_old hb1]
      exact (R.obj b hb1).mono fun x hx => ⟨Nat.lt_succ_of_lt hx, rfl⟩
  sep := fun b b' hb hb' hne hm hg => by
    simp only [St.push] at hb hb'
    by_cases he : b = σ.n
    · subst he
      have hb1 : b' < σ.n := by omega
      rw [getO_push_old hb1] at hg
      exact (hs b' hb1 hg).symm
    · have hb1 : b < σ.n := by omega
      rw [getO_push_old hb1] at hm
      by_cases he' : b' = σ.n
      · subst he'; exact hs b hb1 (AO.isMut_ne hm)
      · have hb2 : b' < σ.n := by omega
        rw [getO_push_old hb2] at hg
        exact R.sep b b' hb1 hb2 hne hm hg
  mem := R.mem

theorem Ext.adopt {ι0 : Nat → Loc} {σ0 : St} {w0 : World} (E : Ext ι0 σ0 w0 ι σ w) {o : AO} (hb0 : w0.heap.size ≤ (ι σ.n).block) : Ext ι0 σ0 w0 ι (σ.push o) w where
  os := E.os
  tape := E.tape
  output := E.output
  size := E.size
  n := Nat.le_succ_of_le E.n
  agree := E.agree
  frame := E.frame
  own := fun b hb hg => by
    simp only [St.push] at hb
    by_cases he : b = σ.n
    · subst he; exact .inl hb0
    · have hb1 : b < σ.n := by omega
      rw [getO_push_old hb1] at hg ⊢
      exact E.own b hb1 hg

/-- a new block in memory that the heap does not yet know -/
theorem Ext.aside {ι0 : Nat → Loc} {σ0 : St} {w0 : World} (E : Ext ι0 σ0 w0 ι σ w) (ob : Obj) (h : ∀ b, b < σ.n → ι' b = ι b) : Ext ι0 σ0 w0 ι' σ (w.alloc ob) := by
  refine Ext.iota ⟨E.os, E.tape, E.output, ?_, E.n, E.agree, fun r hr hno => ?_, E.own⟩ h
  · have : (w.alloc ob).heap.size = w.heap.size + 1 := by simp
    rw [this]; exact Nat.le_succ_of_le E.size
  · rw [← E.frame r hr hno]
    show (w.heap.push ob)[r]? = _
    have := E.size
    rw [Array.getElem?_push, if_neg (by omega)]

theorem heap_alloc_old (w : World) (ob : Obj) {r : Nat} (hr : r < w.heap.size) : (w.alloc ob).heap[r]? = w.heap[r]? := by
  show (w.heap.push ob)[r]? = _
  rw [Array.getElem?_push, if_neg (by omega)]

theorem Rep.aside (R : Rep D ι σ w) (ob : Obj) (h : ∀ b, b < σ.n → ι' b = ι b) : Rep D ι' σ (w.alloc ob) := by
  refine Rep.iota ⟨R.len, R.glob, R.gloc, fun b hb => ?_, R.sep, R.mem⟩ h
  by_cases hg : σ.getO b = .gone
  · rw [hg]; trivial
  · exact (R.obj b hb).congr (heap_alloc_old w ob ((R.obj b hb).lt hg))

end
end Go.Dt
namespace Go.Dt

def lst (listed : Array Bool) (i : Nat) : Bool := listed.getD i false

theorem lst_set {listed : Array Bool} {i : Nat} (hi : i < listed.size) (j : Nat) : lst (listed.setIfInBounds i true) j = (lst listed j || j == i) := by
  unfold lst
  by_cases h : i = j
  · subst h; simp [hi]
  · have h' : (j == i) = false := by simpa using fun e => h e.symm
    simp [Array.getElem?_setIfInBounds_ne h, h']

theorem lst_lt {listed : Array Bool} {i : Nat} (h : lst listed i = true) : i < listed.size := by
  unfold lst at h
  rcases Nat.lt_or_ge i listed.size with h' | h'
  · exact h'
  · simp [Array.getElem?_eq_none h'] at h

/- the marks rest on edges -/
theorem beq_dec (a b : Nat) : Nat.beq a b = decide (a = b) := by
  by_cases h : a = b
  · subst h; simp
  · have : Nat.beq a b = false := by
      cases hb : Nat.beq a b with
      | false => rfl
      | true => exact (h (Nat.eq_of_beq_eq_true hb)).elim
    simp [h, this]
theorem blt_dec (a b : Nat) : Nat.blt a b = decide (a < b) := by
  by_cases h : a < b
  · simp [h, Nat.blt, Nat.ble_eq_true_of_le h]
  · have : Nat.blt a b = false := by
      cases hb : Nat.blt a b with
      | false => rfl
      | true => exact (h (by simpa [Nat.blt_eq] using hb)).elim
    simp [h, this]

theorem bitOf_eq (m i : Nat) : bitOf m i = m.testBit i := by
  unfold bitOf Nat.testBit
  rw [beq_dec]
  have h1 : Nat.land (Nat.shiftRight m i) 1 = 1 &&& (m >>> i) := Nat.and_comm _ _
  rw [h1]
  have h2 : 1 &&& (m >>> i) = (m >>> i) % 2 := by rw [Nat.and_comm]; exact Nat.and_one_is_mod _
  rw [h2]
  rcases Nat.mod_two_eq_zero_or_one (m >>> i) with h | h <;> simp [h]

theorem nthN_eq : ∀ (l : List Nat) (i : Nat), nthN l i = l.getD i 0
  | [], i => rfl
  | x :: l, 0 => rfl
  | x :: l, i + 1 => by
    have : nthN (x :: l) (i + 1) = nthN l i := rfl
    rw [this, nthN_eq l i]
    simp

theorem edgesM_spec {acc : List Nat} {k i : Nat} : ∀ {l : List Edge}, (edgesM acc k l).testBit i = true →
    ∃ e, e ∈ l ∧ Region.binds .any e = true ∧ (e.on = i ∨ (e.on < k ∧ (acc.getD (k - 1 - e.on) 0).testBit i = true))
  | [], h => by simp [edgesM] at h
  | e :: l, h => by
    unfold edgesM at h
    cases hb : Region.binds .any e with
    | false =>
      rw [hb] at h
      obtain ⟨e', h1, h2⟩ := edgesM_spec (l := l) h
      exact ⟨e', List.mem_cons_of_mem _ h1, h2⟩
    | true =>
      rw [hb] at h
      simp only [cond_true] at h
      have h' : ((((1 <<< e.on) ||| (bif Nat.blt e.on k then nthN acc (Nat.sub (Nat.sub k 1) e.on) else 0)) ||| edgesM acc k l) : Nat).testBit i = true := h
      rw [Nat.testBit_or, Nat.testBit_or, Bool.or_eq_true, Bool.or_eq_true] at h'
      rcases h' with (h1 | h1) | h1
      · refine ⟨e, by simp, hb, .inl ?_⟩
        rw [Nat.one_shiftLeft, Nat.testBit_two_pow] at h1
        exact of_decide_eq_true h1
      · rw [blt_dec] at h1
        by_cases hlt : e.on < k
        · simp only [hlt, decide_true, cond_true] at h1
          rw [nthN_eq] at h1
          exact ⟨e, by simp, hb, .inr ⟨hlt, h1⟩⟩
        · simp [hlt] at h1
      · obtain ⟨e', h2, h3⟩ := edgesM_spec (l := l) h1
        exact ⟨e', List.mem_cons_of_mem _ h2, h3⟩

theorem befL_spec (i : Nat) : ∀ (l : List Oper) (acc : List Nat) (k : Nat), acc.length = k → ∀ j o, l[j]? = some o → ((befL l acc k).getD j 0).testBit i = true →
    ∃ e, e ∈ o.after ∧ Region.binds .any e = true ∧ (e.on = i ∨ ((acc.reverse ++ befL l acc k).getD e.on 0).testBit i = true)
  | [], _, _, _, j, o, h, _ => by simp at h
  | o :: l, acc, k, hk, 0, o', ho, hb => by
    simp only [List.getElem?_cons_zero, Option.some.injEq] at ho
    subst ho
    have hb' : (edgesM acc k o.after.toList).testBit i = true := by simpa [befL] using hb
    obtain ⟨e, h1, h2, h3⟩ := edgesM_spec hb'
    refine ⟨e, by simpa using h1, h2, h3.imp id fun ⟨hlt, h4⟩ => ?_⟩
    have hl : e.on < acc.reverse.length := by rw [List.length_reverse, hk]; exact hlt
    have : (acc.reverse ++ befL (o :: l) acc k).getD e.on 0 = acc.getD (k - 1 - e.on) 0 := by
      rw [List.getD_eq_getElem?_getD, List.getD_eq_getElem?_getD, List.getElem?_append_left hl, List.getElem?_reverse (by rwa [List.length_reverse] at hl), hk]
    rw [this]
    exact h4
  | o :: l, acc, k, hk, j + 1, o', ho, hb => by
    simp only [List.getElem?_cons_succ] at ho
    have hb' : ((befL l (edgesM acc k o.after.toList :: acc) (k + 1)).getD j 0).testBit i = true := by simpa [befL] using hb
    obtain ⟨e, h1, h2, h3⟩ := befL_spec i l (edgesM acc k o.after.toList :: acc) (k + 1) (by simp [hk]) j o' ho hb'
    refine ⟨e, h1, h2, h3.imp id fun h4 => ?_⟩
    have : acc.reverse ++ befL (o :: l) acc k = (edgesM acc k o.after.toList :: acc).reverse ++ befL l (edgesM acc k o.after.toList :: acc) (k + 1) := by
      simp [befL]
    rw [this]
    exact h4

theorem marks_before (ops : Array Oper) : marksOk ops (befA ops) = true := by
  simp only [marksOk, idxs, List.all_eq_true, List.mem_range]
  intro j hj i hi
  by_cases h : isBefore (befA ops) i j = true
  · have ho : ops.toList[j]? = some ops[j] := by simp [hj]
    unfold isBefore befA at h
    have h' : ((befL ops.toList [] 0).getD j 0).testBit i = true := by simpa using h
    obtain ⟨e, he, hbi, h4⟩ := befL_spec i ops.toList [] 0 rfl j _ ho h'
    have ho' : ops[j]? = some ops[j] := by simp [hj]
    rw [ho']
    simp only [Bool.or_eq_true]
    right
    refine List.any_eq_true.2 ⟨e, by simpa using he, ?_⟩
    simp only [Bool.and_eq_true, Bool.or_eq_true, beq_iff_eq]
    refine ⟨hbi, h4.imp id fun h5 => ?_⟩
    unfold isBefore befA
    simpa using h5
  · simp [h]

def Cl (ops : Array Oper) (b : Array Nat) (listed : Array Bool) : Prop := ∀ i j, i < ops.size → lst listed j = true → isBefore b i j = true → lst listed i = true

section
variable {ops : Array Oper} {m : Nat} {b : Array Nat} {listed : Array Bool}

theorem marks_spec (hm : marksOk ops b = true) {i j : Nat} (hi : i < ops.size) (hj : j < ops.size) (h : isBefore b i j = true) :
    ∃ o e, ops[j]? = some o ∧ e ∈ o.after ∧ Region.binds .any e = true ∧ (e.on = i ∨ isBefore b i e.on = true) := by
  simp only [marksOk, idxs, List.all_eq_true, List.mem_range] at hm
  have := hm j hj i hi
  rw [h] at this
  simp only [Bool.not_true, Bool.false_or] at this
  split at this
  · rename_i o ho
    obtain ⟨e, he, h2⟩ := List.any_eq_true.1 this
    simp only [Bool.and_eq_true, Bool.or_eq_true, beq_iff_eq] at h2
    exact ⟨o, e, ho, by simpa using he, h2.1, h2.2⟩
  · cases this

theorem ready_lst {j : Nat} (h : j ∈ Region.ready .any ops listed) (hsz : listed.size = ops.size) : j < ops.size ∧ lst listed j = false := by
  obtain ⟨h0, o, ho, _⟩ := mem_ready.1 h
  have hj : j < ops.size := (Array.getElem?_eq_some_iff.1 ho).1
  refine ⟨hj, ?_⟩
  unfold lst
  have : j < listed.size := by omega
  simp [this] at h0 ⊢
  exact h0

theorem ready_before (hm : marksOk ops b = true) (hc : Cl ops b listed) (hsz : listed.size = ops.size) {i j : Nat} (hj : j ∈ Region.ready .any ops listed) (hi : i < ops.size)
    (h : isBefore b i j = true) : lst listed i = true := by
  have hj' := (ready_lst hj hsz).1
  obtain ⟨_, o, ho, hall⟩ := mem_ready.1 hj
  obtain ⟨o', e, ho', he, hb, hor⟩ := marks_spec hm hi hj' h
  rw [ho] at ho'; cases ho'
  have hl : lst listed e.on = true := hall e he hb
  rcases hor with h1 | h1
  · rw [← h1]; exact hl
  · exact hc i e.on hi hl h1

theorem Cl.set (hc : Cl ops b listed) (hm : marksOk ops b = true) (hsz : listed.size = ops.size) {j : Nat} (hj : j ∈ Region.ready .any ops listed) : Cl ops b (listed.setIfInBounds j true) := by
  have hj' := (ready_lst hj hsz).1
  intro i x hi hx h
  rw [lst_set (by omega)] at hx ⊢
  rw [Bool.or_eq_true] at hx ⊢
  left
  rcases hx with hx | hx
  · exact hc i x hi hx h
  · rw [beq_iff_eq] at hx; subst hx
    exact ready_before hm hc hsz hj hi h

/- what the static check says of the plan's head -/
structure Head (ops : Array Oper) (m : Nat) (b : Array Nat) (as : List Nat) (seen : List Nat) (it : PlanItem) (rest : List PlanItem) (o : Oper) : Prop where
  ho : ops[it.i]? = some o
  lt : it.i < m
  nosel : ∀ cs d, o.op ≠ .select cs d
  new : it.i ∉ seen
  top : ∀ e, e ∈ o.after → Region.binds .any e = true → e.on ∈ seen
  first : ∀ a, firstAct rest = some a → isBefore b it.i a = true
  lo : it.lo = 0 ∨ ∃ a, as[it.lo - 1]? = some a ∧ isBefore b a it.i = true
  looks : ∀ t, t ∈ looksAt ops o → writes ops (it :: rest) t = false ∧ ∀ j, j < m → dstAt ops j = some t → isBefore b j it.i = true
  dst : ∀ d, o.dst = some d → writes ops rest d = false

theorem chk_head {as seen : List Nat} {it : PlanItem} {rest : List PlanItem} (h : planChk ops m b as seen (it :: rest) = true) :
    (∃ o, Head ops m b as seen it rest o) ∧ planChk ops m b as (it.i :: seen) rest = true := by
  simp only [planChk, Bool.and_eq_true] at h
  refine ⟨?_, h.2⟩
  have h1 := h.1
  split at h1
  · cases h1
  · rename_i o ho
    simp only [Bool.and_eq_true, Bool.not_eq_true', List.all_eq_true, Bool.or_eq_true] at h1
    obtain ⟨⟨⟨⟨⟨⟨⟨h0, h1⟩, h2⟩, h3⟩, h4⟩, h5⟩, h6⟩, h7⟩ := h1
    refine ⟨o, ho, by simpa [Nat.blt_eq] using h0, ?_, ?_, ?_, ?_, ?_, ?_, ?_⟩
    · intro cs d e; rw [e] at h1; simp [isSelect] at h1
    · simpa using h2
    · intro e he hb
      rcases h3 e (by simpa using he) with h | h
      · rw [hb] at h; cases h
      · simpa using h
    · intro a ha; rw [ha] at h4; exact h4
    · rcases h5 with h | h
      · left; simpa using h
      · right
        split at h
        · rename_i a ha; exact ⟨a, ha, h⟩
        · cases h
    · intro t ht
      refine ⟨by simpa using (h6 t ht).1, fun j hj hd => ?_⟩
      have := (h6 t ht).2
      simp only [List.mem_range] at this
      rcases this j hj with h | h
      · rw [hd] at h; simp at h
      · exact h
    · intro d hd; rw [hd] at h7; simpa using h7

theorem chk_new {as : List Nat} : ∀ {rest : List PlanItem} {seen : List Nat}, planChk ops m b as seen rest = true → ∀ it, it ∈ rest → it.i ∉ seen := by
  intro rest
  induction rest with
  | nil => intro seen _ it hm; simp at hm
  | cons x rest ih =>
    intro seen h it hm
    obtain ⟨⟨o, hh⟩, h2⟩ := chk_head h
    rcases List.mem_cons.1 hm with rfl | hm
    · exact hh.new
    · intro hs; exact ih h2 it hm (List.mem_cons_of_mem _ hs)

theorem chk_ssa {as : List Nat} : ∀ {rest : List PlanItem} {seen : List Nat}, planChk ops m b as seen rest = true → ssa ops rest := by
  intro rest
  induction rest with
  | nil => intro seen _; trivial
  | cons x rest ih =>
    intro seen h
    obtain ⟨⟨o, hh⟩, h2⟩ := chk_head h
    refine ⟨fun it' hm e => chk_new h2 it' hm (e ▸ List.mem_cons_self), fun o' ho' => ?_, ih h2⟩
    rw [hh.ho] at ho'; cases ho'
    exact ⟨fun t ht => (hh.looks t ht).1, hh.dst⟩

theorem ssa_inj : ∀ {rest : List PlanItem}, ssa ops rest → ∀ {x y : PlanItem}, x ∈ rest → y ∈ rest → x.i = y.i → x = y := by
  intro rest
  induction rest with
  | nil => intro _ x y hx; simp at hx
  | cons z rest ih =>
    intro h x y hx hy he
    rcases List.mem_cons.1 hx with rfl | hx1
    · rcases List.mem_cons.1 hy with rfl | hy1
      · rfl
      · exact (h.1 y hy1 he.symm).elim
    · rcases List.mem_cons.1 hy with rfl | hy1
      · exact (h.1 x hx1 he).elim
      · exact ih h.2.2 hx1 hy1 he

/-- the head's facts, for a member -/
theorem chk_mem {as : List Nat} : ∀ {rest : List PlanItem} {seen : List Nat}, planChk ops m b as seen rest = true → ∀ it, it ∈ rest → ∃ o seen' rest', Head ops m b as seen' it rest' o := by
  intro rest
  induction rest with
  | nil => intro seen _ it hm; simp at hm
  | cons x rest ih =>
    intro seen h it hm
    obtain ⟨⟨o, hh⟩, h2⟩ := chk_head h
    rcases List.mem_cons.1 hm with rfl | hm
    · exact ⟨o, seen, rest, hh⟩
    · exact ih h2 it hm

theorem chk_chain {as : List Nat} {it : PlanItem} (ha : it.act = true) : ∀ {rest : List PlanItem} {seen : List Nat}, planChk ops m b as seen rest = true → it ∈ rest →
    firstAct rest = some it.i ∨ ∃ p, p ∈ rest ∧ p.act = true ∧ isBefore b p.i it.i = true := by
  intro rest
  induction rest with
  | nil => intro seen _ hm; simp at hm
  | cons x rest ih =>
    intro seen h hm
    obtain ⟨⟨o, hh⟩, h2⟩ := chk_head h
    cases hx : x.act with
    | true =>
      rcases List.mem_cons.1 hm with rfl | hm
      · left; simp [firstAct, hx]
      · rcases ih h2 hm with h3 | ⟨p, hp, h3⟩
        · exact .inr ⟨x, List.mem_cons_self, hx, hh.first _ h3⟩
        · exact .inr ⟨p, List.mem_cons_of_mem _ hp, h3⟩
    | false =>
      rcases List.mem_cons.1 hm with rfl | hm
      · rw [ha] at hx; cases hx
      · rcases ih h2 hm with h3 | ⟨p, hp, h3⟩
        · left; simpa [firstAct, hx] using h3
        · exact .inr ⟨p, List.mem_cons_of_mem _ hp, h3⟩

end

def Live (σ : St) (al : List Alc) (listed : Array Bool) (b : Nat) : Prop := b < σ.n ∨ ∃ e, e ∈ al ∧ lst listed e.1 = true ∧ e.2.1 = b

structure Pend (σ : St) (al : List Alc) (listed : Array Bool) (ι : Nat → Loc) (w : World) (base : Nat) (e : Alc) : Prop where
  rep : ORep ι (Live σ al listed) e.2.2 (ι e.2.1) w
  bnd : bndO (e.2.1 + 1) e.2.2 = true
  base : base ≤ (ι e.2.1).block
  apart : ∀ b, b < σ.n → σ.getO b ≠ .gone → (ι b).block ≠ (ι e.2.1).block

/-- what stays the same -/
structure Env where
  D : Tab
  P : Program
  call : CallT
  round : RoundT
  isRound : Bool
  X : Ctx
  b : Frame
  ops : Array Oper
  m : Nat
  as : List Nat
  Te : List AV
  dsE : List ADef
  panE : Pan
  σE : St
  ι0 : Nat → Loc
  σ0 : St
  w0 : World

structure DInv (V : Env) (listed : Array Bool) (rest : List PlanItem) (seen : List Nat) (s : St) (old : List St) (T : List AV) (ds : List ADef) (pan : Pan) (σ : St) (al : List Alc)
    (ι : Nat → Loc) (w : World) (M : Array Value) : Prop where
  tr : Tr V.D V.call V.round V.isRound V.ops V.Te V.dsE V.panE V.σE rest (s :: old) T ds pan σ al
  chk : planChk V.ops V.m (befA V.ops) V.as seen rest = true
  acts : (rest.filter (·.act)).map (·.i) = V.as.drop old.length
  sz : listed.size = V.ops.size
  cl : Cl V.ops (befA V.ops) listed
  seenL : ∀ j, j ∈ seen → lst listed j = true
  cov : ∀ i, i < V.m → i ∈ seen ∨ ∃ it, it ∈ rest ∧ it.i = i
  un : ∀ it, it ∈ rest → it.act = true → lst listed it.i = false
  rep : Rep V.D ι σ w
  ext : Ext V.ι0 V.σ0 V.w0 ι σ w
  msz : M.size = V.Te.length
  val : ∀ t v, V.Te[t]? = some v → (∀ it, it ∈ rest → lst listed it.i = false → dstAt V.ops it.i ≠ some t) → M[t]? = some (conc ι v) ∧ ids ι (Live σ al listed) v
  pend : ∀ e, e ∈ al → lst listed e.1 = true → Pend σ al listed ι w V.w0.heap.size e
  sep : ∀ e e', e ∈ al → e' ∈ al → lst listed e.1 = true → lst listed e'.1 = true → e.2.1 ≠ e'.2.1 → (ι e.2.1).block ≠ (ι e'.2.1).block
  fit : V.X.fits pan
  ds : idsDs ι (· < σ.n) ds
  pan : idsPan ι (· < σ.n) pan

section
variable {V : Env} {listed : Array Bool} {rest : List PlanItem} {seen : List Nat} {s : St} {old : List St} {T : List AV} {ds : List ADef} {pan : Pan} {σ : St} {al : List Alc}
  {ι : Nat → Loc} {w : World} {M : Array Value}

/-- what a ready operation looks at -/
structure Looks (V : Env) (σ : St) (al : List Alc) (listed : Array Bool) (ι : Nat → Loc) (M : Array Value) (o : Oper) (T : List AV) : Prop where
  ev : Go.execOp (evT M) o = Go.execOp (fun x => conc ι (evalO V.D T x)) o
  ids : ∀ x, x ∈ o.op.operands → Dt.ids ι (Live σ al listed) (evalO V.D T x)
  wanted : Region.wanted o (yielded V.ops M) = wantedA V.ops o T

theorem DInv.looks (I : DInv V listed rest seen s old T ds pan σ al ι w M) (hm : marksOk V.ops (befA V.ops) = true) {it : PlanItem} (hit : it ∈ rest) (hr : it.i ∈ Region.ready .any V.ops listed)
    {o : Oper} (ho : V.ops[it.i]? = some o) {T' : List AV} (hT : ∀ t, t ∈ looksAt V.ops o → T'[t]? = V.Te[t]?) : Looks V σ al listed ι M o T' := by
  obtain ⟨o', seen', rest', hh⟩ := chk_mem I.chk it hit
  rw [hh.ho] at ho; cases ho
  have key : ∀ t, t ∈ looksAt V.ops o → ∀ v, T'[t]? = some v → M[t]? = some (conc ι v) ∧ ids ι (Live σ al listed) v := by
    intro t ht v hv
    rw [hT t ht] at hv
    refine I.val t v hv fun it' hm' hl' hd' => ?_
    have hlt : it'.i < V.ops.size := by
      unfold dstAt at hd'
      cases hx : V.ops[it'.i]? with
      | none => rw [hx] at hd'; cases hd'
      | some _ => exact (Array.getElem?_eq_some_iff.1 hx).1
    obtain ⟨_, _, _, hh'⟩ := chk_mem I.chk it' hm'
    have := ready_before hm I.cl I.sz hr hlt ((hh.looks t ht).2 it'.i hh'.lt hd')
    rw [hl'] at this; cases this
  have keyN : ∀ t, t ∈ looksAt V.ops o → T'[t]? = none → M[t]? = none := by
    intro t ht hv
    rw [hT t ht, List.getElem?_eq_none_iff] at hv
    exact Array.getElem?_eq_none (by rw [I.msz]; exact hv)
  have tm : ∀ t, (Operand.tmp t) ∈ o.op.operands → t ∈ looksAt V.ops o := fun t ht =>
    List.mem_append_left _ (List.mem_filterMap.2 ⟨.tmp t, by simpa using ht, rfl⟩)
  refine ⟨execOp_congr o hh.nosel fun x hx => ?_, fun x hx => ?_, ?_⟩
  · cases x with
    | tmp t =>
      have ht := tm t hx
      simp only [evT, evalO, Array.getD_eq_getD_getElem?, List.getD_eq_getElem?_getD]
      cases hv : T'[t]? with
      | none => rw [keyN t ht hv]; simp
      | some v => rw [(key t ht v hv).1]; simp
    | const v => simp [evT, evalO]
    | global g =>
      simp only [evT, evalO]
      split
      · rename_i hg
        have := I.rep.gloc g hg
        simp [conc, Loc.at, this.1, this.2]
      · simp [conc]
    | func f => simp [evT, evalO, conc, concL]
  · cases x with
    | tmp t =>
      have ht := tm t hx
      simp only [evalO, List.getD_eq_getElem?_getD]
      cases hv : T'[t]? with
      | none => simpa using ids_undef ι _
      | some v => simpa using (key t ht v hv).2
    | const v => exact ids_ofConst ι _ v
    | global g =>
      simp only [evalO]
      split
      · rename_i hg; exact .inl (I.rep.glob_lt g hg)
      · trivial
    | func f => simp [evalO, Dt.ids, idsL]
  · unfold Region.wanted wantedA
    cases hg : o.guard with
    | none => rfl
    | some p =>
      obtain ⟨g, want⟩ := p
      have : yielded V.ops M g = yieldedA V.ops T' g := by
        rw [← yielded_conc ι]
        unfold yielded
        cases ht : (V.ops[g]?).bind (·.dst) with
        | none => rfl
        | some t =>
          have hl : t ∈ looksAt V.ops o := List.mem_append_right _ (by simp [hg, ht])
          simp only [Option.bind_some, List.getElem?_toArray, concL_getElem?]
          cases hv : T'[t]? with
          | none => rw [keyN t hl hv]; simp
          | some v => rw [(key t hl v hv).1]; simp
      simp only [this]

/-- an operation that is no act has been listed -/
theorem DInv.inert (I : DInv V listed rest seen s old T ds pan σ al ι w M) (hm : marksOk V.ops (befA V.ops) = true) {it : PlanItem} (hit : it ∈ rest) (hr : it.i ∈ Region.ready .any V.ops listed)
    (hna : it.act = false) {o : Oper} (ho : V.ops[it.i]? = some o) {v : AV} (hv : ∀ d, o.dst = some d → d < V.Te.length → V.Te[d]? = some v) {ι' : Nat → Loc} {w' : World}
    (hk : ∀ b, Live σ al listed b → Live σ al (listed.setIfInBounds it.i true) b ∧ ι' b = ι b) (R : Rep V.D ι' σ w') (E : Ext V.ι0 V.σ0 V.w0 ι' σ w')
    (hid : ids ι' (Live σ al (listed.setIfInBounds it.i true)) v)
    (hp : ∀ e, e ∈ al → lst (listed.setIfInBounds it.i true) e.1 = true → Pend σ al (listed.setIfInBounds it.i true) ι' w' V.w0.heap.size e)
    (hs : ∀ e e', e ∈ al → e' ∈ al → lst (listed.setIfInBounds it.i true) e.1 = true → lst (listed.setIfInBounds it.i true) e'.1 = true → e.2.1 ≠ e'.2.1 → (ι' e.2.1).block ≠ (ι' e'.2.1).block) :
    DInv V (listed.setIfInBounds it.i true) rest seen s old T ds pan σ al ι' w' (putV M o.dst (conc ι' v)) := by
  have hlt := (ready_lst hr I.sz).1
  have hset := fun j => lst_set (listed := listed) (i := it.i) (by rw [I.sz]; exact hlt) j
  have hkn : ∀ b, b < σ.n → b < σ.n ∧ ι' b = ι b := fun b hb => ⟨hb, (hk b (.inl hb)).2⟩
  refine { tr := I.tr, chk := I.chk, acts := I.acts, sz := by simpa using I.sz, cl := I.cl.set hm I.sz hr, seenL := fun j hj => by rw [hset, I.seenL j hj]; rfl, cov := I.cov,
           un := fun it' hm' ha' => ?_, rep := R, ext := E, msz := ?_, val := fun t v' hv' hno => ?_, pend := hp, sep := hs,
           ds := idsDs_mono hkn I.ds, pan := idsPan_mono hkn pan I.pan, fit := I.fit }
  · rw [hset, I.un it' hm' ha', Bool.false_or]
    simp only [beq_eq_false_iff_ne]
    intro he
    have hsame : it' = it := ssa_inj (chk_ssa I.chk) hm' hit he
    rw [hsame, hna] at ha'; cases ha'
  · rw [← I.msz]; unfold putV; split <;> simp
  · by_cases hd : o.dst = some t
    · have htl : t < V.Te.length := (List.getElem?_eq_some_iff.1 hv').1
      have := hv t hd htl
      rw [hv'] at this; cases this
      refine ⟨?_, hid⟩
      rw [hd]; simp only [putV]
      rw [Array.getElem?_setIfInBounds_self_of_lt (by rw [I.msz]; exact htl)]
    · have h1 := I.val t v' hv' fun it' hm' hl' hd' => ?_
      · refine ⟨?_, ids_mono hk v' h1.2⟩
        have hM : (putV M o.dst (conc ι' v))[t]? = M[t]? := by
          unfold putV
          split
          · rename_i d hd'
            exact Array.getElem?_setIfInBounds_ne fun e => hd (by rw [hd', e])
          · rfl
        rw [hM, h1.1, conc_agree (fun b hb => (hk b hb).2) v' h1.2]
      · by_cases he : it'.i = it.i
        · rw [he, dstAt_eq ho] at hd'; exact hd hd'
        · refine hno it' hm' ?_ hd'
          rw [hset, hl']; simpa using he

end
end Go.Dt
namespace Go.Dt

section
variable {V : Env} {listed : Array Bool} {rest : List PlanItem} {seen : List Nat} {s : St} {old : List St} {T : List AV} {ds : List ADef} {pan : Pan} {σ : St} {al : List Alc}
  {ι : Nat → Loc} {w : World} {M : Array Value}

theorem Live.same {i : Nat} (hi : i < listed.size) (hno : ∀ e, e ∈ al → e.1 ≠ i) (b : Nat) : Live σ al (listed.setIfInBounds i true) b ↔ Live σ al listed b := by
  unfold Live
  constructor
  · rintro (h | ⟨e, he, hl, h⟩)
    · exact .inl h
    · rw [lst_set hi] at hl
      exact .inr ⟨e, he, by simpa [hno e he] using hl, h⟩
  · rintro (h | ⟨e, he, hl, h⟩)
    · exact .inl h
    · exact .inr ⟨e, he, by rw [lst_set hi, hl]; rfl, h⟩

/-- the machine in a region -/
def mch (V : Env) (order : List Nat) (k : List Item) (ι : Nat → Loc) (ds : List ADef) (pan : Pan) (w : World) (M : Array Value) : Machine :=
  lone (on V.b M (ds.map (concDef ι)) (.inRegion V.ops order :: k)) (V.X.cs ι pan) w

theorem mch_agree {order : List Nat} {k : List Item} {ι ι' : Nat → Loc} {n : Nat} (h : ∀ b, b < n → ι' b = ι b) (hd : idsDs ι (· < n) ds) (hp : idsPan ι (· < n) pan) :
    mch V order k ι' ds pan w M = mch V order k ι ds pan w M := by
  unfold mch
  rw [concDs_agree h hd, V.X.agree h hp]

theorem DInv.early (I : DInv V listed rest seen σ old T ds pan σ al ι w M) (F : Fits V.D V.P) (hm : marksOk V.ops (befA V.ops) = true) {it : PlanItem} (hit : it ∈ rest)
    (hr : it.i ∈ Region.ready .any V.ops listed) (hna : it.act = false) (hlo : it.lo ≤ old.length) (order : List Nat) (k : List Item) :
    ∃ ι' w' M', Steps V.P (mch V (it.i :: order) k ι ds pan w M) (mch V order k ι' ds pan w' M') ∧ DInv V (listed.setIfInBounds it.i true) rest seen σ old T ds pan σ al ι' w' M' := by
  obtain ⟨o, T', ho, hT, v, hv, hc⟩ := (I.tr.fact (chk_ssa I.chk) ⟨[], rfl⟩ it hit hna).out
  have hlt := (ready_lst hr I.sz).1
  have hls : it.i < listed.size := by rw [I.sz]; exact hlt
  have L := I.looks hm hit hr ho hT
  obtain ⟨o', seen', rest', hh⟩ := chk_mem I.chk it hit
  have hoo : o' = o := by have := hh.ho; rw [ho] at this; cases this; rfl
  subst hoo
  -- nothing new in memory
  have plain : ∀ (hno : ∀ e, e ∈ al → e.1 ≠ it.i), ids ι (Live σ al listed) v → DInv V (listed.setIfInBounds it.i true) rest seen σ old T ds pan σ al ι w (putV M o'.dst (conc ι v)) := by
    intro hno hid
    have hsame := Live.same (σ := σ) hls hno
    have hl : ∀ e, e ∈ al → lst (listed.setIfInBounds it.i true) e.1 = true → lst listed e.1 = true := fun e he h => by
      rw [lst_set hls] at h; simpa [hno e he] using h
    refine I.inert hm hit hr hna ho hv (fun b hb => ⟨(hsame b).2 hb, rfl⟩) I.rep I.ext (ids_sub (fun b hb => (hsame b).2 hb) hid) (fun e he h => ?_) fun e e' he he' h h' hne => I.sep e e' he he' (hl e he h) (hl e' he' h') hne
    have p := I.pend e he (hl e he h)
    exact ⟨p.rep.mono fun b hb => ⟨(hsame b).2 hb, rfl⟩, p.bnd, p.base, p.apart⟩
  have nd : V.b.roundOf = none ∨ ∀ c, o'.op ≠ .defer c ∨ wantedA V.ops o' T' = false := by
    right
    intro c
    rcases hc with ⟨h1, _⟩ | ⟨h1, h2, _⟩ | ⟨h1, h2, _⟩ | ⟨n, ob, h1, h2, _⟩
    · exact .inr h1
    · left; intro e; rw [e] at h2; simp [pureOp] at h2
    · left; intro e; have := sameAt_ok (h2 hlo); rw [e] at this; simp [readOp] at this
    · left; intro e; rw [e] at h2; simp [allocOp] at h2
  have nd' : wantedA V.ops o' T' = true → V.b.roundOf = none ∨ ∀ c, o'.op ≠ .defer c := fun hw => by
    rcases nd with h | h
    · exact .inl h
    · right; intro c
      rcases h c with h | h
      · exact h
      · rw [hw] at h; cases h
  rcases hc with ⟨h1, h2, h3⟩ | ⟨h1, h2, h3⟩ | ⟨h1, h2, h3⟩ | ⟨n, ob, h1, h2, h3, h4, h5⟩
  · subst h2
    refine ⟨ι, w, _, .one ?_, plain h3 (ids_undef _ _)⟩
    rw [conc_undef]
    exact step_unwanted (by simp [ho, L.wanted, h1]) ho
  · obtain ⟨hrun, hids⟩ := pureOp_run F w h2 L.ids
    refine ⟨ι, w, _, .one ?_, plain h3 hids⟩
    exact step_value ho (by rw [L.wanted, h1]) (nd' h1) (by rw [L.ev]; exact hrun)
  · obtain ⟨hrun, hids⟩ := readOp_run F I.rep (sameAt_ok (h2 hlo))
    refine ⟨ι, w, _, .one ?_, plain h3 (ids_sub (fun b hb => .inl hb) hids)⟩
    exact step_value ho (by rw [L.wanted, h1]) (nd' h1) (by rw [L.ev]; exact hrun)
  · -- a new block
    have hn := I.tr.n_le
    have hnn : σ.n ≤ n := (hn.1 _ h4).1
    have hdis : ∀ e, e ∈ al → e.1 ≠ it.i → e.2.1 ≠ n := by
      intro e he hne heq
      have hp := hn.2
      have := List.pairwise_iff_getElem.1 hp
      obtain ⟨x, hx, hxe⟩ := List.getElem_of_mem he
      obtain ⟨y, hy, hye⟩ := List.getElem_of_mem h4
      rcases Nat.lt_trichotomy x y with hxy | hxy | hxy
      · have := this x y hx hy hxy; rw [hxe, hye] at this; simp only at this; omega
      · subst hxy; rw [hxe] at hye; rw [hye] at hne; exact hne rfl
      · have := this y x hy hx hxy; rw [hxe, hye] at this; simp only at this; omega
    have hun := (ready_lst hr I.sz).2
    have hnl : ¬ Live σ al listed n := by
      rintro (h | ⟨e, he, hl, h⟩)
      · omega
      · by_cases hei : e.1 = it.i
        · rw [hei, hun] at hl; cases hl
        · exact hdis e he hei h
    obtain ⟨obj, Lc, g1, g2, g3, g4⟩ := (allocOp_run F w hnl h2 L.ids).out
    have hlive : ∀ b, (Live σ al listed b ∨ b = n) → Live σ al (listed.setIfInBounds it.i true) b := by
      rintro b (h | rfl)
      · rcases h with h | ⟨e, he, hl, h⟩
        · exact .inl h
        · exact .inr ⟨e, he, by rw [lst_set hls, hl]; rfl, h⟩
      · exact .inr ⟨_, h4, by rw [lst_set hls]; simp, rfl⟩
    have hk : ∀ b, Live σ al listed b → Live σ al (listed.setIfInBounds it.i true) b ∧ upd ι n Lc b = ι b := fun b hb => ⟨hlive b (.inl hb), upd_old fun e => hnl (e ▸ hb)⟩
    have hagree : ∀ b, b < σ.n → upd ι n Lc b = ι b := fun b hb => upd_old (by omega)
    have R' := I.rep.aside obj hagree
    have E' := I.ext.aside obj hagree
    have hsz : V.w0.heap.size ≤ w.heap.size := I.ext.size
    refine ⟨upd ι n Lc, w.alloc obj, putV M o'.dst (conc (upd ι n Lc) v), ?_, ?_⟩
    · rw [mch_agree hagree I.ds I.pan]
      exact .one (step_value ho (by rw [L.wanted, h1]) (nd' h1) (by rw [L.ev]; exact g1))
    · have hlst : ∀ e, e ∈ al → lst (listed.setIfInBounds it.i true) e.1 = true → e = (it.i, n, ob) ∨ (lst listed e.1 = true ∧ e.2.1 ≠ n) := by
        intro e he h
        by_cases hei : e.1 = it.i
        · exact .inl (h5 e he hei)
        · right
          rw [lst_set hls] at h
          exact ⟨by simpa [hei] using h, hdis e he hei⟩
      have hblk : ∀ e, e ∈ al → lst listed e.1 = true → (ι e.2.1).block < w.heap.size := fun e he hl => by
        have p := I.pend e he hl
        exact p.rep.lt (bndO_ne p.bnd)
      refine I.inert hm hit hr hna ho hv hk R' E' (ids_sub hlive g4) (fun e he h => ?_) fun e e' he he' h h' hne => ?_
      · rcases hlst e he h with rfl | ⟨hl, hne⟩
        · refine ⟨?_, h3, ?_, fun b hb hg => ?_⟩
          · simp only [upd_new]
            exact g3.mono fun b hb => ⟨hlive b hb, rfl⟩
          · simp only [upd_new, g2]; exact hsz
          · simp only [upd_new, g2]
            rw [hagree b hb]
            have := (I.rep.obj b hb).lt hg
            omega
        · have p := I.pend e he hl
          refine ⟨?_, p.bnd, ?_, fun b hb hg => ?_⟩
          · rw [upd_old hne]
            exact (p.rep.mono hk).congr (heap_alloc_old w obj (hblk e he hl))
          · rw [upd_old hne]; exact p.base
          · rw [upd_old hne, hagree b hb]; exact p.apart b hb hg
      · rcases hlst e he h with rfl | ⟨hl, hn1⟩
        · rcases hlst e' he' h' with rfl | ⟨hl', hn2⟩
          · exact (hne rfl).elim
          · simp only [upd_new, g2]
            rw [upd_old hn2]
            have := hblk e' he' hl'
            omega
        · rcases hlst e' he' h' with rfl | ⟨hl', hn2⟩
          · simp only [upd_new, g2]
            rw [upd_old hn1]
            have := hblk e he hl
            omega
          · rw [upd_old hn1, upd_old hn2]
            exact I.sep e e' he he' hl hl' hne

theorem drop_cons_tail {α : Type} {l : List α} {n : Nat} {x : α} {r : List α} (h : x :: r = l.drop n) : r = l.drop (n + 1) := by
  rw [← List.tail_drop, ← h, List.tail_cons]

/-- the plan moves over an operation that is no act and has been listed -/
theorem DInv.adv {it : PlanItem} (I : DInv V listed (it :: rest) seen s old T ds pan σ al ι w M) (hna : it.act = false) (hl : lst listed it.i = true) :
    ∃ T' σ' al', DInv V listed rest (it.i :: seen) s old T' ds pan σ' al' ι w M := by
  have base : ∀ {T' : List AV} {σ' : St} {al' : List Alc} (_ : Tr V.D V.call V.round V.isRound V.ops V.Te V.dsE V.panE V.σE rest (s :: old) T' ds pan σ' al')
      (_ : Rep V.D ι σ' w) (_ : Ext V.ι0 V.σ0 V.w0 ι σ' w) (_ : ∀ b, Live σ al listed b → Live σ' al' listed b) (_ : σ.n ≤ σ'.n)
      (_ : ∀ e, e ∈ al' → lst listed e.1 = true → Pend σ' al' listed ι w V.w0.heap.size e)
      (_ : ∀ e, e ∈ al' → e ∈ al), DInv V listed rest (it.i :: seen) s old T' ds pan σ' al' ι w M := by
    intro T' σ' al' htr hrep hext hlive hn hpend hsub
    have hkn : ∀ b, b < σ.n → b < σ'.n ∧ ι b = ι b := fun b hb => ⟨Nat.lt_of_lt_of_le hb hn, rfl⟩
    exact { tr := htr, chk := (chk_head I.chk).2, acts := by have := I.acts; simpa [List.filter_cons, hna] using this, sz := I.sz, cl := I.cl,
            seenL := fun j hj => by
              rcases List.mem_cons.1 hj with rfl | hj
              · exact hl
              · exact I.seenL j hj,
            cov := fun i hi => by
              rcases I.cov i hi with h | ⟨x, hx, rfl⟩
              · exact .inl (List.mem_cons_of_mem _ h)
              · rcases List.mem_cons.1 hx with rfl | hx
                · exact .inl List.mem_cons_self
                · exact .inr ⟨x, hx, rfl⟩,
            un := fun x hx ha => I.un x (List.mem_cons_of_mem _ hx) ha, rep := hrep, ext := hext, msz := I.msz,
            val := fun t v hv hno => by
              have := I.val t v hv fun x hx hxl => by
                rcases List.mem_cons.1 hx with rfl | hx
                · rw [hl] at hxl; cases hxl
                · exact hno x hx hxl
              exact ⟨this.1, ids_sub hlive this.2⟩,
            pend := hpend, sep := fun e e' he he' => I.sep e e' (hsub e he) (hsub e' he'), fit := I.fit, ds := idsDs_mono hkn I.ds, pan := idsPan_mono hkn pan I.pan }
  have htr := I.tr
  cases htr with
  | skip ho hw next =>
    rw [hna] at next
    exact ⟨_, _, _, base next I.rep I.ext (fun b hb => hb) (Nat.le_refl _) I.pend fun e he => he⟩
  | act ho hw ha => rw [hna] at ha; cases ha
  | pure ho hw ha hr next => exact ⟨_, _, _, base next I.rep I.ext (fun b hb => hb) (Nat.le_refl _) I.pend fun e he => he⟩
  | read ho hw ha hlo hs next => exact ⟨_, _, _, base next I.rep I.ext (fun b hb => hb) (Nat.le_refl _) I.pend fun e he => he⟩
  | @alloc _ _ _ _ _ _ _ al' o v ob ho hw ha hr hb next =>
    have p := I.pend _ List.mem_cons_self hl
    have hORep : ORep ι (· < σ.n + 1) ob (ι σ.n) w := (p.rep.restrict hb).mono fun b hb => ⟨hb.2, rfl⟩
    have hlive : ∀ b, Live σ ((it.i, σ.n, ob) :: al') listed b → Live (σ.push ob) al' listed b := by
      rintro b (h | ⟨e, he, hle, h⟩)
      · exact .inl (Nat.lt_succ_of_lt h)
      · rcases List.mem_cons.1 he with rfl | he
        · left; simp only at h; rw [← h]; exact Nat.lt_succ_self _
        · exact .inr ⟨e, he, hle, h⟩
    refine ⟨_, _, _, base next (I.rep.adopt hORep p.apart) (I.ext.adopt p.base) hlive (Nat.le_succ _) (fun e he hle => ?_) fun e he => List.mem_cons_of_mem _ he⟩
    have q := I.pend e (List.mem_cons_of_mem _ he) hle
    refine ⟨q.rep.mono fun b hb => ⟨hlive b hb, rfl⟩, q.bnd, q.base, fun b hb hg => ?_⟩
    simp only [St.push] at hb
    by_cases hbe : b = σ.n
    · subst hbe
      have hlt : σ.n < e.2.1 := (List.pairwise_cons.1 I.tr.n_le.2).1 e he
      exact I.sep (it.i, σ.n, ob) e List.mem_cons_self (List.mem_cons_of_mem _ he) hl hle (Nat.ne_of_lt hlt)
    · have hb1 : b < σ.n := by omega
      rw [getO_push_old hb1] at hg
      exact q.apart b hb1 hg

end
end Go.Dt
namespace Go.Dt

section
variable {V : Env} {listed : Array Bool} {rest : List PlanItem} {seen : List Nat} {s : St} {old : List St} {T : List AV} {ds : List ADef} {pan : Pan} {σ : St} {al : List Alc}
  {ι : Nat → Loc} {w : World} {M : Array Value}

structure Env.OK (V : Env) : Prop where
  F : Fits V.D V.P
  call : CallOK V.D V.P V.call
  round : RoundOK V.D V.P V.round
  kind : V.b.kind = V.X.kind
  isRound : V.b.roundOf = none ↔ V.isRound = false
  marks : marksOk V.ops (befA V.ops) = true

theorem DInv.act {it : PlanItem} (I : DInv V listed (it :: rest) seen s old T ds pan σ al ι w M) (K : V.OK) (ha : it.act = true) (hr : it.i ∈ Region.ready .any V.ops listed)
    (order : List Nat) (k : List Item) :
    ∃ T' ds' pan' σ' ι' w' M', Steps V.P (mch V (it.i :: order) k ι ds pan w M) (mch V order k ι' ds' pan' w' M') ∧
      DInv V (listed.setIfInBounds it.i true) rest (it.i :: seen) σ' (s :: old) T' ds' pan' σ' al ι' w' M' := by
  have hm := K.marks
  have hlt := (ready_lst hr I.sz).1
  have hls : it.i < listed.size := by rw [I.sz]; exact hlt
  have hset := fun j => lst_set (listed := listed) (i := it.i) hls j
  obtain ⟨⟨o0, hh⟩, hchk⟩ := chk_head I.chk
  have hnd := chk_ssa I.chk
  have hne : ∀ x, x ∈ rest → x.i ≠ it.i := hnd.1
  have hlook : ∀ {o : Oper}, V.ops[it.i]? = some o → Looks V σ al listed ι M o T := fun ho =>
    I.looks hm List.mem_cons_self hr ho fun t ht => I.tr.T_eq.2 t ((hnd.2.1 _ ho).1 t ht)
  -- the plan goes on
  have base : ∀ {T' : List AV} {ds' : List ADef} {pan' : Pan} {σ' : St} {ι' : Nat → Loc} {w' : World} {v : AV} {o : Oper} (_ : V.ops[it.i]? = some o)
      (_ : Tr V.D V.call V.round V.isRound V.ops V.Te V.dsE V.panE V.σE rest (σ' :: s :: old) T' ds' pan' σ' al) (_ : T' = put T o.dst v)
      (_ : Rep V.D ι' σ' w') (_ : Ext V.ι0 V.σ0 V.w0 ι' σ' w') (_ : ∀ b, Live σ al listed b → Live σ' al (listed.setIfInBounds it.i true) b ∧ ι' b = ι b)
      (_ : ids ι' (Live σ' al (listed.setIfInBounds it.i true)) v)
      (_ : ∀ e, e ∈ al → lst listed e.1 = true → Pend σ' al (listed.setIfInBounds it.i true) ι' w' V.w0.heap.size e)
      (_ : ∀ e, e ∈ al → ι' e.2.1 = ι e.2.1) (_ : V.X.fits pan') (_ : idsDs ι' (· < σ'.n) ds') (_ : idsPan ι' (· < σ'.n) pan'),
      DInv V (listed.setIfInBounds it.i true) rest (it.i :: seen) σ' (s :: old) T' ds' pan' σ' al ι' w' (putV M o.dst (conc ι' v)) := by
    intro T' ds' pan' σ' ι' w' v o ho htr hT' hrep hext hk hid hpend hal hfit hds hpan
    have hin : ∀ e, e ∈ al → lst (listed.setIfInBounds it.i true) e.1 = true → lst listed e.1 = true := fun e he h => by
      obtain ⟨x, hx, hxe⟩ := (htr.n_le.1 e he).2
      rw [hset, Bool.or_eq_true] at h
      rcases h with h | h
      · exact h
      · rw [beq_iff_eq] at h; exact (hne x hx (hxe.trans h)).elim
    exact { tr := htr, chk := hchk,
            acts := by
              have := I.acts
              simp only [List.filter_cons, ha, if_true, List.map_cons] at this
              exact drop_cons_tail this,
            sz := by simpa using I.sz, cl := I.cl.set hm I.sz hr,
            seenL := fun j hj => by
              rw [hset]
              rcases List.mem_cons.1 hj with rfl | hj
              · simp
              · rw [I.seenL j hj]; rfl,
            cov := fun i hi => by
              rcases I.cov i hi with h | ⟨x, hx, rfl⟩
              · exact .inl (List.mem_cons_of_mem _ h)
              · rcases List.mem_cons.1 hx with rfl | hx
                · exact .inl List.mem_cons_self
                · exact .inr ⟨x, hx, rfl⟩,
            un := fun x hx hxa => by
              rw [hset, I.un x (List.mem_cons_of_mem _ hx) hxa, Bool.false_or]
              simpa using hne x hx,
            rep := hrep, ext := hext, msz := by rw [← I.msz]; unfold putV; split <;> simp,
            val := fun t v' hv' hno => by
              by_cases hd : o.dst = some t
              · have htl : t < V.Te.length := (List.getElem?_eq_some_iff.1 hv').1
                have h1 := htr.T_eq.2 t ((hnd.2.1 _ ho).2 t hd)
                have hlen : T.length = V.Te.length := I.tr.T_eq.1
                rw [hT', hd, put_get_eq (by rw [hlen]; exact htl), hv'] at h1
                cases h1
                refine ⟨?_, hid⟩
                rw [hd]; simp only [putV]
                rw [Array.getElem?_setIfInBounds_self_of_lt (by rw [I.msz]; exact htl)]
              · have h1 := I.val t v' hv' fun x hx hxl hxd => by
                  rcases List.mem_cons.1 hx with rfl | hx
                  · rw [dstAt_eq ho] at hxd; exact hd hxd
                  · refine hno x hx ?_ hxd
                    rw [hset, hxl]; simpa using hne x hx
                refine ⟨?_, ids_mono hk v' h1.2⟩
                have hM : (putV M o.dst (conc ι' v))[t]? = M[t]? := by
                  unfold putV
                  split
                  · rename_i d hd'
                    exact Array.getElem?_setIfInBounds_ne fun e => hd (by rw [hd', e])
                  · rfl
                rw [hM, h1.1, conc_agree (fun b hb => (hk b hb).2) v' h1.2],
            pend := fun e he h => hpend e he (hin e he h),
            sep := fun e e' he he' h h' hne' => by
              rw [hal e he, hal e' he']
              exact I.sep e e' he he' (hin e he h) (hin e' he' h') hne',
            fit := hfit, ds := hds, pan := hpan }
  have htr := I.tr
  cases htr with
  | @skip _ _ _ _ _ _ _ _ o ho hw next =>
    rw [ha] at next
    have L := hlook ho
    have hlive : ∀ b, Live σ al listed b → Live σ al (listed.setIfInBounds it.i true) b := by
      rintro b (h | ⟨e, he, hl, h⟩)
      · exact .inl h
      · exact .inr ⟨e, he, by rw [hset, hl]; rfl, h⟩
    refine ⟨_, _, _, _, ι, w, putV M o.dst (conc ι .undef), .one ?_, base ho next rfl I.rep I.ext (fun b hb => ⟨hlive b hb, rfl⟩) (ids_undef _ _) (fun e he hl => ?_) (fun _ _ => rfl) I.fit I.ds I.pan⟩
    · rw [conc_undef]
      exact step_unwanted (by simp [ho, L.wanted, hw]) ho
    · have p := I.pend e he hl
      exact ⟨p.rep.mono fun b hb => ⟨hlive b hb, rfl⟩, p.bnd, p.base, p.apart⟩
  | @act _ _ _ _ _ _ _ _ o v0 ds' pan' σ' ho hw _ hb hrun hn next =>
    have L := hlook ho
    have hid : ∀ x, x ∈ o.op.operands → ids ι (· < σ.n) (evalO V.D T x) := fun x hx => ids_sub (fun b hb => hb.2) (ids_restrict _ (L.ids x hx) (hb x hx))
    obtain ⟨ι1, σ1, w1, h2, R1, E1⟩ := runOne_ok K.F K.call K.round K.kind K.isRound I.rep ho (by rw [L.wanted, hw]) L.ev hid I.ds I.pan I.fit hrun (rest := order) (k := k) (X := V.X) (b := V.b) (ops := V.ops)
    generalize hg : OpEnd.go (put T o.dst v0) ds' pan' σ' = r at h2
    cases h2 with
    | panic steps hv => cases hg
    | @go _ _ _ v _ _ steps hv hds hpan hfit =>
      simp only [OpEnd.go.injEq] at hg
      obtain ⟨hput, rfl, rfl, rfl⟩ := hg
      have hge : ∀ e, e ∈ al → σ'.n ≤ e.2.1 := fun e he => (next.n_le.1 e he).1
      let ι2 : Nat → Loc := fun b => if b < σ'.n then ι1 b else ι b
      have h12 : ∀ b, b < σ'.n → ι2 b = ι1 b := fun b hb => by simp [ι2, hb]
      have h21 : ∀ b, b < σ'.n → b < σ'.n ∧ ι2 b = ι1 b := fun b hb => ⟨hb, h12 b hb⟩
      have hal : ∀ e, e ∈ al → ι2 e.2.1 = ι e.2.1 := fun e he => by
        have := hge e he
        simp only [ι2]; rw [if_neg (by omega)]
      have hk : ∀ b, Live σ al listed b → Live σ' al (listed.setIfInBounds it.i true) b ∧ ι2 b = ι b := by
        rintro b (h | ⟨e, he, hl, rfl⟩)
        · have hb' : b < σ'.n := Nat.lt_of_lt_of_le h hn
          exact ⟨.inl hb', (h12 b hb').trans (E1.agree b h)⟩
        · exact ⟨.inr ⟨e, he, by rw [hset, hl]; rfl, rfl⟩, hal e he⟩
      have E2 := (I.ext.trans E1).iota h12
      refine ⟨_, _, _, _, ι2, w1, putV M o.dst (conc ι2 v), ?_, base ho next hput (R1.iota h12) E2 hk (ids_mono (fun b hb => ⟨.inl hb, h12 b hb⟩) v hv) (fun e he hl => ?_) hal hfit (idsDs_mono h21 hds) (idsPan_mono h21 _ hpan)⟩
      · unfold mch
        rw [concDs_agree h12 hds, V.X.agree h12 hpan, conc_agree h12 v hv]
        exact steps
      · have p := I.pend e he hl
        have hblk : (ι e.2.1).block < w.heap.size := p.rep.lt (bndO_ne p.bnd)
        refine ⟨?_, p.bnd, ?_, fun b hb hg => ?_⟩
        · rw [hal e he]
          exact (p.rep.mono hk).congr (E1.frame _ hblk fun b hb hmu => p.apart b hb (AO.isMut_ne hmu))
        · rw [hal e he]; exact p.base
        · rw [hal e he, h12 b hb]
          rcases E1.own b hb hg with h | ⟨b0, h1, h2, _, h3⟩
          · omega
          · rw [← h3]; exact p.apart b0 h1 h2
  | pure ho hw hna => rw [ha] at hna; cases hna
  | read ho hw hna => rw [ha] at hna; cases hna
  | alloc ho hw hna => rw [ha] at hna; cases hna

end
end Go.Dt
