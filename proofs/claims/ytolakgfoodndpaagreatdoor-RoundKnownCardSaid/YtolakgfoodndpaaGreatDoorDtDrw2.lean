/-
  A region that draws its order: the steps. No statement of this seat stands here.
-/
import Derived.Test.YtolakgfoodndpaaGreatDoorDtDrw
namespace Go.Dt

section
variable {V : Env} {listed : Array Bool} {rest : List PlanItem} {seen : List Nat} {s : St} {old : List St} {T : List AV} {ds : List ADef} {pan : Pan} {σ : St} {al : List Alc}
  {ι : Nat → Loc} {w : World} {M : Array Value}

theorem Live.same {i : Nat} (hi : i < listed.size) (hno : ∀ e, e ∈ al → e.1 ≠ i) (b : Nat) : Live σ al (listed.setIfInBounds i true) b ↔ Live σ al listed b := by
  unfold Live
  constructor
  · rintro (h | ⟨e, he, hl, h⟩)
    · exact .inl h
    · rw [lst_set hi] at hl
      exact .inr ⟨e, he, by simpa [hno e he] using hl, h⟩
  · rintro (h | ⟨e, he, hl, h⟩)
    · exact .inl h
    · exact .inr ⟨e, he, by rw [lst_set hi, hl]; rfl, h⟩

/-- the machine in a region -/
def mch (V : Env) (order : List Nat) (k : List Item) (ι : Nat → Loc) (ds : List ADef) (pan : Pan) (w : World) (M : Array Value) : Machine :=
  lone (on V.b M (ds.map (concDef ι)) (.inRegion V.ops order :: k)) (V.X.cs ι pan) w

theorem mch_agree {order : List Nat} {k : List Item} {ι ι' : Nat → Loc} {n : Nat} (h : ∀ b, b < n → ι' b = ι b) (hd : idsDs ι (· < n) ds) (hp : idsPan ι (· < n) pan) :
    mch V order k ι' ds pan w M = mch V order k ι ds pan w M := by
  unfold mch
  rw [concDs_agree h hd, V.X.agree h hp]

theorem DInv.early (I : DInv V listed rest seen σ old T ds pan σ al ι w M) (F : Fits V.D V.P) (hm : marksOk V.ops (befA V.ops) = true) {it : PlanItem} (hit : it ∈ rest)
    (hr : it.i ∈ Region.ready .any V.ops listed) (hna : it.act = false) (hlo : it.lo ≤ old.length) (order : List Nat) (k : List Item) :
    ∃ ι' w' M', Steps V.P (mch V (it.i :: order) k ι ds pan w M) (mch V order k ι' ds pan w' M') ∧ DInv V (listed.setIfInBounds it.i true) rest seen σ old T ds pan σ al ι' w' M' := by
  obtain ⟨o, T', ho, hT, v, hv, hc⟩ := (I.tr.fact (chk_ssa I.chk) ⟨[], rfl⟩ it hit hna).out
  have hlt := (ready_lst hr I.sz).1
  have hls : it.i < listed.size := by rw [I.sz]; exact hlt
  have L := I.looks hm hit hr ho hT
  obtain ⟨o', seen', rest', hh⟩ := chk_mem I.chk it hit
  have hoo : o' = o := by have := hh.ho; rw [ho] at this; cases this; rfl
  subst hoo
  -- nothing new in memory
  have plain : ∀ (hno : ∀ e, e ∈ al → e.1 ≠ it.i), ids ι (Live σ al listed) v → DInv V (listed.setIfInBounds it.i true) rest seen σ old T ds pan σ al ι w (putV M o'.dst (conc ι v)) := by
    intro hno hid
    have hsame := Live.same (σ := σ) hls hno
    have hl : ∀ e, e ∈ al → lst (listed.setIfInBounds it.i true) e.1 = true → lst listed e.1 = true := fun e he h => by
      rw [lst_set hls] at h; simpa [hno e he] using h
    refine I.inert hm hit hr hna ho hv (fun b hb => ⟨(hsame b).2 hb, rfl⟩) I.rep I.ext (ids_sub (fun b hb => (hsame b).2 hb) hid) (fun e he h => ?_) fun e e' he he' h h' hne => I.sep e e' he he' (hl e he h) (hl e' he' h') hne
    have p := I.pend e he (hl e he h)
    exact ⟨p.rep.mono fun b hb => ⟨(hsame b).2 hb, rfl⟩, p.bnd, p.base, p.apart⟩
  have nd : V.b.roundOf = none ∨ ∀ c, o'.op ≠ .defer c ∨ wantedA V.ops o' T' = false := by
    right
    intro c
    rcases hc with ⟨h1, _⟩ | ⟨h1, h2, _⟩ | ⟨h1, h2, _⟩ | ⟨n, ob, h1, h2, _⟩
    · exact .inr h1
    · left; intro e; rw [e] at h2; simp [pureOp] at h2
    · left; intro e; have := sameAt_ok (h2 hlo); rw [e] at this; simp [readOp] at this
    · left; intro e; rw [e] at h2; simp [allocOp] at h2
  have nd' : wantedA V.ops o' T' = true → V.b.roundOf = none ∨ ∀ c, o'.op ≠ .defer c := fun hw => by
    rcases nd with h | h
    · exact .inl h
    · right; intro c
      rcases h c with h | h
      · exact h
      · rw [hw] at h; cases h
  rcases hc with ⟨h1, h2, h3⟩ | ⟨h1, h2, h3⟩ | ⟨h1, h2, h3⟩ | ⟨n, ob, h1, h2, h3, h4, h5⟩
  · subst h2
    refine ⟨ι, w, _, .one ?_, plain h3 (ids_undef _ _)⟩
    rw [conc_undef]
    exact step_unwanted (by simp [ho, L.wanted, h1]) ho
  · obtain ⟨hrun, hids⟩ := pureOp_run F w h2 L.ids
    refine ⟨ι, w, _, .one ?_, plain h3 hids⟩
    exact step_value ho (by rw [L.wanted, h1]) (nd' h1) (by rw [L.ev]; exact hrun)
  · obtain ⟨hrun, hids⟩ := readOp_run F I.rep (sameAt_ok (h2 hlo))
    refine ⟨ι, w, _, .one ?_, plain h3 (ids_sub (fun b hb => .inl hb) hids)⟩
    exact step_value ho (by rw [L.wanted, h1]) (nd' h1) (by rw [L.ev]; exact hrun)
  · -- a new block
    have hn := I.tr.n_le
    have hnn : σ.n ≤ n := (hn.1 _ h4).1
    have hdis : ∀ e, e ∈ al → e.1 ≠ it.i → e.2.1 ≠ n := by
      intro e he hne heq
      have hp := hn.2
      have := List.pairwise_iff_getElem.1 hp
      obtain ⟨x, hx, hxe⟩ := List.getElem_of_mem he
      obtain ⟨y, hy, hye⟩ := List.getElem_of_mem h4
      rcases Nat.lt_trichotomy x y with hxy | hxy | hxy
      · have := this x y hx hy hxy; rw [hxe, hye] at this; simp only at this; omega
      · subst hxy; rw [hxe] at hye; rw [hye] at hne; exact hne rfl
      · have := this y x hy hx hxy; rw [hxe, hye] at this; simp only at this; omega
    have hun := (ready_lst hr I.sz).2
    have hnl : ¬ Live σ al listed n := by
      rintro (h | ⟨e, he, hl, h⟩)
      · omega
      · by_cases hei : e.1 = it.i
        · rw [hei, hun] at hl; cases hl
        · exact hdis e he hei h
    obtain ⟨obj, Lc, g1, g2, g3, g4⟩ := (allocOp_run F w hnl h2 L.ids).out
    have hlive : ∀ b, (Live σ al listed b ∨ b = n) → Live σ al (listed.setIfInBounds it.i true) b := by
      rintro b (h | rfl)
      · rcases h with h | ⟨e, he, hl, h⟩
        · exact .inl h
        · exact .inr ⟨e, he, by rw [lst_set hls, hl]; rfl, h⟩
      · exact .inr ⟨_, h4, by rw [lst_set hls]; simp, rfl⟩
    have hk : ∀ b, Live σ al listed b → Live σ al (listed.setIfInBounds it.i true) b ∧ upd ι n Lc b = ι b := fun b hb => ⟨hlive b (.inl hb), upd_old fun e => hnl (e ▸ hb)⟩
    have hagree : ∀ b, b < σ.n → upd ι n Lc b = ι b := fun b hb => upd_old (by omega)
    have R' := I.rep.aside obj hagree
    have E' := I.ext.aside obj hagree
    have hsz : V.w0.heap.size ≤ w.heap.size := I.ext.size
    refine ⟨upd ι n Lc, w.alloc obj, putV M o'.dst (conc (upd ι n Lc) v), ?_, ?_⟩
    · rw [mch_agree hagree I.ds I.pan]
      exact .one (step_value ho (by rw [L.wanted, h1]) (nd' h1) (by rw [L.ev]; exact g1))
    · have hlst : ∀ e, e ∈ al → lst (listed.setIfInBounds it.i true) e.1 = true → e = (it.i, n, ob) ∨ (lst listed e.1 = true ∧ e.2.1 ≠ n) := by
        intro e he h
        by_cases hei : e.1 = it.i
        · exact .inl (h5 e he hei)
        · right
          rw [lst_set hls] at h
          exact ⟨by simpa [hei] using h, hdis e he hei⟩
      have hblk : ∀ e, e ∈ al → lst listed e.1 = true → (ι e.2.1).block < w.heap.size := fun e he hl => by
        have p := I.pend e he hl
        exact p.rep.lt (bndO_ne p.bnd)
      refine I.inert hm hit hr hna ho hv hk R' E' (ids_sub hlive g4) (fun e he h => ?_) fun e e' he he' h h' hne => ?_
      · rcases hlst e he h with rfl | ⟨hl, hne⟩
        · refine ⟨?_, h3, ?_, fun b hb hg => ?_⟩
          · simp only [upd_new]
            exact g3.mono fun b hb => ⟨hlive b hb, rfl⟩
          · simp only [upd_new, g2]; exact hsz
          · simp only [upd_new, g2]
            rw [hagree b hb]
            have := (I.rep.obj b hb).lt hg
            omega
        · have p := I.pend e he hl
          refine ⟨?_, p.bnd, ?_, fun b hb hg => ?_⟩
          · rw [upd_old hne]
            exact (p.rep.mono hk).congr (heap_alloc_old w obj (hblk e he hl))
          · rw [upd_old hne]; exact p.base
          · rw [upd_old hne, hagree b hb]; exact p.apart b hb hg
      · rcases hlst e he h with rfl | ⟨hl, hn1⟩
        · rcases hlst e' he' h' with rfl | ⟨hl', hn2⟩
          · exact (hne rfl).elim
          · simp only [upd_new, g2]
            rw [upd_old hn2]
            have := hblk e' he' hl'
            omega
        · rcases hlst e' he' h' with rfl | ⟨hl', hn2⟩
          · simp only [upd_new, g2]
            rw [upd_old hn1]
            have := hblk e he hl
            omega
          · rw [upd_old hn1, upd_old hn2]
            exact I.sep e e' he he' hl hl' hne

theorem drop_cons_tail {α : Type} {l : List α} {n : Nat} {x : α} {r : List α} (h : x :: r = l.drop n) : r = l.drop (n + 1) := by
  rw [← List.tail_drop, ← h, List.tail_cons]

/-- the plan moves over an operation that is no act and has been listed -/
theorem DInv.adv {it : PlanItem} (I : DInv V listed (it :: rest) seen s old T ds pan σ al ι w M) (hna : it.act = false) (hl : lst listed it.i = true) :
    ∃ T' σ' al', DInv V listed rest (it.i :: seen) s old T' ds pan σ' al' ι w M := by
  have base : ∀ {T' : List AV} {σ' : St} {al' : List Alc} (_ : Tr V.D V.call V.round V.isRound V.ops V.Te V.dsE V.panE V.σE rest (s :: old) T' ds pan σ' al')
      (_ : Rep V.D ι σ' w) (_ : Ext V.ι0 V.σ0 V.w0 ι σ' w) (_ : ∀ b, Live σ al listed b → Live σ' al' listed b) (_ : σ.n ≤ σ'.n)
      (_ : ∀ e, e ∈ al' → lst listed e.1 = true → Pend σ' al' listed ι w V.w0.heap.size e)
      (_ : ∀ e, e ∈ al' → e ∈ al), DInv V listed rest (it.i :: seen) s old T' ds pan σ' al' ι w M := by
    intro T' σ' al' htr hrep hext hlive hn hpend hsub
    have hkn : ∀ b, b < σ.n → b < σ'.n ∧ ι b = ι b := fun b hb => ⟨Nat.lt_of_lt_of_le hb hn, rfl⟩
    exact { tr := htr, chk := (chk_head I.chk).2, acts := by have := I.acts; simpa [List.filter_cons, hna] using this, sz := I.sz, cl := I.cl,
            seenL := fun j hj => by
              rcases List.mem_cons.1 hj with rfl | hj
              · exact hl
              · exact I.seenL j hj,
            cov := fun i hi => by
              rcases I.cov i hi with h | ⟨x, hx, rfl⟩
              · exact .inl (List.mem_cons_of_mem _ h)
              · rcases List.mem_cons.1 hx with rfl | hx
                · exact .inl List.mem_cons_self
                · exact .inr ⟨x, hx, rfl⟩,
            un := fun x hx ha => I.un x (List.mem_cons_of_mem _ hx) ha, rep := hrep, ext := hext, msz := I.msz,
            val := fun t v hv hno => by
              have := I.val t v hv fun x hx hxl => by
                rcases List.mem_cons.1 hx with rfl | hx
                · rw [hl] at hxl; cases hxl
                · exact hno x hx hxl
              exact ⟨this.1, ids_sub hlive this.2⟩,
            pend := hpend, sep := fun e e' he he' => I.sep e e' (hsub e he) (hsub e' he'), fit := I.fit, ds := idsDs_mono hkn I.ds, pan := idsPan_mono hkn pan I.pan }
  have htr := I.tr
  cases htr with
  | skip ho hw next =>
    rw [hna] at next
    exact ⟨_, _, _, base next I.rep I.ext (fun b hb => hb) (Nat.le_refl _) I.pend fun e he => he⟩
  | act ho hw ha => rw [hna] at ha; cases ha
  | pure ho hw ha hr next => exact ⟨_, _, _, base next I.rep I.ext (fun b hb => hb) (Nat.le_refl _) I.pend fun e he => he⟩
  | read ho hw ha hlo hs next => exact ⟨_, _, _, base next I.rep I.ext (fun b hb => hb) (Nat.le_refl _) I.pend fun e he => he⟩
  | @alloc _ _ _ _ _ _ _ al' o v ob ho hw ha hr hb next =>
    have p := I.pend _ List.mem_cons_self hl
    have hORep : ORep ι (· < σ.n + 1) ob (ι σ.n) w := (p.rep.restrict hb).mono fun b hb => ⟨hb.2, rfl⟩
    have hlive : ∀ b, Live σ ((it.i, σ.n, ob) :: al') listed b → Live (σ.push ob) al' listed b := by
      rintro b (h | ⟨e, he, hle, h⟩)
      · exact .inl (Nat.lt_succ_of_lt h)
      · rcases List.mem_cons.1 he with rfl | he
        · left; simp only at h; rw [← h]; exact Nat.lt_succ_self _
        · exact .inr ⟨e, he, hle, h⟩
    refine ⟨_, _, _, base next (I.rep.adopt hORep p.apart) (I.ext.adopt p.base) hlive (Nat.le_succ _) (fun e he hle => ?_) fun e he => List.mem_cons_of_mem _ he⟩
    have q := I.pend e (List.mem_cons_of_mem _ he) hle
    refine ⟨q.rep.mono fun b hb => ⟨hlive b hb, rfl⟩, q.bnd, q.base, fun b hb hg => ?_⟩
    simp only [St.push] at hb
    by_cases hbe : b = σ.n
    · subst hbe
      have hlt : σ.n < e.2.1 := (List.pairwise_cons.1 I.tr.n_le.2).1 e he
      exact I.sep (it.i, σ.n, ob) e List.mem_cons_self (List.mem_cons_of_mem _ he) hl hle (Nat.ne_of_lt hlt)
    · have hb1 : b < σ.n := by omega
      rw [getO_push_old hb1] at hg
      exact q.apart b hb1 hg

end
end Go.Dt
