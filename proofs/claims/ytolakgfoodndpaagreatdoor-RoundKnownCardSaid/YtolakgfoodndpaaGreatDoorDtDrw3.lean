/-
  A region that draws its order: the act, and the whole. No statement of this seat stands here.
-/
import Derived.Test.YtolakgfoodndpaaGreatDoorDtDrw2
namespace Go.Dt

section
variable {V : Env} {listed : Array Bool} {rest : List PlanItem} {seen : List Nat} {s : St} {old : List St} {T : List AV} {ds : List ADef} {pan : Pan} {σ : St} {al : List Alc}
  {ι : Nat → Loc} {w : World} {M : Array Value}

structure Env.OK (V : Env) : Prop where
  F : Fits V.D V.P
  call : CallOK V.D V.P V.call
  round : RoundOK V.D V.P V.round
  kind : V.b.kind = V.X.kind
  isRound : V.b.roundOf = none ↔ V.isRound = false
  marks : marksOk V.ops (befA V.ops) = true

theorem DInv.act {it : PlanItem} (I : DInv V listed (it :: rest) seen s old T ds pan σ al ι w M) (K : V.OK) (ha : it.act = true) (hr : it.i ∈ Region.ready .any V.ops listed)
    (order : List Nat) (k : List Item) :
    ∃ T' ds' pan' σ' ι' w' M', Steps V.P (mch V (it.i :: order) k ι ds pan w M) (mch V order k ι' ds' pan' w' M') ∧
      DInv V (listed.setIfInBounds it.i true) rest (it.i :: seen) σ' (s :: old) T' ds' pan' σ' al ι' w' M' := by
  have hm := K.marks
  have hlt := (ready_lst hr I.sz).1
  have hls : it.i < listed.size := by rw [I.sz]; exact hlt
  have hset := fun j => lst_set (listed := listed) (i := it.i) hls j
  obtain ⟨⟨o0, hh⟩, hchk⟩ := chk_head I.chk
  have hnd := chk_ssa I.chk
  have hne : ∀ x, x ∈ rest → x.i ≠ it.i := hnd.1
  have hlook : ∀ {o : Oper}, V.ops[it.i]? = some o → Looks V σ al listed ι M o T := fun ho =>
    I.looks hm List.mem_cons_self hr ho fun t ht => I.tr.T_eq.2 t ((hnd.2.1 _ ho).1 t ht)
  -- the plan goes on
  have base : ∀ {T' : List AV} {ds' : List ADef} {pan' : Pan} {σ' : St} {ι' : Nat → Loc} {w' : World} {v : AV} {o : Oper} (_ : V.ops[it.i]? = some o)
      (_ : Tr V.D V.call V.round V.isRound V.ops V.Te V.dsE V.panE V.σE rest (σ' :: s :: old) T' ds' pan' σ' al) (_ : T' = put T o.dst v)
      (_ : Rep V.D ι' σ' w') (_ : Ext V.ι0 V.σ0 V.w0 ι' σ' w') (_ : ∀ b, Live σ al listed b → Live σ' al (listed.setIfInBounds it.i true) b ∧ ι' b = ι b)
      (_ : ids ι' (Live σ' al (listed.setIfInBounds it.i true)) v)
      (_ : ∀ e, e ∈ al → lst listed e.1 = true → Pend σ' al (listed.setIfInBounds it.i true) ι' w' V.w0.heap.size e)
      (_ : ∀ e, e ∈ al → ι' e.2.1 = ι e.2.1) (_ : V.X.fits pan') (_ : idsDs ι' (· < σ'.n) ds') (_ : idsPan ι' (· < σ'.n) pan'),
      DInv V (listed.setIfInBounds it.i true) rest (it.i :: seen) σ' (s :: old) T' ds' pan' σ' al ι' w' (putV M o.dst (conc ι' v)) := by
    intro T' ds' pan' σ' ι' w' v o ho htr hT' hrep hext hk hid hpend hal hfit hds hpan
    have hin : ∀ e, e ∈ al → lst (listed.setIfInBounds it.i true) e.1 = true → lst listed e.1 = true := fun e he h => by
      obtain ⟨x, hx, hxe⟩ := (htr.n_le.1 e he).2
      rw [hset, Bool.or_eq_true] at h
      rcases h with h | h
      · exact h
      · rw [beq_iff_eq] at h; exact (hne x hx (hxe.trans h)).elim
    exact { tr := htr, chk := hchk,
            acts := by
              have := I.acts
              simp only [List.filter_cons, ha, if_true, List.map_cons] at this
              exact drop_cons_tail this,
            sz := by simpa using I.sz, cl := I.cl.set hm I.sz hr,
            seenL := fun j hj => by
              rw [hset]
              rcases List.mem_cons.1 hj with rfl | hj
              · simp
              · rw [I.seenL j hj]; rfl,
            cov := fun i hi => by
              rcases I.cov i hi with h | ⟨x, hx, rfl⟩
              · exact .inl (List.mem_cons_of_mem _ h)
              · rcases List.mem_cons.1 hx with rfl | hx
                · exact .inl List.mem_cons_self
                · exact .inr ⟨x, hx, rfl⟩,
            un := fun x hx hxa => by
              rw [hset, I.un x (List.mem_cons_of_mem _ hx) hxa, Bool.false_or]
              simpa using hne x hx,
            rep := hrep, ext := hext, msz := by rw [← I.msz]; unfold putV; split <;> simp,
            val := fun t v' hv' hno => by
              by_cases hd : o.dst = some t
              · have htl : t < V.Te.length := (List.getElem?_eq_some_iff.1 hv').1
                have h1 := htr.T_eq.2 t ((hnd.2.1 _ ho).2 t hd)
                have hlen : T.length = V.Te.length := I.tr.T_eq.1
                rw [hT', hd, put_get_eq (by rw [hlen]; exact htl), hv'] at h1
                cases h1
                refine ⟨?_, hid⟩
                rw [hd]; simp only [putV]
                rw [Array.getElem?_setIfInBounds_self_of_lt (by rw [I.msz]; exact htl)]
              · have h1 := I.val t v' hv' fun x hx hxl hxd => by
                  rcases List.mem_cons.1 hx with rfl | hx
                  · rw [dstAt_eq ho] at hxd; exact hd hxd
                  · refine hno x hx ?_ hxd
                    rw [hset, hxl]; simpa using hne x hx
                refine ⟨?_, ids_mono hk v' h1.2⟩
                have hM : (putV M o.dst (conc ι' v))[t]? = M[t]? := by
                  unfold putV
                  split
                  · rename_i d hd'
                    exact Array.getElem?_setIfInBounds_ne fun e => hd (by rw [hd', e])
                  · rfl
                rw [hM, h1.1, conc_agree (fun b hb => (hk b hb).2) v' h1.2],
            pend := fun e he h => hpend e he (hin e he h),
            sep := fun e e' he he' h h' hne' => by
              rw [hal e he, hal e' he']
              exact I.sep e e' he he' (hin e he h) (hin e' he' h') hne',
            fit := hfit, ds := hds, pan := hpan }
  have htr := I.tr
  cases htr with
  | @skip _ _ _ _ _ _ _ _ o ho hw next =>
    rw [ha] at next
    have L := hlook ho
    have hlive : ∀ b, Live σ al listed b → Live σ al (listed.setIfInBounds it.i true) b := by
      rintro b (h | ⟨e, he, hl, h⟩)
      · exact .inl h
      · exact .inr ⟨e, he, by rw [hset, hl]; rfl, h⟩
    refine ⟨_, _, _, _, ι, w, putV M o.dst (conc ι .undef), .one ?_, base ho next rfl I.rep I.ext (fun b hb => ⟨hlive b hb, rfl⟩) (ids_undef _ _) (fun e he hl => ?_) (fun _ _ => rfl) I.fit I.ds I.pan⟩
    · rw [conc_undef]
      exact step_unwanted (by simp [ho, L.wanted, hw]) ho
    · have p := I.pend e he hl
      exact ⟨p.rep.mono fun b hb => ⟨hlive b hb, rfl⟩, p.bnd, p.base, p.apart⟩
  | @act _ _ _ _ _ _ _ _ o v0 ds' pan' σ' ho hw _ hb hrun hn next =>
    have L := hlook ho
    have hid : ∀ x, x ∈ o.op.operands → ids ι (· < σ.n) (evalO V.D T x) := fun x hx => ids_sub (fun b hb => hb.2) (ids_restrict _ (L.ids x hx) (hb x hx))
    obtain ⟨ι1, σ1, w1, h2, R1, E1⟩ := runOne_ok K.F K.call K.round K.kind K.isRound I.rep ho (by rw [L.wanted, hw]) L.ev hid I.ds I.pan I.fit hrun (rest := order) (k := k) (X := V.X) (b := V.b) (ops := V.ops)
    generalize hg : OpEnd.go (put T o.dst v0) ds' pan' σ' = r at h2
    cases h2 with
    | panic steps hv => cases hg
    | @go _ _ _ v _ _ steps hv hds hpan hfit =>
      simp only [OpEnd.go.injEq] at hg
      obtain ⟨hput, rfl, rfl, rfl⟩ := hg
      have hge : ∀ e, e ∈ al → σ'.n ≤ e.2.1 := fun e he => (next.n_le.1 e he).1
      let ι2 : Nat → Loc := fun b => if b < σ'.n then ι1 b else ι b
      have h12 : ∀ b, b < σ'.n → ι2 b = ι1 b := fun b hb => by simp [ι2, hb]
      have h21 : ∀ b, b < σ'.n → b < σ'.n ∧ ι2 b = ι1 b := fun b hb => ⟨hb, h12 b hb⟩
      have hal : ∀ e, e ∈ al → ι2 e.2.1 = ι e.2.1 := fun e he => by
        have := hge e he
        simp only [ι2]; rw [if_neg (by omega)]
      have hk : ∀ b, Live σ al listed b → Live σ' al (listed.setIfInBounds it.i true) b ∧ ι2 b = ι b := by
        rintro b (h | ⟨e, he, hl, rfl⟩)
        · have hb' : b < σ'.n := Nat.lt_of_lt_of_le h hn
          exact ⟨.inl hb', (h12 b hb').trans (E1.agree b h)⟩
        · exact ⟨.inr ⟨e, he, by rw [hset, hl]; rfl, rfl⟩, hal e he⟩
      have E2 := (I.ext.trans E1).iota h12
      refine ⟨_, _, _, _, ι2, w1, putV M o.dst (conc ι2 v), ?_, base ho next hput (R1.iota h12) E2 hk (ids_mono (fun b hb => ⟨.inl hb, h12 b hb⟩) v hv) (fun e he hl => ?_) hal hfit (idsDs_mono h21 hds) (idsPan_mono h21 _ hpan)⟩
      · unfold mch
        rw [concDs_agree h12 hds, V.X.agree h12 hpan, conc_agree h12 v hv]
        exact steps
      · have p := I.pend e he hl
        have hblk : (ι e.2.1).block < w.heap.size := p.rep.lt (bndO_ne p.bnd)
        refine ⟨?_, p.bnd, ?_, fun b hb hg => ?_⟩
        · rw [hal e he]
          exact (p.rep.mono hk).congr (E1.frame _ hblk fun b hb hmu => p.apart b hb (AO.isMut_ne hmu))
        · rw [hal e he]; exact p.base
        · rw [hal e he, h12 b hb]
          rcases E1.own b hb hg with h | ⟨b0, h1, h2, _, h3⟩
          · omega
          · rw [← h3]; exact p.apart b0 h1 h2
  | pure ho hw hna => rw [ha] at hna; cases hna
  | read ho hw hna => rw [ha] at hna; cases hna
  | alloc ho hw hna => rw [ha] at hna; cases hna

end
end Go.Dt
