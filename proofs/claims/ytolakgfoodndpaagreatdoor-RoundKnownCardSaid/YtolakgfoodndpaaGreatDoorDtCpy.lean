/-
  Copies of data between heaps of the deterministic reading. No statement of this seat stands here.
-/
import Derived.Test.YtolakgfoodndpaaGreatDoorDtReg2
namespace Go.Dt

theorem nodup_ok : ∀ {l : List Nat}, nodup l = true → l.Nodup
  | [], _ => List.nodup_nil
  | x :: l, h => by
    simp only [nodup, Bool.and_eq_true, Bool.not_eq_true', List.contains_eq_mem, decide_eq_false_iff_not] at h
    exact List.nodup_cons.2 ⟨h.1, nodup_ok h.2⟩

theorem getO_gone {σ : St} {b : Nat} (h : σ.getO b ≠ .gone) : b < σ.n := by
  unfold St.getO at h
  split at h
  · assumption
  · exact (h rfl).elim

theorem refsL_ne {src : St} {f : AV → List Nat} (hf : ∀ v s, s ∈ f v → src.getO s ≠ .gone) : ∀ l s, s ∈ refsL f l → src.getO s ≠ .gone
  | [], s, h => by simp [refsL] at h
  | x :: l, s, h => by
    simp only [refsL, List.mem_append] at h
    rcases h with h | h
    · exact hf _ _ h
    · exact refsL_ne hf l s h

theorem refs_ne (src : St) : ∀ n v s, s ∈ refsA src n v → src.getO s ≠ .gone := by
  intro n
  induction n with
  | zero => intro v s h; simp [refsA] at h
  | succ n ih =>
    intro v s h
    cases v with
    | slice b o len cap sz =>
      simp only [refsA] at h
      split at h
      · rename_i cs e ow sz' hb
        rcases List.mem_cons.1 h with h1 | h1
        · subst h1; rw [hb]; simp
        · exact refsL_ne ih _ _ h1
      · simp at h
    | iface t v => simp only [refsA] at h; exact ih _ _ h
    | agg l => simp only [refsA] at h; exact refsL_ne ih _ _ h
    | tuple l => simp only [refsA] at h; exact refsL_ne ih _ _ h
    | _ => simp [refsA] at h

section
variable {D : Tab} {ι ι' : Nat → Loc} {σ : St} {w : World}

/-- an object that lies in memory already is taken into the heap -/
theorem Rep.adopt' (R : Rep D ι σ w) {o : AO} {L : Loc} (ho : ORep (upd ι σ.n L) (· < σ.n + 1) o L w)
    (hs : ∀ b, b < σ.n → σ.getO b ≠ .gone → ((σ.getO b).isMut = true ∨ o.isMut = true) → (ι b).block ≠ L.block) :
    Rep D (upd ι σ.n L) (σ.push o) w where
  len := by simp [St.push, R.len]
  glob := Nat.le_succ_of_le R.glob
  gloc := fun g hg => by rw [upd_old (by have := R.glob; omega)]; exact R.gloc g hg
  obj := fun b hb => by
    simp only [St.push] at hb
    by_cases he : b = σ.n
    · subst he; rw [getO_push_new, upd_new]; exact ho
    · have hb1 : b < σ.n := by omega
      rw [getO_push_old hb1, upd_old he]
      exact (R.obj b hb1).mono kpush
  sep := fun b b' hb hb' hne hm hg => by
    simp only [St.push] at hb hb'
    by_cases he : b = σ.n
    · subst he
      have hb1 : b' < σ.n := by omega
      rw [getO_push_old hb1] at hg
      rw [getO_push_new] at hm
      rw [upd_new, upd_old (by omega)]
      exact (hs b' hb1 hg (.inr hm)).symm
    · have hb1 : b < σ.n := by omega
      rw [getO_push_old hb1] at hm
      rw [upd_old he]
      by_cases he' : b' = σ.n
      · subst he'; rw [upd_new]; exact hs b hb1 (AO.isMut_ne hm) (.inl hm)
      · have hb2 : b' < σ.n := by omega
        rw [getO_push_old hb2] at hg
        rw [upd_old he']
        exact R.sep b b' hb1 hb2 hne hm hg
  mem := R.mem
end

/-- may the blocks be taken into the heap? -/
def Room (own : Bool) (ι : Nat → Loc) (dst : St) (ιs : Nat → Loc) (refs : List Nat) : Prop :=
  match own with
  | true => ∀ s, s ∈ refs → ∀ b, b < dst.n → dst.getO b ≠ .gone → (ι b).block ≠ (ιs s).block
  | false => ∀ b, b < dst.n → (dst.getO b).isMut = false

structure Copied (D : Tab) (own : Bool) (ιs : Nat → Loc) (src : St) (w : World) (refs : List Nat) (ι : Nat → Loc) (dst : St) (ι' : Nat → Loc) (dst' : St) : Prop where
  rep : Rep D ι' dst' w
  n : dst.n ≤ dst'.n
  agree : ∀ b, b < dst.n → ι' b = ι b
  old : ∀ b, b < dst.n → dst'.getO b = dst.getO b
  M : dst'.M = dst.M
  new : ∀ b, dst.n ≤ b → b < dst'.n → (dst'.getO b).isMut = own ∧ ∃ s, s ∈ refs ∧ (ι' b).block = (ιs s).block
  own : own = true → ∀ s, s ∈ refs → (src.getO s).isMut = true

theorem Copied.k {D : Tab} {own : Bool} {ιs ι ι' : Nat → Loc} {src dst dst' : St} {w : World} {refs : List Nat} (h : Copied D own ιs src w refs ι dst ι' dst') :
    ∀ b, b < dst.n → b < dst'.n ∧ ι' b = ι b := fun b hb => ⟨Nat.lt_of_lt_of_le hb h.n, h.agree b hb⟩

theorem takeN_ok' {cs l : List AV} {o n : Nat} (h : takeN cs o n = .ok l) : l = (cs.drop o).take n ∧ o + n ≤ cs.length ∨ (l = (cs.drop o).take n ∧ n = 0) := by
  unfold takeN at h
  split at h
  · rename_i hl
    simp at h
    subst h
    simp only [List.length_take, List.length_drop] at hl
    by_cases h0 : n = 0
    · exact .inr ⟨rfl, h0⟩
    · exact .inl ⟨rfl, by omega⟩
  · simp at h

/-- what a copy of a value gives -/
def CopyOK (D : Tab) (own : Bool) (ιs : Nat → Loc) (src : St) (w : World) (f : AV → St → R (AV × St)) (rf : AV → List Nat) : Prop :=
  ∀ v dst v' dst', f v dst = .ok (v', dst') → ∀ ι, Rep D ι dst w → ids ιs (· < src.n) v → (own = true → (rf v).Nodup) → Room own ι dst ιs (rf v) →
    ∃ ι', Copied D own ιs src w (rf v) ι dst ι' dst' ∧ conc ι' v' = conc ιs v ∧ ids ι' (· < dst'.n) v'

theorem Copied.refl {D : Tab} {own : Bool} {ιs ι : Nat → Loc} {src dst : St} {w : World} (R : Rep D ι dst w) : Copied D own ιs src w [] ι dst ι dst :=
  ⟨R, Nat.le_refl _, fun _ _ => rfl, fun _ _ => rfl, rfl, fun b h1 h2 => by omega, by simp⟩

theorem copyL_ok {D : Tab} {own : Bool} {ιs : Nat → Loc} {src : St} {w : World} (Rs : Rep D ιs src w) {f : AV → St → R (AV × St)} {rf : AV → List Nat} (hne : ∀ v s, s ∈ rf v → src.getO s ≠ .gone)
    (hf : CopyOK D own ιs src w f rf) : ∀ l dst l' dst', copyL f l dst = .ok (l', dst') → ∀ ι, Rep D ι dst w → idsL ιs (· < src.n) l → (own = true → (refsL rf l).Nodup) → Room own ι dst ιs (refsL rf l) →
      ∃ ι', Copied D own ιs src w (refsL rf l) ι dst ι' dst' ∧ concL ι' l' = concL ιs l ∧ idsL ι' (· < dst'.n) l' := by
  intro l
  induction l with
  | nil =>
    intro dst l' dst' h ι R hid hnd hroom
    simp [copyL] at h
    obtain ⟨rfl, rfl⟩ := h
    exact ⟨ι, Copied.refl R, rfl, trivial⟩
  | cons x l ihl =>
    intro dst l' dst' h ι R hid hnd hroom
    simp only [copyL, bind_ok, pure_ok, Prod.mk.injEq] at h
    obtain ⟨⟨x1, dst1⟩, h1, ⟨l1, dst2⟩, h2, rfl, rfl⟩ := h
    simp only [refsL] at hnd hroom ⊢
    have hroomx : Room own ι dst ιs (rf x) := by
      cases own with
      | false => exact hroom
      | true => exact fun s hs => hroom s (List.mem_append_left _ hs)
    obtain ⟨ι1, hc1, hx1, hx2⟩ := hf _ _ _ _ h1 ι R hid.1 (fun e => (List.nodup_append.1 (hnd e)).1) hroomx
    have hrooml : Room own ι1 dst1 ιs (refsL rf l) := by
      cases own with
      | false =>
        intro b hb
        by_cases hb1 : b < dst.n
        · rw [hc1.old b hb1]; exact hroom b hb1
        · exact (hc1.new b (Nat.le_of_not_lt hb1) hb).1
      | true =>
        intro s hs b hb hg
        by_cases hb1 : b < dst.n
        · rw [hc1.agree b hb1]
          rw [hc1.old b hb1] at hg
          exact hroom s (List.mem_append_right _ hs) b hb1 hg
        · obtain ⟨_, s', hs', he⟩ := hc1.new b (Nat.le_of_not_lt hb1) hb
          rw [he]
          have hm := hc1.own rfl s' hs'
          have hne' : s' ≠ s := (List.nodup_append.1 (hnd rfl)).2.2 s' hs' s hs
          have hsg := refsL_ne hne l s hs
          exact Rs.sep s' s (getO_gone (AO.isMut_ne hm)) (getO_gone hsg) hne' hm hsg
    obtain ⟨ι2, hc2, hl1, hl2⟩ := ihl _ _ _ h2 ι1 hc1.rep hid.2 (fun e => (List.nodup_append.1 (hnd e)).2.1) hrooml
    refine ⟨ι2, ⟨hc2.rep, Nat.le_trans hc1.n hc2.n, fun b hb => ?_, fun b hb => ?_, hc2.M.trans hc1.M, fun b hb1 hb2 => ?_, fun e s hs => ?_⟩, ?_, ?_⟩
    · rw [hc2.agree b (Nat.lt_of_lt_of_le hb hc1.n)]; exact hc1.agree b hb
    · rw [hc2.old b (Nat.lt_of_lt_of_le hb hc1.n)]; exact hc1.old b hb
    · by_cases hb3 : b < dst1.n
      · obtain ⟨h3, s, h4, h5⟩ := hc1.new b hb1 hb3
        rw [hc2.old b hb3, hc2.agree b hb3]
        exact ⟨h3, s, List.mem_append_left _ h4, h5⟩
      · obtain ⟨h3, s, h4, h5⟩ := hc2.new b (Nat.le_of_not_lt hb3) hb2
        exact ⟨h3, s, List.mem_append_right _ h4, h5⟩
    · rcases List.mem_append.1 hs with h3 | h3
      · exact hc1.own e s h3
      · exact hc2.own e s h3
    · simp only [concL, hl1]
      rw [← hx1, conc_agree hc2.agree x1 hx2]
    · exact ⟨ids_mono hc2.k x1 hx2, hl2⟩

theorem copy_ok {D : Tab} (own : Bool) {ιs : Nat → Loc} {src : St} {w : World} (Rs : Rep D ιs src w) : ∀ n, CopyOK D own ιs src w (copyA own src n) (refsA src n) := by
  intro n
  induction n with
  | zero => intro v dst v' dst' h; simp [copyA] at h
  | succ n ih =>
    intro v dst v' dst' h ι R hid hnd hroom
    have refl : ∀ {ι : Nat → Loc} {dst : St}, Rep D ι dst w → Copied D own ιs src w [] ι dst ι dst := fun R => Copied.refl R
    have ihL := copyL_ok Rs (refs_ne src n) ih
    cases v with
    | base v =>
      simp [copyA] at h
      obtain ⟨rfl, rfl⟩ := h
      exact ⟨ι, refl R, by simp [conc], trivial⟩
    | iface t v =>
      simp only [copyA, bind_ok, pure_ok, Prod.mk.injEq] at h
      obtain ⟨⟨v1, dst1⟩, h, rfl, rfl⟩ := h
      obtain ⟨ι', hc, h1, h2⟩ := ih _ _ _ _ h ι R hid (by simpa [refsA] using hnd) (by simpa [refsA] using hroom)
      exact ⟨ι', by simpa [refsA] using hc, by simp [conc, h1], by simpa [ids] using h2⟩
    | agg l =>
      simp only [copyA, bind_ok, pure_ok, Prod.mk.injEq] at h
      obtain ⟨⟨v1, dst1⟩, h, rfl, rfl⟩ := h
      obtain ⟨ι', hc, h1, h2⟩ := ihL _ _ _ _ h ι R hid (by simpa [refsA] using hnd) (by simpa [refsA] using hroom)
      exact ⟨ι', by simpa [refsA] using hc, by simp [conc, h1], by simpa [ids] using h2⟩
    | tuple l =>
      simp only [copyA, bind_ok, pure_ok, Prod.mk.injEq] at h
      obtain ⟨⟨v1, dst1⟩, h, rfl, rfl⟩ := h
      obtain ⟨ι', hc, h1, h2⟩ := ihL _ _ _ _ h ι R hid (by simpa [refsA] using hnd) (by simpa [refsA] using hroom)
      exact ⟨ι', by simpa [refsA] using hc, by simp [conc, h1], by simpa [ids] using h2⟩
    | func f a c =>
      cases f with
      | func g =>
        cases a with
        | nil =>
          cases c with
          | nil =>
            simp [copyA] at h
            obtain ⟨rfl, rfl⟩ := h
            exact ⟨ι, by simpa [refsA] using refl R, by simp [conc, concL], by simp [ids, idsL]⟩
          | cons => simp [copyA] at h
        | cons => simp [copyA] at h
      | _ => simp [copyA] at h
    | slice b o len cap sz =>
      simp only [copyA] at h
      split at h
      · rename_i cs elem ow sz' hb
        split at h
        · rename_i hchk
          simp only [bind_ok, pure_ok, Prod.mk.injEq] at h
          obtain ⟨l, htk, ⟨l', dst1⟩, hcp, rfl, rfl⟩ := h
          have hbn : b < src.n := getO_gone (by rw [hb]; simp)
          have hO := Rs.obj b hbn
          rw [hb] at hO
          obtain ⟨hcs, hsz, arr, fz, hheap, hcell, hown⟩ := hO
          have hl : l = (cs.drop o).take (len * sz) := by
            rcases takeN_ok' htk with h1 | h1
            · exact h1.1
            · exact h1.1
          have hrefs : refsA src (n + 1) (.slice b o len cap sz) = b :: refsL (refsA src n) l := by
            simp only [refsA, hb, hl]
          rw [hrefs] at hnd hroom
          simp only [Bool.and_eq_true, Bool.or_eq_true, Bool.not_eq_true'] at hchk
          have hidl : idsL ιs (· < src.n) l := by rw [hl]; exact idsL_take (idsL_drop hcs _) _
          have hroom1 : Room own ι dst ιs (refsL (refsA src n) l) := by
            cases own with
            | false => exact hroom
            | true => exact fun s hs => hroom s (List.mem_cons_of_mem _ hs)
          obtain ⟨ι1, hc, hconc, hids⟩ := ihL _ _ _ _ hcp ι R hidl (fun e => (List.nodup_cons.1 (hnd e)).2) hroom1
          -- the new block
          have key : ∃ cz, conc ιs (.slice b o len cap sz) = .slice (some ((ιs b).at o)) len cz ∧ 0 < sz ∧ len ≤ cz ∧ (own = true → (ιs b).shift + o + cz * sz ≤ arr.size) := by
            cases cap with
            | none =>
              obtain ⟨_, h1, h2, h3⟩ := hid
              refine ⟨(ιs b).capz - o / (ιs b).sz, by simp only [conc], h2, by rw [h1]; omega, fun e => ?_⟩
              have hmod : o % sz = 0 := by
                have := hchk.2
                rw [e] at this
                simpa [capChk] using this
              have how : ow = true := by
                rcases hchk.1 with h4 | h4
                · rw [e] at h4; cases h4
                · exact h4.1
              have hsz2 : sz' = sz := by omega
              obtain ⟨_, h5⟩ := hown how
              rw [h1]
              have h6 : o = sz * (o / sz) := by
                have := Nat.div_add_mod o sz
                omega
              have h7 : o / sz ≤ (ιs b).capz := by omega
              have h8 : ((ιs b).capz - o / sz) * sz + o = (ιs b).capz * sz := by
                conv => lhs; rhs; rw [h6]
                rw [Nat.sub_mul, Nat.mul_comm sz]
                have : o / sz * sz ≤ (ιs b).capz * sz := Nat.mul_le_mul_right _ h7
                omega
              rw [hsz2] at h5
              omega
            | some c =>
              have h4 := hchk.2
              simp only [capChk, Bool.and_eq_true, Bool.or_eq_true, Bool.not_eq_true', Nat.blt_eq, Nat.ble_eq] at h4
              refine ⟨c, by simp only [conc], h4.1.1, h4.1.2, fun e => ?_⟩
              have h5 : o + c * sz ≤ cs.length := by
                rcases h4.2 with h6 | h6
                · rw [e] at h6; cases h6
                · exact h6
              by_cases h0 : cs.length = 0
              · have how : ow = true := by
                  rcases hchk.1 with h4 | h4
                  · rw [e] at h4; cases h4
                  · exact h4.1
                have := (hown how).2
                have h7 : o = 0 ∧ c * sz = 0 := by omega
                rw [h7.1, h7.2]
                have : (ιs b).shift ≤ arr.size := by
                  have : (ιs b).shift + (ιs b).capz * sz' ≤ arr.size := this
                  omega
                omega
              · have h7 : (cs.length - 1) < cs.length := by omega
                have h8 := hcell (cs.length - 1) _ (List.getElem?_eq_getElem h7)
                have h9 := (Array.getElem?_eq_some_iff.1 h8).1
                omega
          obtain ⟨cz, hcz, hsz0, hlen, hfit⟩ := key
          have hll : l.length = len * sz := by
            unfold takeN at htk
            split at htk
            · rename_i h1
              simp at htk
              rw [← htk]; exact h1
            · simp at htk
          have hl'len : l'.length = l.length := by
            have := congrArg List.length hconc
            simpa using this
          refine ⟨upd ι1 dst1.n ⟨(ιs b).block, (ιs b).shift + o, cz, sz⟩, ?_, ?_, ?_⟩
          · have hrep : Rep D (upd ι1 dst1.n ⟨(ιs b).block, (ιs b).shift + o, cz, sz⟩) (dst1.push (.cells l' elem own sz)) w := by
              refine hc.rep.adopt' ⟨idsL_mono kpush _ hids, rfl, arr, fz, hheap, fun i v hv => ?_, fun e => ?_⟩ fun b' hb' hg hm => ?_
              · have hilt := (List.getElem?_eq_some_iff.1 hv).1
                have hvid := idsL_get hids hv
                rw [conc_agree (A := (· < dst1.n)) (fun x hx => upd_old (Nat.ne_of_lt hx)) v hvid]
                have h1 : (concL ιs l)[i]? = some (conc ι1 v) := by rw [← hconc, concL_getElem?, hv]; rfl
                rw [concL_getElem?, hl, List.getElem?_take, if_pos (by omega), List.getElem?_drop] at h1
                cases hx : cs[o + i]? with
                | none => rw [hx] at h1; cases h1
                | some x =>
                  rw [hx] at h1
                  simp only [Option.map_some, Option.some.injEq] at h1
                  have := hcell _ _ hx
                  show arr[(ιs b).shift + o + i]? = _
                  rw [← h1, ← this]
                  congr 1
                  omega
              · subst e
                have how : ow = true := by
                  rcases hchk.1 with h4 | h4
                  · cases h4
                  · exact h4.1
                exact ⟨(hown how).1, hfit rfl⟩
              · cases own with
                | false =>
                  rcases hm with hm | hm
                  · exfalso
                    by_cases hb1 : b' < dst.n
                    · rw [hc.old b' hb1, hroom b' hb1] at hm; cases hm
                    · rw [(hc.new b' (by omega) hb').1] at hm; cases hm
                  · simp [AO.isMut] at hm
                | true =>
                  by_cases hb1 : b' < dst.n
                  · rw [hc.agree b' hb1]
                    rw [hc.old b' hb1] at hg
                    exact hroom b (by simp) b' hb1 hg
                  · obtain ⟨_, s, hs, hs'⟩ := hc.new b' (by omega) hb'
                    rw [hs']
                    have hne : s ≠ b := by
                      rintro rfl
                      exact (List.nodup_cons.1 (hnd rfl)).1 hs
                    have hsm := hc.own rfl s hs
                    exact Rs.sep s b (getO_gone (AO.isMut_ne hsm)) hbn hne hsm (by rw [hb]; simp)
            refine ⟨hrep, Nat.le_succ_of_le hc.n, fun x hx => ?_, fun x hx => ?_, hc.M, fun x hx1 hx2 => ?_, fun e s hs => ?_⟩
            · have := hc.n
              rw [upd_old (by omega)]; exact hc.agree x hx
            · rw [getO_push_old (Nat.lt_of_lt_of_le hx hc.n)]; exact hc.old x hx
            · simp only [St.push] at hx2
              rw [hrefs]
              by_cases he : x = dst1.n
              · subst he
                rw [getO_push_new, upd_new]
                exact ⟨rfl, b, by simp, rfl⟩
              · have hx3 : x < dst1.n := by omega
                rw [getO_push_old hx3, upd_old he]
                obtain ⟨h1, s, h2, h3⟩ := hc.new x hx1 hx3
                exact ⟨h1, s, List.mem_cons_of_mem _ h2, h3⟩
            · rw [hrefs] at hs
              rcases List.mem_cons.1 hs with h1 | h1
              · subst h1
                rw [hb]
                rcases hchk.1 with h4 | h4
                · rw [e] at h4; cases h4
                · exact h4.1
              · exact hc.own e s h1
          · rw [hcz]
            simp only [conc, upd_new, Loc.at, Nat.add_zero, Nat.zero_div, Nat.sub_zero]
          · refine ⟨Nat.lt_succ_self _, by rw [upd_new], hsz0, ?_⟩
            rw [upd_new]
            simpa using hlen
        · simp at h
      · simp at h
    | _ => simp [copyA] at h

end Go.Dt
