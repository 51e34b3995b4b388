/-
  Regions, whole. No statement of this seat stands here.
-/
import Derived.Test.YtkpkmjanikkpoaaGreatDoorP05
namespace Go.Dt

def Lin (ops : Array Oper) : Array Bool → List Nat → Prop
  | listed, [] => Region.ready .any ops listed = []
  | listed, i :: order => i ∈ Region.ready .any ops listed ∧ Lin ops (listed.setIfInBounds i true) order

theorem countP_lt {p q : Nat → Bool} {i : Nat} (hp : p i = true) (hq : q i = false) : ∀ {l : List Nat}, (∀ x, x ∈ l → q x = true → p x = true) → i ∈ l → l.countP q < l.countP p := by
  intro l
  induction l with
  | nil => intro _ hi; simp at hi
  | cons x l ih =>
    intro h hi
    have hle : l.countP q ≤ l.countP p := List.countP_mono_left fun y hy => h y (List.mem_cons_of_mem _ hy)
    simp only [List.countP_cons]
    by_cases hx : i = x
    · subst hx; simp [hp, hq]; omega
    · have hi' : i ∈ l := (List.mem_cons.1 hi).resolve_left hx
      have := ih (fun y hy => h y (List.mem_cons_of_mem _ hy)) hi'
      have h2 := h x List.mem_cons_self
      cases hqx : q x
      · simp; omega
      · simp [h2 hqx]; omega

theorem go_lin {ops : Array Oper} : ∀ (fuel t : Nat) (listed : Array Bool), listed.size = ops.size → (List.range ops.size).countP (fun i => !lst listed i) ≤ fuel →
    Lin ops listed (Region.linearise.go .any ops fuel t listed []) := by
  intro fuel
  induction fuel with
  | zero =>
    intro t listed hsz hc
    show Region.ready .any ops listed = []
    cases hr : Region.ready .any ops listed with
    | nil => rfl
    | cons x xs =>
      have hx : x ∈ Region.ready .any ops listed := by rw [hr]; exact List.mem_cons_self
      have := ready_lst hx hsz
      have h0 := List.countP_eq_zero.1 (Nat.le_zero.1 hc) x (List.mem_range.2 this.1)
      rw [this.2] at h0
      simp at h0
  | succ fuel ih =>
    intro t listed hsz hc
    simp only [Region.linearise.go]
    change Lin ops listed (match (Region.ready .any ops listed)[t % (Region.ready .any ops listed).length]? with
      | some i => Region.linearise.go .any ops fuel (t / (Region.ready .any ops listed).length) (listed.setIfInBounds i true) [i]
      | none => [].reverse)
    cases hi : (Region.ready .any ops listed)[t % (Region.ready .any ops listed).length]? with
    | none =>
      show Region.ready .any ops listed = []
      cases hr : Region.ready .any ops listed with
      | nil => rfl
      | cons x xs =>
        rw [hr] at hi
        have hlt : t % (x :: xs).length < (x :: xs).length := Nat.mod_lt _ (by simp)
        simp at hi
        simp at hlt
        omega
    | some i =>
      simp only []
      rw [linearise_go_acc, List.reverse_singleton, List.singleton_append]
      have hm := List.mem_of_getElem? hi
      have hri := ready_lst hm hsz
      refine ⟨hm, ih _ _ (by simpa using hsz) ?_⟩
      have hs := fun j => lst_set (listed := listed) (i := i) (by rw [hsz]; exact hri.1) j
      have := countP_lt (p := fun j => !lst listed j) (q := fun j => !lst (listed.setIfInBounds i true) j) (i := i) (by simp [hri.2]) (by simp [hs]) (l := List.range ops.size)
        (fun x _ hx => by simp only [hs] at hx; simp at hx ⊢; exact hx.1) (List.mem_range.2 hri.1)
      omega

section
variable {V : Env} {listed : Array Bool} {rest : List PlanItem} {seen : List Nat} {s : St} {old : List St} {T : List AV} {ds : List ADef} {pan : Pan} {σ : St} {al : List Alc}
  {ι : Nat → Loc} {w : World} {M : Array Value}

theorem DInv.lo (I : DInv V listed rest seen s old T ds pan σ al ι w M) (hm : marksOk V.ops (befA V.ops) = true) {it : PlanItem} (hit : it ∈ rest)
    (hr : it.i ∈ Region.ready .any V.ops listed) : it.lo ≤ old.length := by
  obtain ⟨o, seen', rest', hh⟩ := chk_mem I.chk it hit
  rcases hh.lo with h | ⟨a, ha, hb⟩
  · omega
  · rcases Nat.lt_or_ge old.length it.lo with h | h
    · have hmem : a ∈ V.as.drop old.length := by
        refine List.mem_of_getElem? (i := it.lo - 1 - old.length) ?_
        rw [List.getElem?_drop]
        have : old.length + (it.lo - 1 - old.length) = it.lo - 1 := by omega
        rw [this]; exact ha
      rw [← I.acts, List.mem_map] at hmem
      obtain ⟨x, hx, rfl⟩ := hmem
      rw [List.mem_filter] at hx
      obtain ⟨o', _, _, hh'⟩ := chk_mem I.chk x hx.1
      have hxl : x.i < V.ops.size := (Array.getElem?_eq_some_iff.1 hh'.ho).1
      have := ready_before hm I.cl I.sz hr hxl hb
      rw [I.un x hx.1 hx.2] at this
      cases this
    · exact h

theorem DInv.adv_to (hm : marksOk V.ops (befA V.ops) = true) {i : Nat} (hr : i ∈ Region.ready .any V.ops listed) : ∀ (rest : List PlanItem) {seen : List Nat} {T : List AV} {σ : St} {al : List Alc},
    DInv V listed rest seen s old T ds pan σ al ι w M → firstAct rest = some i →
    ∃ it post seen' T' σ' al', it.i = i ∧ it.act = true ∧ DInv V listed (it :: post) seen' s old T' ds pan σ' al' ι w M := by
  intro rest
  induction rest with
  | nil => intro seen T σ al _ h; simp [firstAct] at h
  | cons x rest ih =>
    intro seen T σ al I h
    cases hx : x.act with
    | true =>
      simp only [firstAct, hx, if_true, Option.some.injEq] at h
      exact ⟨x, rest, seen, T, σ, al, h, hx, I⟩
    | false =>
      have h' : firstAct rest = some i := by simpa [firstAct, hx] using h
      obtain ⟨⟨o, hh⟩, _⟩ := chk_head I.chk
      have hxl : x.i < V.ops.size := (Array.getElem?_eq_some_iff.1 hh.ho).1
      obtain ⟨T', σ', al', I'⟩ := I.adv hx (ready_before hm I.cl I.sz hr hxl (hh.first i h'))
      exact ih I' h'

theorem DInv.adv_all (hr : Region.ready .any V.ops listed = []) : ∀ (rest : List PlanItem) {seen : List Nat} {T : List AV} {σ : St} {al : List Alc},
    DInv V listed rest seen s old T ds pan σ al ι w M → ∃ seen' T' σ' al', DInv V listed [] seen' s old T' ds pan σ' al' ι w M := by
  intro rest
  induction rest with
  | nil => intro seen T σ al I; exact ⟨seen, T, σ, al, I⟩
  | cons x rest ih =>
    intro seen T σ al I
    obtain ⟨⟨o, hh⟩, _⟩ := chk_head I.chk
    have hxl : x.i < V.ops.size := (Array.getElem?_eq_some_iff.1 hh.ho).1
    have hl : lst listed x.i = true := by
      cases hl : lst listed x.i with
      | true => rfl
      | false =>
        have : x.i ∈ Region.ready .any V.ops listed := by
          refine mem_ready.2 ⟨?_, o, hh.ho, fun e he hb => I.seenL _ (hh.top e he hb)⟩
          have hlt : x.i < listed.size := by rw [I.sz]; exact hxl
          unfold lst at hl
          simp [hlt] at hl ⊢
          exact hl
        rw [hr] at this; simp at this
    have hx : x.act = false := by
      cases hx : x.act with
      | false => rfl
      | true => rw [I.un x List.mem_cons_self hx] at hl; cases hl
    obtain ⟨T', σ', al', I'⟩ := I.adv hx hl
    exact ih I'

theorem DInv.fin (I : DInv V listed [] seen s old T ds pan σ al ι w M) (k : List Item) :
    mch V [] k ι ds pan w M = mach V.X V.b ι V.Te V.dsE V.panE (.inRegion V.ops [] :: k) w ∧ Rep V.D ι V.σE w ∧ Ext V.ι0 V.σ0 V.w0 ι V.σE w ∧ IdsF ι (· < V.σE.n) V.X V.Te V.dsE V.panE := by
  have htr := I.tr
  generalize hs : s :: old = snaps at htr
  generalize hp : ([] : List PlanItem) = p at htr
  cases htr with
  | nil =>
    have hval : ∀ t v, V.Te[t]? = some v → M[t]? = some (conc ι v) ∧ ids ι (· < V.σE.n) v := fun t v hv => by
      have := I.val t v hv (by simp)
      exact ⟨this.1, ids_sub (fun b hb => by rcases hb with h | ⟨e, he, _⟩; exact h; simp at he) this.2⟩
    refine ⟨?_, I.rep, I.ext, I.fit, idsL_iff.2 fun v hv => ?_, I.ds, I.pan⟩
    · unfold mch mach
      have : M = (concL ι V.Te).toArray := by
        apply Array.ext_getElem?
        intro t
        simp only [List.getElem?_toArray, concL_getElem?]
        cases hv : V.Te[t]? with
        | some v => rw [(hval t v hv).1]; rfl
        | none =>
          rw [List.getElem?_eq_none_iff] at hv
          exact Array.getElem?_eq_none (by rw [I.msz]; exact hv)
      rw [this]
    · obtain ⟨t, ht, rfl⟩ := List.getElem_of_mem hv
      exact (hval t _ (List.getElem?_eq_getElem ht)).2
  | skip => cases hp
  | act => cases hp
  | pure => cases hp
  | read => cases hp
  | alloc => cases hp

theorem DInv.all (I : DInv V listed [] seen s old T ds pan σ al ι w M) : ∀ i, i < V.m → lst listed i = true := fun i hi => by
  rcases I.cov i hi with h | ⟨it, hit, _⟩
  · exact I.seenL i h
  · simp at hit

theorem DInv.adv_full (hall : ∀ i, i < V.m → lst listed i = true) : ∀ (rest : List PlanItem) {seen : List Nat} {T : List AV} {σ : St} {al : List Alc},
    DInv V listed rest seen s old T ds pan σ al ι w M → ∃ seen' T' σ' al', DInv V listed [] seen' s old T' ds pan σ' al' ι w M := by
  intro rest
  induction rest with
  | nil => intro seen T σ al I; exact ⟨seen, T, σ, al, I⟩
  | cons x rest ih =>
    intro seen T σ al I
    obtain ⟨⟨o, hh⟩, _⟩ := chk_head I.chk
    have hl : lst listed x.i = true := hall x.i hh.lt
    have hx : x.act = false := by
      cases hx : x.act with
      | false => rfl
      | true => rw [I.un x List.mem_cons_self hx] at hl; cases hl
    obtain ⟨T', σ', al', I'⟩ := I.adv hx hl
    exact ih I'

theorem DInv.fin' (I : DInv V listed [] seen s old T ds pan σ al ι w M) (order : List Nat) (k : List Item) :
    mch V order k ι ds pan w M = mach V.X V.b ι V.Te V.dsE V.panE (.inRegion V.ops order :: k) w := by
  have h := (I.fin k).1
  simp only [mch, mach] at h ⊢
  have h2 : M = (concL ι V.Te).toArray ∧ ds.map (concDef ι) = V.dsE.map (concDef ι) ∧ V.X.cs ι pan = V.X.cs ι V.panE := by
    have h3 := congrArg (fun m : Machine => m.gs) h
    simp only [lone] at h3
    have h4 := congrArg (fun g : Array Goroutine => g[0]?) h3
    simp only [List.getElem?_toArray, List.getElem?_cons_zero, Option.some.injEq, Goroutine.mk.injEq, on, Frame.mk.injEq] at h4
    exact ⟨h4.1.2.1, h4.1.2.2.2.1, h4.2.1⟩
  rw [h2.1, h2.2.1, h2.2.2]

theorem draw_main (K : V.OK) (_ : V.m ≤ V.ops.size) (hahead : ∀ i j, i < V.m → V.m ≤ j → j < V.ops.size → isBefore (befA V.ops) i j = true) (k : List Item) : ∀ (order : List Nat) (listed : Array Bool), Lin V.ops listed order →
    (∀ i, V.m ≤ i → lst listed i = false) →
    ∀ {rest : List PlanItem} {seen : List Nat} {old : List St} {T : List AV} {ds : List ADef} {pan : Pan} {σ : St} {al : List Alc} {ι : Nat → Loc} {w : World} {M : Array Value},
    DInv V listed rest seen σ old T ds pan σ al ι w M →
    ∃ order2 listed2 ι' w', Steps V.P (mch V order k ι ds pan w M) (mach V.X V.b ι' V.Te V.dsE V.panE (.inRegion V.ops order2 :: k) w') ∧
      Lin V.ops listed2 order2 ∧ listed2.size = V.ops.size ∧ (∀ i, i < V.m → lst listed2 i = true) ∧ (∀ i, V.m ≤ i → lst listed2 i = false) ∧
      Rep V.D ι' V.σE w' ∧ Ext V.ι0 V.σ0 V.w0 ι' V.σE w' ∧ IdsF ι' (· < V.σE.n) V.X V.Te V.dsE V.panE := by
  intro order
  induction order with
  | nil =>
    intro listed hlin hun rest seen old T ds pan σ al ι w M I
    obtain ⟨seen', T', σ', al', I'⟩ := DInv.adv_all hlin rest I
    exact ⟨[], listed, ι, w, I'.fin' [] k ▸ Steps.refl _ _, hlin, I'.sz, I'.all, hun, (I'.fin k).2⟩
  | cons i order ih =>
    intro listed hlin hun rest seen old T ds pan σ al ι w M I
    obtain ⟨hr, hlin'⟩ := hlin
    have hri := ready_lst hr I.sz
    by_cases hlt : V.m ≤ i
    · have hall : ∀ j, j < V.m → lst listed j = true := fun j hj => ready_before K.marks I.cl I.sz hr (by omega) (hahead j i hj hlt hri.1)
      obtain ⟨seen', T', σ', al', I'⟩ := DInv.adv_full hall rest I
      exact ⟨i :: order, listed, ι, w, I'.fin' (i :: order) k ▸ Steps.refl _ _, ⟨hr, hlin'⟩, I'.sz, hall, hun, (I'.fin k).2⟩
    · have hun' : ∀ j, V.m ≤ j → lst (listed.setIfInBounds i true) j = false := fun j hj => by
        rw [lst_set (by rw [I.sz]; exact hri.1), hun j hj]
        have : ¬ j = i := by omega
        simpa using this
      have hit : ∃ it, it ∈ rest ∧ it.i = i := (I.cov i (by omega)).resolve_left fun h => by rw [I.seenL i h] at hri; simp at hri
      obtain ⟨it, hit, rfl⟩ := hit
      cases ha : it.act with
      | false =>
        obtain ⟨ι', w', M', h1, I'⟩ := I.early K.F K.marks hit hr ha (I.lo K.marks hit hr) order k
        obtain ⟨o2, l2, ι2, w2, h2, h3⟩ := ih _ hlin' hun' I'
        exact ⟨o2, l2, ι2, w2, Steps.trans h1 h2, h3⟩
      | true =>
        have hf : firstAct rest = some it.i := by
          rcases chk_chain ha I.chk hit with h | ⟨p, hp, hpa, hb⟩
          · exact h
          · obtain ⟨o, _, _, hh⟩ := chk_mem I.chk p hp
            have := ready_before K.marks I.cl I.sz hr (Array.getElem?_eq_some_iff.1 hh.ho).1 hb
            rw [I.un p hp hpa] at this; cases this
        obtain ⟨x, post, seen', T', σ', al', hxi, hxa, I'⟩ := DInv.adv_to K.marks hr rest I hf
        rw [← hxi] at hr hlin' hun' ⊢
        obtain ⟨T2, ds2, pan2, σ2, ι2, w2, M2, h1, I2⟩ := I'.act K hxa hr order k
        obtain ⟨o2, l2, ι3, w3, h3, h4⟩ := ih _ hlin' hun' I2
        exact ⟨o2, l2, ι3, w3, Steps.trans h1 h3, h4⟩

end
end Go.Dt
namespace Go.Dt

section
variable {D : Tab} {P : Program} {eqT : List AV → List AV → Bool} {eqH : List AO → List AO → Bool}

theorem insE_ok (hT : ∀ a b, eqT a b = true → a = b) (hH : ∀ a b, eqH a b = true → a = b) {s : ES} : ∀ {l l' : List ES}, insE eqT eqH s l = .ok l' → (∀ x, x ∈ l → x ∈ l') ∧ s ∈ l'
  | [], l', h => by
    simp [insE] at h
    subst h
    exact ⟨by simp, by simp⟩
  | x :: l, l', h => by
    unfold insE at h
    cases h1 : Nat.beq x.mask s.mask with
    | true =>
      rw [h1] at h
      simp only [cond_true] at h
      cases h2 : eqT x.T s.T with
      | false => rw [h2] at h; cases h
      | true =>
        rw [h2] at h
        simp only [cond_true] at h
        cases h3 : Nat.beq x.n s.n with
        | false => rw [h3] at h; cases h
        | true =>
          rw [h3] at h
          simp only [cond_true] at h
          cases h4 : eqH x.l s.l with
          | false => rw [h4] at h; cases h
          | true =>
            rw [h4] at h
            simp only [cond_true, Except.ok.injEq] at h
            subst h
            have e : s = x := by
              have e1 := Nat.eq_of_beq_eq_true h1
              have e2 := hT _ _ h2
              have e3 := Nat.eq_of_beq_eq_true h3
              have e4 := hH _ _ h4
              cases s; cases x
              simp only at e1 e2 e3 e4
              subst e1; subst e2; subst e3; subst e4
              rfl
            exact ⟨fun y hy => hy, by rw [e]; simp⟩
    | false =>
      rw [h1] at h
      simp only [cond_false] at h
      split at h
      · rename_i l1 hl1
        simp at h
        subst h
        obtain ⟨k1, k2⟩ := insE_ok hT hH hl1
        exact ⟨fun y hy => by
          rcases List.mem_cons.1 hy with rfl | hy
          · simp
          · exact List.mem_cons_of_mem _ (k1 y hy), List.mem_cons_of_mem _ k2⟩
      · cases h

variable {ops : Array Oper} {m : Nat} {M : MTree}

/-- one step of one state is in the next level -/
def Next1 (D : Tab) (ops : Array Oper) (_ : Nat) (M : MTree) (s : ES) (i : Nat) (fr : List ES) : Prop :=
  ∃ o T σ, ops[i]? = some o ∧ stepE D ops o s.T { n := s.n, l := s.l, M := M } = .ok (T, σ) ∧ ({ mask := Nat.lor s.mask (Nat.shiftLeft 1 i), T := T, n := σ.n, l := σ.l } : ES) ∈ fr

theorem expE_ok (hT : ∀ a b, eqT a b = true → a = b) (hH : ∀ a b, eqH a b = true → a = b) {s : ES} : ∀ {is : List Nat} {acc fr : List ES}, expE D eqT eqH ops m M s is acc = .ok fr →
    (∀ x, x ∈ acc → x ∈ fr) ∧ ∀ i, i ∈ is → canE ops m s.mask i = true → Next1 D ops m M s i fr
  | [], acc, fr, h => by
    simp [expE] at h
    subst h
    exact ⟨fun _ hx => hx, by simp⟩
  | i :: is, acc, fr, h => by
    unfold expE at h
    cases hc : canE ops m s.mask i with
    | false =>
      rw [hc] at h
      simp only [cond_false] at h
      obtain ⟨k1, k2⟩ := expE_ok hT hH h
      refine ⟨k1, fun j hj hcj => ?_⟩
      rcases List.mem_cons.1 hj with rfl | hj
      · rw [hc] at hcj; cases hcj
      · exact k2 j hj hcj
    | true =>
      rw [hc] at h
      simp only [cond_true] at h
      split at h
      · cases h
      · rename_i o ho
        split at h
        · rename_i r hr
          split at h
          · rename_i acc1 hacc
            obtain ⟨k3, k4⟩ := insE_ok hT hH hacc
            obtain ⟨k1, k2⟩ := expE_ok hT hH h
            refine ⟨fun x hx => k1 x (k3 x hx), fun j hj hcj => ?_⟩
            rcases List.mem_cons.1 hj with rfl | hj
            · exact ⟨o, r.1, r.2, ho, hr, k1 _ k4⟩
            · exact k2 j hj hcj
          · cases h
        · cases h

theorem levE_ok (hT : ∀ a b, eqT a b = true → a = b) (hH : ∀ a b, eqH a b = true → a = b) {is : List Nat} : ∀ {fr acc fr' : List ES}, levE D eqT eqH ops m M is fr acc = .ok fr' →
    (∀ x, x ∈ acc → x ∈ fr') ∧ ∀ s, s ∈ fr → anyE ops m s.mask is = true ∧ ∀ i, i ∈ is → canE ops m s.mask i = true → Next1 D ops m M s i fr'
  | [], acc, fr', h => by
    simp [levE] at h
    subst h
    exact ⟨fun _ hx => hx, by simp⟩
  | s :: fr, acc, fr', h => by
    unfold levE at h
    cases ha : anyE ops m s.mask is with
    | false => rw [ha] at h; cases h
    | true =>
      rw [ha] at h
      simp only [cond_true] at h
      split at h
      · rename_i acc1 hacc
        obtain ⟨k1, k2⟩ := expE_ok hT hH hacc
        obtain ⟨k3, k4⟩ := levE_ok hT hH h
        refine ⟨fun x hx => k3 x (k1 x hx), fun t ht => ?_⟩
        rcases List.mem_cons.1 ht with rfl | ht
        · refine ⟨ha, fun i hi hc => ?_⟩
          obtain ⟨o, T, σ, h1, h2, h3⟩ := k2 i hi hc
          exact ⟨o, T, σ, h1, h2, k3 _ h3⟩
        · exact k4 t ht
      · cases h

theorem anyE_ok {mask : Nat} : ∀ {is : List Nat}, anyE ops m mask is = true → ∃ i, i ∈ is ∧ canE ops m mask i = true
  | i :: is, h => by
    unfold anyE at h
    cases hc : canE ops m mask i with
    | true => exact ⟨i, by simp, hc⟩
    | false =>
      rw [hc] at h
      obtain ⟨j, hj, hcj⟩ := anyE_ok h
      exact ⟨j, List.mem_cons_of_mem _ hj, hcj⟩

theorem fullE_ok {mask : Nat} : ∀ {is : List Nat}, fullE mask is = true → ∀ i, i ∈ is → mask.testBit i = true
  | j :: is, h, i, hi => by
    unfold fullE at h
    rw [bitOf_eq] at h
    cases hc : mask.testBit j with
    | false => rw [hc] at h; cases h
    | true =>
      rw [hc] at h
      rcases List.mem_cons.1 hi with rfl | hi
      · exact hc
      · exact fullE_ok h i hi

/-- what is listed, as a number -/
def Msk (m : Nat) (listed : Array Bool) (mask : Nat) : Prop := ∀ i, m ≤ i → mask.testBit i = lst listed i

theorem readyE_eq {listed : Array Bool} {mask : Nat} (hall : ∀ i, i < m → lst listed i = true) (hm : Msk m listed mask) :
    ∀ l : List Edge, readyE m mask l = true → ∀ e, e ∈ l → Region.binds .any e = true → lst listed e.on = true
  | e' :: l, h, e, he, hb => by
    unfold readyE at h
    rcases List.mem_cons.1 he with rfl | he
    · rw [hb] at h
      simp only [cond_true] at h
      rw [blt_dec] at h
      by_cases h1 : e.on < m
      · exact hall _ h1
      · simp only [h1, decide_false, cond_false] at h
        rw [bitOf_eq] at h
        cases h2 : mask.testBit e.on with
        | false => rw [h2] at h; cases h
        | true => rw [← hm e.on (Nat.le_of_not_lt h1), h2]
    · have h' : readyE m mask l = true := by
        cases hb' : Region.binds .any e' with
        | false => rw [hb'] at h; exact h
        | true =>
          rw [hb'] at h
          simp only [cond_true] at h
          cases h1 : Nat.blt e'.on m with
          | true => rw [h1] at h; exact h
          | false =>
            rw [h1] at h
            simp only [cond_false] at h
            cases h2 : bitOf mask e'.on with
            | true => rw [h2] at h; exact h
            | false => rw [h2] at h; cases h
      exact readyE_eq hall hm l h' e he hb

theorem readyE_of {listed : Array Bool} {mask : Nat} (hm : Msk m listed mask) :
    ∀ l : List Edge, (∀ e, e ∈ l → Region.binds .any e = true → lst listed e.on = true) → readyE m mask l = true
  | [], _ => rfl
  | e :: l, h => by
    unfold readyE
    have ih := readyE_of hm l fun e' he' => h e' (List.mem_cons_of_mem _ he')
    cases hb : Region.binds .any e with
    | false => exact ih
    | true =>
      simp only [cond_true]
      rw [blt_dec]
      by_cases h1 : e.on < m
      · simp only [h1, decide_true, cond_true]; exact ih
      · simp only [h1, decide_false, cond_false]
        have hl := h e (by simp) hb
        rw [bitOf_eq, hm e.on (Nat.le_of_not_lt h1), hl]
        exact ih

theorem stepE_one {call : CallT} {round : RoundT} {isRound : Bool} {o : Oper} {T T' : List AV} {σ σ' : St} {ds : List ADef} {pan : Pan} (hw : wantedA ops o T = true)
    (h : stepE D ops o T σ = .ok (T', σ')) : runOne D call round isRound o T ds pan σ = .ok (.go T' ds pan σ') := by
  unfold stepE at h
  rw [if_pos hw] at h
  split at h
  · rename_i hc
    simp only [bind_ok, pure_ok, Prod.mk.injEq] at h
    obtain ⟨v, hv, rfl, rfl⟩ := h
    simp [runOne, execOp, hc, hv, bind, Except.bind, pure, Except.pure]
  · rename_i hc
    simp only [bind_ok, pure_ok, Prod.mk.injEq] at h
    obtain ⟨v, hv, rfl, rfl⟩ := h
    simp [runOne, execOp, hc, hv, bind, Except.bind, pure, Except.pure]
  · rename_i hc
    split at h
    · rename_i t a x hop
      simp only [bind_ok, pure_ok, Prod.mk.injEq] at h
      obtain ⟨σ1, hv, rfl, rfl⟩ := h
      simp [runOne, execOp, hop, clsD, clsOf, actOp, hv, bind, Except.bind, pure, Except.pure]
    · simp at h
  · simp at h

theorem enum_ok (F : Fits D P) {call : CallT} {round : RoundT} (HC : CallOK D P call) (HR : RoundOK D P round) (hT : ∀ a b, eqT a b = true → a = b) (hH : ∀ a b, eqH a b = true → a = b)
    {isRound : Bool} {X : Ctx} {b : Frame} (hk : b.kind = X.kind) (hround : b.roundOf = none ↔ isRound = false) {k : List Item} {ds : List ADef} {pan : Pan} {is : List Nat} (his : ∀ i, i ∈ is ↔ m ≤ i ∧ i < ops.size) :
    ∀ (n : Nat) (fr : List ES) (se : ES), enumE D eqT eqH ops m M is n fr = .ok se → ∀ (order : List Nat) (listed : Array Bool), Lin ops listed order → listed.size = ops.size →
      (∀ i, i < m → lst listed i = true) → ∀ s, s ∈ fr → Msk m listed s.mask → ∀ {ι : Nat → Loc} {w : World}, Rep D ι { n := s.n, l := s.l, M := M } w → IdsF ι (· < s.n) X s.T ds pan →
      ∃ ι' w', Steps P (mach X b ι s.T ds pan (.inRegion ops order :: k) w) (mach X b ι' se.T ds pan (.inRegion ops [] :: k) w') ∧
        Rep D ι' { n := se.n, l := se.l, M := M } w' ∧ Ext ι { n := s.n, l := s.l, M := M } w ι' { n := se.n, l := se.l, M := M } w' ∧ IdsF ι' (· < se.n) X se.T ds pan := by
  intro n
  induction n with
  | zero =>
    intro fr se h order listed hlin hsz hall s hs hm ι w R I
    unfold enumE at h
    split at h
    · rename_i s0
      cases hf : fullE s0.mask is with
      | false => rw [hf] at h; cases h
      | true =>
        rw [hf] at h
        simp only [cond_true, Except.ok.injEq] at h
        subst h
        have hse : s = s0 := by simpa using hs
        subst hse
        cases order with
        | nil => exact ⟨ι, w, Steps.refl _ _, R, Ext.refl _ _ _, I⟩
        | cons i order =>
          exfalso
          have hri := ready_lst hlin.1 hsz
          by_cases hi : i < m
          · rw [hall i hi] at hri; simp at hri
          · have := fullE_ok hf i ((his i).2 ⟨Nat.le_of_not_lt hi, hri.1⟩)
            rw [hm i (Nat.le_of_not_lt hi), hri.2] at this
            cases this
    · cases h
  | succ n ih =>
    intro fr se h order listed hlin hsz hall s hs hm ι w R I
    unfold enumE at h
    split at h
    · rename_i fr' hlev
      obtain ⟨hany, hnext⟩ := (levE_ok hT hH hlev).2 s hs
      cases order with
      | nil =>
        exfalso
        obtain ⟨i, hi, hc⟩ := anyE_ok hany
        obtain ⟨hmi, hin⟩ := (his i).1 hi
        unfold canE at hc
        cases hb : bitOf s.mask i with
        | true => rw [hb] at hc; cases hc
        | false =>
          rw [hb] at hc
          simp only [cond_false] at hc
          split at hc
          · rename_i o ho
            have hli : lst listed i = false := by rw [← hm i hmi, ← bitOf_eq]; exact hb
            have : i ∈ Region.ready .any ops listed := by
              refine mem_ready.2 ⟨?_, o, ho, fun e he hbi => ?_⟩
              · have hlt : i < listed.size := by rw [hsz]; exact hin
                unfold lst at hli
                simp [hlt] at hli ⊢
                exact hli
              · exact readyE_eq hall hm _ hc e (by simpa using he) hbi
            rw [hlin] at this
            simp at this
          · cases hc
      | cons i order =>
        obtain ⟨hr, hlin'⟩ := hlin
        have hri := ready_lst hr hsz
        have hmi : m ≤ i := by
          rcases Nat.lt_or_ge i m with h1 | h1
          · rw [hall i h1] at hri; simp at hri
          · exact h1
        obtain ⟨_, o, ho, hedges⟩ := mem_ready.1 hr
        have hcan : canE ops m s.mask i = true := by
          unfold canE
          rw [bitOf_eq, hm i hmi, hri.2]
          simp only [cond_false, ho]
          exact readyE_of hm _ fun e he hb => hedges e (by simpa using he) hb
        obtain ⟨o', T', σ', ho', hst, hmem⟩ := hnext i ((his i).2 ⟨hmi, hri.1⟩) hcan
        rw [ho] at ho'
        cases ho'
        have hm' : Msk m (listed.setIfInBounds i true) (Nat.lor s.mask (Nat.shiftLeft 1 i)) := fun j hj1 => by
          have h1 : (Nat.lor s.mask (Nat.shiftLeft 1 i)).testBit j = (s.mask.testBit j || (Nat.shiftLeft 1 i).testBit j) := Nat.testBit_or _ _ _
          have h2 : (Nat.shiftLeft 1 i).testBit j = decide (i = j) := by
            have : Nat.shiftLeft 1 i = 2 ^ i := Nat.one_shiftLeft i
            rw [this, Nat.testBit_two_pow]
          rw [h1, h2, hm j hj1, lst_set (by rw [hsz]; exact hri.1)]
          congr 1
          by_cases e : i = j
          · subst e; simp
          · have : ¬ j = i := fun x => e x.symm
            simp [e, this]
        have hall' : ∀ j, j < m → lst (listed.setIfInBounds i true) j = true := fun j hj => by
          rw [lst_set (by rw [hsz]; exact hri.1), hall j hj]; rfl
        -- the machine's step
        have hstep : ∃ ι1 w1, Steps P (mach X b ι s.T ds pan (.inRegion ops (i :: order) :: k) w) (mach X b ι1 T' ds pan (.inRegion ops order :: k) w1) ∧
            Rep D ι1 σ' w1 ∧ Ext ι { n := s.n, l := s.l, M := M } w ι1 σ' w1 ∧ IdsF ι1 (· < σ'.n) X T' ds pan := by
          cases hw : wantedA ops o s.T with
          | true =>
            have h1 := stepE_one (D := D) (call := call) (round := round) (isRound := isRound) (ds := ds) (pan := pan) hw hst
            have hwc : Region.wanted o (yielded ops (concL ι s.T).toArray) = true := by rw [wanted_conc]; exact hw
            obtain ⟨ι1, σ1, w1, h2, R1, E1⟩ := runOne_ok F HC HR hk hround R ho hwc (rest := order) (k := k) (by rw [evT_eq R]) (fun x _ => evalO_ids R R.glob_lt I.T x) I.ds I.pan I.fit h1
            generalize hre : OpEnd.go T' ds pan σ' = re at h2
            cases h2 with
            | go steps hv hds hpan hfit =>
              cases hre
              rw [putV_agree E1 I.T] at steps
              exact ⟨ι1, w1, steps, R1, E1, ⟨hfit, put_ids (idsL_mono E1.k _ I.T) hv _, hds, hpan⟩⟩
            | panic => cases hre
          | false =>
            unfold stepE at hst
            rw [hw] at hst
            simp only [Bool.false_eq_true, if_false, Except.ok.injEq, Prod.mk.injEq] at hst
            obtain ⟨rfl, rfl⟩ := hst
            refine ⟨ι, w, ?_, R, Ext.refl _ _ _, ⟨I.fit, put_ids I.T (ids_undef _ _) _, I.ds, I.pan⟩⟩
            have h2 := step_unwanted (P := P) (b := b) (T := (concL ι s.T).toArray) (ds := ds.map (concDef ι)) (k := k) (cs := X.cs ι pan) (w := w) (ops := ops) (i := i) (rest := order) (o := o)
              (by rw [ho]; simp only [Option.map_some, Option.getD_some]; rw [wanted_conc]; exact hw) ho
            have h3 : putV (concL ι s.T).toArray o.dst undef = (concL ι (put s.T o.dst .undef)).toArray := by
              rw [← putV_conc, conc_undef]
            rw [h3] at h2
            exact .one h2
        obtain ⟨ι1, w1, hs1, R1, E1, I1⟩ := hstep
        have R1' : Rep D ι1 { n := σ'.n, l := σ'.l, M := M } w1 := ⟨R1.len, R1.glob, R1.gloc, R1.obj, R1.sep, R.mem⟩
        have E1' : Ext ι { n := s.n, l := s.l, M := M } w ι1 { n := σ'.n, l := σ'.l, M := M } w1 := ⟨E1.os, E1.tape, E1.output, E1.size, E1.n, E1.agree, E1.frame, E1.own⟩
        obtain ⟨ι2, w2, hs2, R2, E2, I2⟩ := ih fr' se h order _ hlin' (by simpa using hsz) hall' _ hmem hm' R1' I1
        exact ⟨ι2, w2, Steps.trans hs1 hs2, R2, E1'.trans E2, I2⟩
    · cases h

end
end Go.Dt
namespace Go.Dt

theorem beqO_ok' {a b : AO} (h : beqO a b = true) : a = b := by
  cases a <;> cases b <;> simp only [beqO, Bool.and_eq_true, beq_iff_eq, Bool.false_eq_true] at h
  · obtain ⟨⟨⟨h1, h2⟩, h3⟩, h4⟩ := h
    rw [beqL_ok _ _ h4, h1, h2, h3]
  · rfl
theorem beqH_ok' : ∀ {a b : List AO}, beqH a b = true → a = b
  | [], [], _ => rfl
  | [], _ :: _, h => by simp [beqH] at h
  | _ :: _, [], h => by simp [beqH] at h
  | x :: xs, y :: ys, h => by
    simp only [beqH, Bool.and_eq_true] at h
    rw [beqO_ok' h.1, beqH_ok' h.2]

theorem mem_drop_range (n m i : Nat) : i ∈ (List.range n).drop m ↔ m ≤ i ∧ i < n := by
  rw [List.mem_iff_getElem?]
  constructor
  · rintro ⟨j, hj⟩
    rw [List.getElem?_drop] at hj
    obtain ⟨h1, h2⟩ := List.getElem?_eq_some_iff.1 hj
    simp at h1 h2
    omega
  · rintro ⟨h1, h2⟩
    refine ⟨i - m, ?_⟩
    rw [List.getElem?_drop]
    have : m + (i - m) = i := by omega
    rw [this, List.getElem?_range h2]

section
variable {D : Tab} {P : Program}

inductive CodeEnd (P : Program) (X : Ctx) (b : Frame) (k : List Item) (m : Machine) : OpEnd → (Nat → Loc) → St → World → Prop
  | go {ι' : Nat → Loc} {σ' : St} {w' : World} {T : List AV} {ds : List ADef} {pan : Pan}
      (steps : Steps P m (mach X b ι' T ds pan k w')) (ids : IdsF ι' (· < σ'.n) X T ds pan) :
      CodeEnd P X b k m (.go T ds pan σ') ι' σ' w'
  | panic {ι' : Nat → Loc} {σ' : St} {w' : World} {T : List AV} {ds : List ADef} {pan : Pan} {v : AV} (todo : List Item)
      (steps : Steps P m (machP X b ι' T ds pan todo v w')) (ids : IdsF ι' (· < σ'.n) X T ds pan) (hv : Dt.ids ι' (· < σ'.n) v) :
      CodeEnd P X b k m (.panic v T ds pan σ') ι' σ' w'

theorem step_on_region {b : Frame} {M : Array Value} {ds : List Deferred} {id : Nat} {ops : Array Oper} {k : List Item} {cs : List Frame} {w : World} :
    step P (lone (on b M ds (.code (.region id ops false) :: k)) cs w) = .next (lone (on b M ds (.inRegion ops (List.range ops.size) :: k)) cs w) :=
  step_lone_go (by simp [stepG, stepG.exec, on])

theorem step_on_draw {b : Frame} {M : Array Value} {ds : List Deferred} {id : Nat} {ops : Array Oper} {k : List Item} {cs : List Frame} {w : World} :
    step P (lone (on b M ds (.code (.region id ops true) :: k)) cs w) =
      .next (lone (on b M ds (.inRegion ops (Region.schedule (P.follows .mixedOrders) ops (w.tape w.drawn (.order b.fn id))) :: k)) cs { w with drawn := w.drawn + 1 }) :=
  step_lone_go (by simp [stepG, stepG.exec, on, choose, Sem.run, Question.forced, Question.cut])

theorem step_on_end {b : Frame} {M : Array Value} {ds : List Deferred} {ops : Array Oper} {k : List Item} {cs : List Frame} {w : World} :
    step P (lone (on b M ds (.inRegion ops [] :: k)) cs w) = .next (lone (on b M ds k) cs w) :=
  step_lone_go (by simp [stepG, stepG.exec, on])

theorem region_ok (F : Fits D P) {call : CallT} {round : RoundT} (HC : CallOK D P call) (HR : RoundOK D P round) {isRound : Bool} {X : Ctx} {b : Frame} (hk : b.kind = X.kind)
    (hround : b.roundOf = none ↔ isRound = false) {ι : Nat → Loc} {σ : St} {w : World} {T : List AV} {ds : List ADef} {pan : Pan} {r : OpEnd} {id : Nat} {ops : Array Oper} {draw : Bool} {k : List Item}
    (R : Rep D ι σ w) (I : IdsF ι (· < σ.n) X T ds pan) (h : runRegion D call round isRound ops draw T ds pan σ = .ok r) :
    ∃ ι' σ' w', CodeEnd P X b k (mach X b ι T ds pan (.code (.region id ops draw) :: k) w) r ι' σ' w' ∧ Rep D ι' σ' w' ∧ Ext ι σ w ι' σ' w' := by
  unfold runRegion at h
  cases draw with
  | false =>
    simp only [Bool.false_eq_true, if_false] at h
    have hr : List.range ops.size = List.range' 0 ops.toList.length := by rw [List.range_eq_range']; simp
    obtain ⟨ι', σ', w', h1, R', E'⟩ := runSeq_ok F HC HR hk hround (k := k) ops.toList 0 rfl R I h
    refine ⟨ι', σ', w', ?_, R', E'⟩
    have h0 : Steps P (mach X b ι T ds pan (.code (.region id ops false) :: k) w) (mach X b ι T ds pan (.inRegion ops (List.range' 0 ops.toList.length) :: k) w) := by
      rw [← hr]; exact .one step_on_region
    cases h1 with
    | go s i => exact .go (Steps.trans (Steps.trans h0 s) (.one step_on_end)) i
    | panic t s i hv => exact .panic t (Steps.trans h0 s) i hv
  | true =>
    simp only [if_true] at h
    split at h
    · rename_i hok
      simp only [bind_ok] at h
      obtain ⟨r0, hdraw, h⟩ := h
      obtain ⟨Te, dsE, panE, σE, al, rfl, htr⟩ := runDraw_tr _ hdraw
      simp only [drawOk, Bool.and_eq_true] at hok
      obtain ⟨⟨⟨hble, hah⟩, hchk⟩, hcov⟩ := hok
      have hm := marks_before ops
      have hms : D.cut ops ≤ ops.size := Nat.le_of_ble_eq_true hble
      have hw : ({ w with drawn := w.drawn + 1 } : World) = w.drew := rfl
      let V : Env := { D, P, call, round, isRound, X, b, ops, m := D.cut ops, as := ((planM ops (D.cut ops)).filter (·.act)).map (·.i), Te, dsE, panE, σE, ι0 := ι, σ0 := σ, w0 := w }
      have K : V.OK := ⟨F, HC, HR, hk, hround, hm⟩
      have hahead : ∀ i j, i < V.m → V.m ≤ j → j < V.ops.size → isBefore (befA V.ops) i j = true := fun i j hi hj hjs => by
        simp only [aheadOk, idxs, List.all_eq_true, List.mem_range, Bool.or_eq_true] at hah
        rcases hah i hi j hjs with h1 | h1
        · rw [blt_dec] at h1
          have h2 : j < V.m := of_decide_eq_true h1
          omega
        · exact h1
      have hlin : Lin ops (Array.replicate ops.size false) (Region.schedule (P.follows .mixedOrders) ops (w.tape w.drawn (.order b.fn id))) := by
        simp only [Region.schedule, F.mixed, Bool.true_or, if_true, Region.linearise]
        refine go_lin _ _ _ (by simp) ?_
        exact Nat.le_trans (List.countP_le_length) (by simp)
      have hun : ∀ i, lst (Array.replicate ops.size false) i = false := fun i => by
        unfold lst
        simp only [Array.getD_eq_getD_getElem?, Array.getElem?_replicate]
        split <;> rfl
      have I0 : DInv V (Array.replicate ops.size false) (planM ops (D.cut ops)) [] σ [] T ds pan σ al ι w.drew (concL ι T).toArray :=
        { tr := htr, chk := hchk, acts := by simp [V], sz := by simp [V], cl := fun i j _ hl => (by rw [hun] at hl; cases hl), seenL := by simp,
          cov := fun i hi => by
            right
            simp only [List.all_eq_true, List.mem_range, List.any_eq_true, beq_iff_eq] at hcov
            exact hcov i hi,
          un := fun _ _ _ => hun _, rep := R.drew, ext := Ext.drew _ _ _, msz := (by have := htr.T_eq.1; simp [V, this]),
          val := fun t v hv hno => by
            have hwr : writes ops (planM ops (D.cut ops)) t = false := by
              simp only [writes, List.any_eq_false]
              intro it hit
              simpa using hno it hit (hun _)
            have hTt : T[t]? = some v := (htr.T_eq.2 t hwr).trans hv
            refine ⟨by simp [hTt], ids_sub (fun b hb => .inl hb) (idsL_get I.T hTt)⟩,
          pend := fun _ _ hl => (by rw [hun] at hl; cases hl), sep := fun _ _ _ _ hl => (by rw [hun] at hl; cases hl),
          fit := I.fit, ds := I.ds, pan := I.pan }
      obtain ⟨o2, l2, ι', w', hs, hlin2, hsz2, hall2, hun2, R', E', I'⟩ := draw_main K hms hahead k _ _ hlin (fun i _ => hun i) I0
      have hs0 := Steps.trans (.one (step_on_draw (P := P) (b := b) (M := (concL ι T).toArray) (ds := ds.map (concDef ι)) (id := id) (ops := ops) (k := k) (cs := X.cs ι pan) (w := w))) hs
      by_cases hone : ops.size = D.cut ops + 1
      · simp only [hone, if_true] at h
        split at h
        · rename_i hcan
          have hmsk : Msk (D.cut ops) l2 0 := fun i hi => by rw [hun2 i hi]; simp
          have hmlt : D.cut ops < ops.size := by omega
          unfold canE at hcan
          have hb0 : bitOf 0 (D.cut ops) = false := by rw [bitOf_eq]; simp
          rw [hb0] at hcan
          simp only [cond_false] at hcan
          split at hcan
          · rename_i o ho
            have hready : D.cut ops ∈ Region.ready .any ops l2 := by
              refine mem_ready.2 ⟨?_, o, ho, fun e he hbi => readyE_eq hall2 hmsk _ hcan e (by simpa using he) hbi⟩
              have hli := hun2 (D.cut ops) (Nat.le_refl _)
              have hlt : D.cut ops < l2.size := by rw [hsz2]; exact hmlt
              unfold lst at hli
              simp [hlt] at hli ⊢
              exact hli
            have ho2 : o2 = [D.cut ops] := by
              cases o2 with
              | nil => rw [hlin2] at hready; simp at hready
              | cons i o3 =>
                obtain ⟨hr, hlin3⟩ := hlin2
                have hri := ready_lst hr hsz2
                have hi : i = D.cut ops := by
                  rcases Nat.lt_or_ge i (D.cut ops) with h1 | h1
                  · rw [hall2 i h1] at hri; simp at hri
                  · have h2 : i < ops.size := hri.1
                    omega
                subst hi
                cases o3 with
                | nil => rfl
                | cons j o3 =>
                  exfalso
                  have hrj := ready_lst hlin3.1 (by simpa using hsz2)
                  rw [lst_set (by rw [hsz2]; exact hmlt)] at hrj
                  obtain ⟨hj1, hj2⟩ := hrj
                  rcases Nat.lt_or_ge j (D.cut ops) with h1 | h1
                  · rw [hall2 j h1] at hj2; simp at hj2
                  · have h2 : j < ops.size := hj1
                    have : j = D.cut ops := by omega
                    subst this; simp at hj2
            subst ho2
            have hlen : (ops.toList.drop (D.cut ops)).length = 1 := by simp; omega
            obtain ⟨ι2, σ2, w2, hreg, R2, E2⟩ := runSeq_ok F HC HR hk hround (k := k) (ops.toList.drop (D.cut ops)) (D.cut ops) rfl R' I' h
            rw [hlen] at hreg
            refine ⟨ι2, σ2, w2, ?_, R2, E'.trans E2⟩
            cases hreg with
            | go s i => exact .go (Steps.trans (Steps.trans hs0 s) (.one step_on_end)) i
            | panic t s i hv => exact .panic t (Steps.trans hs0 s) i hv
          · cases hcan
        · cases h
      simp only [hone, if_false] at h
      simp only [bind_ok, pure_ok] at h
      obtain ⟨⟨T2, σ2⟩, hrest, rfl⟩ := h
      unfold runRest at hrest
      split at hrest
      · rename_i hle
        simp only [Except.ok.injEq, Prod.mk.injEq] at hrest
        obtain ⟨rfl, rfl⟩ := hrest
        have ho2 : o2 = [] := by
          cases o2 with
          | nil => rfl
          | cons i o2 =>
            have hri := ready_lst hlin2.1 hsz2
            have h1 : i < V.m := Nat.lt_of_lt_of_le hri.1 hle
            rw [hall2 i h1] at hri
            simp at hri
        subst ho2
        exact ⟨ι', σE, w', .go (Steps.trans hs0 (.one step_on_end)) I', R', E'⟩
      · split at hrest
        · rename_i se hse
          simp only [Except.ok.injEq, Prod.mk.injEq] at hrest
          obtain ⟨rfl, rfl⟩ := hrest
          have hmsk : Msk (D.cut ops) l2 0 := fun i hi => by rw [hun2 i hi]; simp
          obtain ⟨ι2, w2, hs2, R2, E2, I2⟩ := enum_ok F HC HR beqL_ok (fun a b h => beqH_ok' h) hk hround (k := k) (ds := dsE) (pan := panE) (is := tailIx ops (D.cut ops))
            (fun i => by
              simp only [tailIx, mem_drop_range]) _ _ _ hse o2 l2 hlin2 hsz2 hall2 { mask := 0, T := Te, n := σE.n, l := σE.l } (by simp) hmsk (ι := ι') (w := w') R' I'
          exact ⟨ι2, _, w2, .go (Steps.trans hs0 (Steps.trans hs2 (.one step_on_end))) I2, R2, E'.trans E2⟩
        · cases hrest
    · simp at h

end
end Go.Dt
namespace Go.Dt

theorem nodup_ok : ∀ {l : List Nat}, nodup l = true → l.Nodup
  | [], _ => List.nodup_nil
  | x :: l, h => by
    simp only [nodup, Bool.and_eq_true, Bool.not_eq_true', List.contains_eq_mem, decide_eq_false_iff_not] at h
    exact List.nodup_cons.2 ⟨h.1, nodup_ok h.2⟩

theorem getO_gone {σ : St} {b : Nat} (h : σ.getO b ≠ .gone) : b < σ.n := by
  unfold St.getO at h
  split at h
  · assumption
  · exact (h rfl).elim

theorem refsL_ne {src : St} {f : AV → List Nat} (hf : ∀ v s, s ∈ f v → src.getO s ≠ .gone) : ∀ l s, s ∈ refsL f l → src.getO s ≠ .gone
  | [], s, h => by simp [refsL] at h
  | x :: l, s, h => by
    simp only [refsL, List.mem_append] at h
    rcases h with h | h
    · exact hf _ _ h
    · exact refsL_ne hf l s h

theorem refs_ne (src : St) : ∀ n v s, s ∈ refsA src n v → src.getO s ≠ .gone := by
  intro n
  induction n with
  | zero => intro v s h; simp [refsA] at h
  | succ n ih =>
    intro v s h
    cases v with
    | slice b o len cap sz =>
      simp only [refsA] at h
      split at h
      · rename_i cs e ow sz' hb
        rcases List.mem_cons.1 h with h1 | h1
        · subst h1; rw [hb]; simp
        · exact refsL_ne ih _ _ h1
      · simp at h
    | iface t v => simp only [refsA] at h; exact ih _ _ h
    | agg l => simp only [refsA] at h; exact refsL_ne ih _ _ h
    | tuple l => simp only [refsA] at h; exact refsL_ne ih _ _ h
    | _ => simp [refsA] at h

section
variable {D : Tab} {ι ι' : Nat → Loc} {σ : St} {w : World}

/-- an object that lies in memory already is taken into the heap -/
theorem Rep.adopt' (R : Rep D ι σ w) {o : AO} {L : Loc} (ho : ORep (upd ι σ.n L) (· < σ.n + 1) o L w)
    (hs : ∀ b, b < σ.n → σ.getO b ≠ .gone → ((σ.getO b).isMut = true ∨ o.isMut = true) → (ι b).block ≠ L.block) :
    Rep D (upd ι σ.n L) (σ.push o) w where
  len := by simp [St.push, R.len]
  glob := Nat.le_succ_of_le R.glob
  gloc := fun g hg => by rw [upd_old (by have := R.glob; omega)]; exact R.gloc g hg
  obj := fun b hb => by
    simp only [St.push] at hb
    by_cases he : b = σ.n
    · subst he; rw [getO_push_new, upd_new]; exact ho
    · have hb1 : b < σ.n := by omega
      rw [getO_push_old hb1, upd_old he]
      exact (R.obj b hb1).mono kpush
  sep := fun b b' hb hb' hne hm hg => by
    simp only [St.push] at hb hb'
    by_cases he : b = σ.n
    · subst he
      have hb1 : b' < σ.n := by omega
      rw [getO_push_old hb1] at hg
      rw [getO_push_new] at hm
      rw [upd_new, upd_old (by omega)]
      exact (hs b' hb1 hg (.inr hm)).symm
    · have hb1 : b < σ.n := by omega
      rw [getO_push_old hb1] at hm
      rw [upd_old he]
      by_cases he' : b' = σ.n
      · subst he'; rw [upd_new]; exact hs b hb1 (AO.isMut_ne hm) (.inl hm)
      · have hb2 : b' < σ.n := by omega
        rw [getO_push_old hb2] at hg
        rw [upd_old he']
        exact R.sep b b' hb1 hb2 hne hm hg
  mem := R.mem
end

/-- may the blocks be taken into the heap? -/
def Room (own : Bool) (ι : Nat → Loc) (dst : St) (ιs : Nat → Loc) (refs : List Nat) : Prop :=
  match own with
  | true => ∀ s, s ∈ refs → ∀ b, b < dst.n → dst.getO b ≠ .gone → (ι b).block ≠ (ιs s).block
  | false => ∀ b, b < dst.n → (dst.getO b).isMut = false

structure Copied (D : Tab) (own : Bool) (ιs : Nat → Loc) (src : St) (w : World) (refs : List Nat) (ι : Nat → Loc) (dst : St) (ι' : Nat → Loc) (dst' : St) : Prop where
  rep : Rep D ι' dst' w
  n : dst.n ≤ dst'.n
  agree : ∀ b, b < dst.n → ι' b = ι b
  old : ∀ b, b < dst.n → dst'.getO b = dst.getO b
  M : dst'.M = dst.M
  new : ∀ b, dst.n ≤ b → b < dst'.n → (dst'.getO b).isMut = own ∧ ∃ s, s ∈ refs ∧ (ι' b).block = (ιs s).block
  own : own = true → ∀ s, s ∈ refs → (src.getO s).isMut = true

theorem Copied.k {D : Tab} {own : Bool} {ιs ι ι' : Nat → Loc} {src dst dst' : St} {w : World} {refs : List Nat} (h : Copied D own ιs src w refs ι dst ι' dst') :
    ∀ b, b < dst.n → b < dst'.n ∧ ι' b = ι b := fun b hb => ⟨Nat.lt_of_lt_of_le hb h.n, h.agree b hb⟩

theorem takeN_ok' {cs l : List AV} {o n : Nat} (h : takeN cs o n = .ok l) : l = (cs.drop o).take n ∧ o + n ≤ cs.length ∨ (l = (cs.drop o).take n ∧ n = 0) := by
  unfold takeN at h
  split at h
  · rename_i hl
    simp at h
    subst h
    simp only [List.length_take, List.length_drop] at hl
    by_cases h0 : n = 0
    · exact .inr ⟨rfl, h0⟩
    · exact .inl ⟨rfl, by omega⟩
  · simp at h

/-- what a copy of a value gives -/
def CopyOK (D : Tab) (own : Bool) (ιs : Nat → Loc) (src : St) (w : World) (f : AV → St → R (AV × St)) (rf : AV → List Nat) : Prop :=
  ∀ v dst v' dst', f v dst = .ok (v', dst') → ∀ ι, Rep D ι dst w → ids ιs (· < src.n) v → (own = true → (rf v).Nodup) → Room own ι dst ιs (rf v) →
    ∃ ι', Copied D own ιs src w (rf v) ι dst ι' dst' ∧ conc ι' v' = conc ιs v ∧ ids ι' (· < dst'.n) v'

theorem Copied.refl {D : Tab} {own : Bool} {ιs ι : Nat → Loc} {src dst : St} {w : World} (R : Rep D ι dst w) : Copied D own ιs src w [] ι dst ι dst :=
  ⟨R, Nat.le_refl _, fun _ _ => rfl, fun _ _ => rfl, rfl, fun b h1 h2 => by omega, by simp⟩

theorem copyL_ok {D : Tab} {own : Bool} {ιs : Nat → Loc} {src : St} {w : World} (Rs : Rep D ιs src w) {f : AV → St → R (AV × St)} {rf : AV → List Nat} (hne : ∀ v s, s ∈ rf v → src.getO s ≠ .gone)
    (hf : CopyOK D own ιs src w f rf) : ∀ l dst l' dst', copyL f l dst = .ok (l', dst') → ∀ ι, Rep D ι dst w → idsL ιs (· < src.n) l → (own = true → (refsL rf l).Nodup) → Room own ι dst ιs (refsL rf l) →
      ∃ ι', Copied D own ιs src w (refsL rf l) ι dst ι' dst' ∧ concL ι' l' = concL ιs l ∧ idsL ι' (· < dst'.n) l' := by
  intro l
  induction l with
  | nil =>
    intro dst l' dst' h ι R hid hnd hroom
    simp [copyL] at h
    obtain ⟨rfl, rfl⟩ := h
    exact ⟨ι, Copied.refl R, rfl, trivial⟩
  | cons x l ihl =>
    intro dst l' dst' h ι R hid hnd hroom
    simp only [copyL, bind_ok, pure_ok, Prod.mk.injEq] at h
    obtain ⟨⟨x1, dst1⟩, h1, ⟨l1, dst2⟩, h2, rfl, rfl⟩ := h
    simp only [refsL] at hnd hroom ⊢
    have hroomx : Room own ι dst ιs (rf x) := by
      cases own with
      | false => exact hroom
      | true => exact fun s hs => hroom s (List.mem_append_left _ hs)
    obtain ⟨ι1, hc1, hx1, hx2⟩ := hf _ _ _ _ h1 ι R hid.1 (fun e => (List.nodup_append.1 (hnd e)).1) hroomx
    have hrooml : Room own ι1 dst1 ιs (refsL rf l) := by
      cases own with
      | false =>
        intro b hb
        by_cases hb1 : b < dst.n
        · rw [hc1.old b hb1]; exact hroom b hb1
        · exact (hc1.new b (Nat.le_of_not_lt hb1) hb).1
      | true =>
        intro s hs b hb hg
        by_cases hb1 : b < dst.n
        · rw [hc1.agree b hb1]
          rw [hc1.old b hb1] at hg
          exact hroom s (List.mem_append_right _ hs) b hb1 hg
        · obtain ⟨_, s', hs', he⟩ := hc1.new b (Nat.le_of_not_lt hb1) hb
          rw [he]
          have hm := hc1.own rfl s' hs'
          have hne' : s' ≠ s := (List.nodup_append.1 (hnd rfl)).2.2 s' hs' s hs
          have hsg := refsL_ne hne l s hs
          exact Rs.sep s' s (getO_gone (AO.isMut_ne hm)) (getO_gone hsg) hne' hm hsg
    obtain ⟨ι2, hc2, hl1, hl2⟩ := ihl _ _ _ h2 ι1 hc1.rep hid.2 (fun e => (List.nodup_append.1 (hnd e)).2.1) hrooml
    refine ⟨ι2, ⟨hc2.rep, Nat.le_trans hc1.n hc2.n, fun b hb => ?_, fun b hb => ?_, hc2.M.trans hc1.M, fun b hb1 hb2 => ?_, fun e s hs => ?_⟩, ?_, ?_⟩
    · rw [hc2.agree b (Nat.lt_of_lt_of_le hb hc1.n)]; exact hc1.agree b hb
    · rw [hc2.old b (Nat.lt_of_lt_of_le hb hc1.n)]; exact hc1.old b hb
    · by_cases hb3 : b < dst1.n
      · obtain ⟨h3, s, h4, h5⟩ := hc1.new b hb1 hb3
        rw [hc2.old b hb3, hc2.agree b hb3]
        exact ⟨h3, s, List.mem_append_left _ h4, h5⟩
      · obtain ⟨h3, s, h4, h5⟩ := hc2.new b (Nat.le_of_not_lt hb3) hb2
        exact ⟨h3, s, List.mem_append_right _ h4, h5⟩
    · rcases List.mem_append.1 hs with h3 | h3
      · exact hc1.own e s h3
      · exact hc2.own e s h3
    · simp only [concL, hl1]
      rw [← hx1, conc_agree hc2.agree x1 hx2]
    · exact ⟨ids_mono hc2.k x1 hx2, hl2⟩

theorem copy_ok {D : Tab} (own : Bool) {ιs : Nat → Loc} {src : St} {w : World} (Rs : Rep D ιs src w) : ∀ n, CopyOK D own ιs src w (copyA own src n) (refsA src n) := by
  intro n
  induction n with
  | zero => intro v dst v' dst' h; simp [copyA] at h
  | succ n ih =>
    intro v dst v' dst' h ι R hid hnd hroom
    have refl : ∀ {ι : Nat → Loc} {dst : St}, Rep D ι dst w → Copied D own ιs src w [] ι dst ι dst := fun R => Copied.refl R
    have ihL := copyL_ok Rs (refs_ne src n) ih
    cases v with
    | base v =>
      simp [copyA] at h
      obtain ⟨rfl, rfl⟩ := h
      exact ⟨ι, refl R, by simp [conc], trivial⟩
    | iface t v =>
      simp only [copyA, bind_ok, pure_ok, Prod.mk.injEq] at h
      obtain ⟨⟨v1, dst1⟩, h, rfl, rfl⟩ := h
      obtain ⟨ι', hc, h1, h2⟩ := ih _ _ _ _ h ι R hid (by simpa [refsA] using hnd) (by simpa [refsA] using hroom)
      exact ⟨ι', by simpa [refsA] using hc, by simp [conc, h1], by simpa [ids] using h2⟩
    | agg l =>
      simp only [copyA, bind_ok, pure_ok, Prod.mk.injEq] at h
      obtain ⟨⟨v1, dst1⟩, h, rfl, rfl⟩ := h
      obtain ⟨ι', hc, h1, h2⟩ := ihL _ _ _ _ h ι R hid (by simpa [refsA] using hnd) (by simpa [refsA] using hroom)
      exact ⟨ι', by simpa [refsA] using hc, by simp [conc, h1], by simpa [ids] using h2⟩
    | tuple l =>
      simp only [copyA, bind_ok, pure_ok, Prod.mk.injEq] at h
      obtain ⟨⟨v1, dst1⟩, h, rfl, rfl⟩ := h
      obtain ⟨ι', hc, h1, h2⟩ := ihL _ _ _ _ h ι R hid (by simpa [refsA] using hnd) (by simpa [refsA] using hroom)
      exact ⟨ι', by simpa [refsA] using hc, by simp [conc, h1], by simpa [ids] using h2⟩
    | func f a c =>
      cases f with
      | func g =>
        cases a with
        | nil =>
          cases c with
          | nil =>
            simp [copyA] at h
            obtain ⟨rfl, rfl⟩ := h
            exact ⟨ι, by simpa [refsA] using refl R, by simp [conc, concL], by simp [ids, idsL]⟩
          | cons => simp [copyA] at h
        | cons => simp [copyA] at h
      | _ => simp [copyA] at h
    | slice b o len cap sz =>
      simp only [copyA] at h
      split at h
      · rename_i cs elem ow sz' hb
        split at h
        · rename_i hchk
          simp only [bind_ok, pure_ok, Prod.mk.injEq] at h
          obtain ⟨l, htk, ⟨l', dst1⟩, hcp, rfl, rfl⟩ := h
          have hbn : b < src.n := getO_gone (by rw [hb]; simp)
          have hO := Rs.obj b hbn
          rw [hb] at hO
          obtain ⟨hcs, hsz, arr, fz, hheap, hcell, hown⟩ := hO
          have hl : l = (cs.drop o).take (len * sz) := by
            rcases takeN_ok' htk with h1 | h1
            · exact h1.1
            · exact h1.1
          have hrefs : refsA src (n + 1) (.slice b o len cap sz) = b :: refsL (refsA src n) l := by
            simp only [refsA, hb, hl]
          rw [hrefs] at hnd hroom
          simp only [Bool.and_eq_true, Bool.or_eq_true, Bool.not_eq_true'] at hchk
          have hidl : idsL ιs (· < src.n) l := by rw [hl]; exact idsL_take (idsL_drop hcs _) _
          have hroom1 : Room own ι dst ιs (refsL (refsA src n) l) := by
            cases own with
            | false => exact hroom
            | true => exact fun s hs => hroom s (List.mem_cons_of_mem _ hs)
          obtain ⟨ι1, hc, hconc, hids⟩ := ihL _ _ _ _ hcp ι R hidl (fun e => (List.nodup_cons.1 (hnd e)).2) hroom1
          -- the new block
          have key : ∃ cz, conc ιs (.slice b o len cap sz) = .slice (some ((ιs b).at o)) len cz ∧ 0 < sz ∧ len ≤ cz ∧ (own = true → (ιs b).shift + o + cz * sz ≤ arr.size) := by
            cases cap with
            | none =>
              obtain ⟨_, h1, h2, h3⟩ := hid
              refine ⟨(ιs b).capz - o / (ιs b).sz, by simp only [conc], h2, by rw [h1]; omega, fun e => ?_⟩
              have hmod : o % sz = 0 := by
                have := hchk.2
                rw [e] at this
                simpa [capChk] using this
              have how : ow = true := by
                rcases hchk.1 with h4 | h4
                · rw [e] at h4; cases h4
                · exact h4.1
              have hsz2 : sz' = sz := by omega
              obtain ⟨_, h5, _⟩ := hown how
              rw [h1]
              have h6 : o = sz * (o / sz) := by
                have := Nat.div_add_mod o sz
                omega
              have h7 : o / sz ≤ (ιs b).capz := by omega
              have h8 : ((ιs b).capz - o / sz) * sz + o = (ιs b).capz * sz := by
                conv => lhs; rhs; rw [h6]
                rw [Nat.sub_mul, Nat.mul_comm sz]
                have : o / sz * sz ≤ (ιs b).capz * sz := Nat.mul_le_mul_right _ h7
                omega
              rw [hsz2] at h5
              omega
            | some c =>
              have h4 := hchk.2
              simp only [capChk, Bool.and_eq_true, Bool.or_eq_true, Bool.not_eq_true', Nat.blt_eq, Nat.ble_eq] at h4
              refine ⟨c, by simp only [conc], h4.1.1, h4.1.2, fun e => ?_⟩
              have h5 : o + c * sz ≤ cs.length := by
                rcases h4.2 with h6 | h6
                · rw [e] at h6; cases h6
                · exact h6.1
              by_cases h0 : cs.length = 0
              · have how : ow = true := by
                  rcases hchk.1 with h4 | h4
                  · rw [e] at h4; cases h4
                  · exact h4.1
                have := (hown how).2.1
                have h7 : o = 0 ∧ c * sz = 0 := by omega
                rw [h7.1, h7.2]
                have : (ιs b).shift ≤ arr.size := by
                  have : (ιs b).shift + (ιs b).capz * sz' ≤ arr.size := this
                  omega
                omega
              · have h7 : (cs.length - 1) < cs.length := by omega
                have h8 := hcell (cs.length - 1) _ (List.getElem?_eq_getElem h7)
                have h9 := (Array.getElem?_eq_some_iff.1 h8).1
                omega
          obtain ⟨cz, hcz, hsz0, hlen, hfit⟩ := key
          have hll : l.length = len * sz := by
            unfold takeN at htk
            split at htk
            · rename_i h1
              simp at htk
              rw [← htk]; exact h1
            · simp at htk
          have hl'len : l'.length = l.length := by
            have := congrArg List.length hconc
            simpa using this
          refine ⟨upd ι1 dst1.n ⟨(ιs b).block, (ιs b).shift + o, cz, sz⟩, ?_, ?_, ?_⟩
          · have hrep : Rep D (upd ι1 dst1.n ⟨(ιs b).block, (ιs b).shift + o, cz, sz⟩) (dst1.push (.cells l' elem own sz)) w := by
              refine hc.rep.adopt' ⟨idsL_mono kpush _ hids, rfl, arr, fz, hheap, fun i v hv => ?_, fun e => ?_⟩ fun b' hb' hg hm => ?_
              · have hilt := (List.getElem?_eq_some_iff.1 hv).1
                have hvid := idsL_get hids hv
                rw [conc_agree (A := (· < dst1.n)) (fun x hx => upd_old (Nat.ne_of_lt hx)) v hvid]
                have h1 : (concL ιs l)[i]? = some (conc ι1 v) := by rw [← hconc, concL_getElem?, hv]; rfl
                rw [concL_getElem?, hl, List.getElem?_take, if_pos (by omega), List.getElem?_drop] at h1
                cases hx : cs[o + i]? with
                | none => rw [hx] at h1; cases h1
                | some x =>
                  rw [hx] at h1
                  simp only [Option.map_some, Option.some.injEq] at h1
                  have := hcell _ _ hx
                  show arr[(ιs b).shift + o + i]? = _
                  rw [← h1, ← this]
                  congr 1
                  omega
              · subst e
                have how : ow = true := by
                  rcases hchk.1 with h4 | h4
                  · cases h4
                  · exact h4.1
                have hmod0 : o % sz = 0 := by
                  have h4 := hchk.2
                  cases cap with
                  | none => simpa [capChk] using h4
                  | some c =>
                    simp only [capChk, Bool.and_eq_true, Bool.or_eq_true, Bool.not_eq_true'] at h4
                    rcases h4.2 with h6 | h6
                    · cases h6
                    · exact Nat.eq_of_beq_eq_true h6.2
                have hsz2 : sz' = sz := by
                  rcases hchk.1 with h4 | h4
                  · cases h4
                  · simpa using h4.2
                refine ⟨(hown how).1, hfit rfl, ?_⟩
                have hd := (hown how).2.2
                rw [hsz2] at hd
                exact Nat.dvd_add hd (Nat.dvd_of_mod_eq_zero hmod0)
              · cases own with
                | false =>
                  rcases hm with hm | hm
                  · exfalso
                    by_cases hb1 : b' < dst.n
                    · rw [hc.old b' hb1, hroom b' hb1] at hm; cases hm
                    · rw [(hc.new b' (by omega) hb').1] at hm; cases hm
                  · simp [AO.isMut] at hm
                | true =>
                  by_cases hb1 : b' < dst.n
                  · rw [hc.agree b' hb1]
                    rw [hc.old b' hb1] at hg
                    exact hroom b (by simp) b' hb1 hg
                  · obtain ⟨_, s, hs, hs'⟩ := hc.new b' (by omega) hb'
                    rw [hs']
                    have hne : s ≠ b := by
                      rintro rfl
                      exact (List.nodup_cons.1 (hnd rfl)).1 hs
                    have hsm := hc.own rfl s hs
                    exact Rs.sep s b (getO_gone (AO.isMut_ne hsm)) hbn hne hsm (by rw [hb]; simp)
            refine ⟨hrep, Nat.le_succ_of_le hc.n, fun x hx => ?_, fun x hx => ?_, hc.M, fun x hx1 hx2 => ?_, fun e s hs => ?_⟩
            · have := hc.n
              rw [upd_old (by omega)]; exact hc.agree x hx
            · rw [getO_push_old (Nat.lt_of_lt_of_le hx hc.n)]; exact hc.old x hx
            · simp only [St.push] at hx2
              rw [hrefs]
              by_cases he : x = dst1.n
              · subst he
                rw [getO_push_new, upd_new]
                exact ⟨rfl, b, by simp, rfl⟩
              · have hx3 : x < dst1.n := by omega
                rw [getO_push_old hx3, upd_old he]
                obtain ⟨h1, s, h2, h3⟩ := hc.new x hx1 hx3
                exact ⟨h1, s, List.mem_cons_of_mem _ h2, h3⟩
            · rw [hrefs] at hs
              rcases List.mem_cons.1 hs with h1 | h1
              · subst h1
                rw [hb]
                rcases hchk.1 with h4 | h4
                · rw [e] at h4; cases h4
                · exact h4.1
              · exact hc.own e s h1
          · rw [hcz]
            simp only [conc, upd_new, Loc.at, Nat.add_zero, Nat.zero_div, Nat.sub_zero]
          · refine ⟨Nat.lt_succ_self _, by rw [upd_new], hsz0, ?_⟩
            rw [upd_new]
            simpa using hlen
        · simp at h
      · simp at h
    | _ => simp [copyA] at h

end Go.Dt
