/-
  Regions, whole. No statement of this seat stands here.
-/
import Derived.Test.YtolakgfoodndpaaGreatDoorDtDrw3
namespace Go.Dt

def Lin (ops : Array Oper) : Array Bool → List Nat → Prop
  | listed, [] => Region.ready .any ops listed = []
  | listed, i :: order => i ∈ Region.ready .any ops listed ∧ Lin ops (listed.setIfInBounds i true) order

theorem countP_lt {p q : Nat → Bool} {i : Nat} (hp : p i = true) (hq : q i = false) : ∀ {l : List Nat}, (∀ x, x ∈ l → q x = true → p x = true) → i ∈ l → l.countP q < l.countP p := by
  intro l
  induction l with
  | nil => intro _ hi; simp at hi
  | cons x l ih =>
    intro h hi
    have hle : l.countP q ≤ l.countP p := List.countP_mono_left fun y hy => h y (List.mem_cons_of_mem _ hy)
    simp only [List.countP_cons]
    by_cases hx : i = x
    · subst hx; simp [hp, hq]; omega
    · have hi' : i ∈ l := (List.mem_cons.1 hi).resolve_left hx
      have := ih (fun y hy => h y (List.mem_cons_of_mem _ hy)) hi'
      have h2 := h x List.mem_cons_self
      cases hqx : q x
      · simp; omega
      · simp [h2 hqx]; omega

theorem go_lin {ops : Array Oper} : ∀ (fuel t : Nat) (listed : Array Bool), listed.size = ops.size → (List.range ops.size).countP (fun i => !lst listed i) ≤ fuel →
    Lin ops listed (Region.linearise.go .any ops fuel t listed []) := by
  intro fuel
  induction fuel with
  | zero =>
    intro t listed hsz hc
    show Region.ready .any ops listed = []
    cases hr : Region.ready .any ops listed with
    | nil => rfl
    | cons x xs =>
      have hx : x ∈ Region.ready .any ops listed := by rw [hr]; exact List.mem_cons_self
      have := ready_lst hx hsz
      have h0 := List.countP_eq_zero.1 (Nat.le_zero.1 hc) x (List.mem_range.2 this.1)
      rw [this.2] at h0
      simp at h0
  | succ fuel ih =>
    intro t listed hsz hc
    simp only [Region.linearise.go]
    change Lin ops listed (match (Region.ready .any ops listed)[t % (Region.ready .any ops listed).length]? with
      | some i => Region.linearise.go .any ops fuel (t / (Region.ready .any ops listed).length) (listed.setIfInBounds i true) [i]
      | none => [].reverse)
    cases hi : (Region.ready .any ops listed)[t % (Region.ready .any ops listed).length]? with
    | none =>
      show Region.ready .any ops listed = []
      cases hr : Region.ready .any ops listed with
      | nil => rfl
      | cons x xs =>
        rw [hr] at hi
        have hlt : t % (x :: xs).length < (x :: xs).length := Nat.mod_lt _ (by simp)
        simp at hi
        simp at hlt
        omega
    | some i =>
      simp only []
      rw [linearise_go_acc, List.reverse_singleton, List.singleton_append]
      have hm := List.mem_of_getElem? hi
      have hri := ready_lst hm hsz
      refine ⟨hm, ih _ _ (by simpa using hsz) ?_⟩
      have hs := fun j => lst_set (listed := listed) (i := i) (by rw [hsz]; exact hri.1) j
      have := countP_lt (p := fun j => !lst listed j) (q := fun j => !lst (listed.setIfInBounds i true) j) (i := i) (by simp [hri.2]) (by simp [hs]) (l := List.range ops.size)
        (fun x _ hx => by simp only [hs] at hx; simp at hx ⊢; exact hx.1) (List.mem_range.2 hri.1)
      omega

section
variable {V : Env} {listed : Array Bool} {rest : List PlanItem} {seen : List Nat} {s : St} {old : List St} {T : List AV} {ds : List ADef} {pan : Pan} {σ : St} {al : List Alc}
  {ι : Nat → Loc} {w : World} {M : Array Value}

theorem DInv.lo (I : DInv V listed rest seen s old T ds pan σ al ι w M) (hm : marksOk V.ops (befA V.ops) = true) {it : PlanItem} (hit : it ∈ rest)
    (hr : it.i ∈ Region.ready .any V.ops listed) : it.lo ≤ old.length := by
  obtain ⟨o, seen', rest', hh⟩ := chk_mem I.chk it hit
  rcases hh.lo with h | ⟨a, ha, hb⟩
  · omega
  · rcases Nat.lt_or_ge old.length it.lo with h | h
    · have hmem : a ∈ V.as.drop old.length := by
        refine List.mem_of_getElem? (i := it.lo - 1 - old.length) ?_
        rw [List.getElem?_drop]
        have : old.length + (it.lo - 1 - old.length) = it.lo - 1 := by omega
        rw [this]; exact ha
      rw [← I.acts, List.mem_map] at hmem
      obtain ⟨x, hx, rfl⟩ := hmem
      rw [List.mem_filter] at hx
      obtain ⟨o', _, _, hh'⟩ := chk_mem I.chk x hx.1
      have hxl : x.i < V.ops.size := (Array.getElem?_eq_some_iff.1 hh'.ho).1
      have := ready_before hm I.cl I.sz hr hxl hb
      rw [I.un x hx.1 hx.2] at this
      cases this
    · exact h

theorem DInv.adv_to (hm : marksOk V.ops (befA V.ops) = true) {i : Nat} (hr : i ∈ Region.ready .any V.ops listed) : ∀ (rest : List PlanItem) {seen : List Nat} {T : List AV} {σ : St} {al : List Alc},
    DInv V listed rest seen s old T ds pan σ al ι w M → firstAct rest = some i →
    ∃ it post seen' T' σ' al', it.i = i ∧ it.act = true ∧ DInv V listed (it :: post) seen' s old T' ds pan σ' al' ι w M := by
  intro rest
  induction rest with
  | nil => intro seen T σ al _ h; simp [firstAct] at h
  | cons x rest ih =>
    intro seen T σ al I h
    cases hx : x.act with
    | true =>
      simp only [firstAct, hx, if_true, Option.some.injEq] at h
      exact ⟨x, rest, seen, T, σ, al, h, hx, I⟩
    | false =>
      have h' : firstAct rest = some i := by simpa [firstAct, hx] using h
      obtain ⟨⟨o, hh⟩, _⟩ := chk_head I.chk
      have hxl : x.i < V.ops.size := (Array.getElem?_eq_some_iff.1 hh.ho).1
      obtain ⟨T', σ', al', I'⟩ := I.adv hx (ready_before hm I.cl I.sz hr hxl (hh.first i h'))
      exact ih I' h'

theorem DInv.adv_all (hr : Region.ready .any V.ops listed = []) : ∀ (rest : List PlanItem) {seen : List Nat} {T : List AV} {σ : St} {al : List Alc},
    DInv V listed rest seen s old T ds pan σ al ι w M → ∃ seen' T' σ' al', DInv V listed [] seen' s old T' ds pan σ' al' ι w M := by
  intro rest
  induction rest with
  | nil => intro seen T σ al I; exact ⟨seen, T, σ, al, I⟩
  | cons x rest ih =>
    intro seen T σ al I
    obtain ⟨⟨o, hh⟩, _⟩ := chk_head I.chk
    have hxl : x.i < V.ops.size := (Array.getElem?_eq_some_iff.1 hh.ho).1
    have hl : lst listed x.i = true := by
      cases hl : lst listed x.i with
      | true => rfl
      | false =>
        have : x.i ∈ Region.ready .any V.ops listed := by
          refine mem_ready.2 ⟨?_, o, hh.ho, fun e he hb => I.seenL _ (hh.top e he hb)⟩
          have hlt : x.i < listed.size := by rw [I.sz]; exact hxl
          unfold lst at hl
          simp [hlt] at hl ⊢
          exact hl
        rw [hr] at this; simp at this
    have hx : x.act = false := by
      cases hx : x.act with
      | false => rfl
      | true => rw [I.un x List.mem_cons_self hx] at hl; cases hl
    obtain ⟨T', σ', al', I'⟩ := I.adv hx hl
    exact ih I'

theorem DInv.fin (I : DInv V listed [] seen s old T ds pan σ al ι w M) (k : List Item) :
    mch V [] k ι ds pan w M = mach V.X V.b ι V.Te V.dsE V.panE (.inRegion V.ops [] :: k) w ∧ Rep V.D ι V.σE w ∧ Ext V.ι0 V.σ0 V.w0 ι V.σE w ∧ IdsF ι (· < V.σE.n) V.X V.Te V.dsE V.panE := by
  have htr := I.tr
  generalize hs : s :: old = snaps at htr
  generalize hp : ([] : List PlanItem) = p at htr
  cases htr with
  | nil =>
    have hval : ∀ t v, V.Te[t]? = some v → M[t]? = some (conc ι v) ∧ ids ι (· < V.σE.n) v := fun t v hv => by
      have := I.val t v hv (by simp)
      exact ⟨this.1, ids_sub (fun b hb => by rcases hb with h | ⟨e, he, _⟩; exact h; simp at he) this.2⟩
    refine ⟨?_, I.rep, I.ext, I.fit, idsL_iff.2 fun v hv => ?_, I.ds, I.pan⟩
    · unfold mch mach
      have : M = (concL ι V.Te).toArray := by
        apply Array.ext_getElem?
        intro t
        simp only [List.getElem?_toArray, concL_getElem?]
        cases hv : V.Te[t]? with
        | some v => rw [(hval t v hv).1]; rfl
        | none =>
          rw [List.getElem?_eq_none_iff] at hv
          exact Array.getElem?_eq_none (by rw [I.msz]; exact hv)
      rw [this]
    · obtain ⟨t, ht, rfl⟩ := List.getElem_of_mem hv
      exact (hval t _ (List.getElem?_eq_getElem ht)).2
  | skip => cases hp
  | act => cases hp
  | pure => cases hp
  | read => cases hp
  | alloc => cases hp

theorem DInv.all (I : DInv V listed [] seen s old T ds pan σ al ι w M) : ∀ i, i < V.m → lst listed i = true := fun i hi => by
  rcases I.cov i hi with h | ⟨it, hit, _⟩
  · exact I.seenL i h
  · simp at hit

theorem DInv.adv_full (hall : ∀ i, i < V.m → lst listed i = true) : ∀ (rest : List PlanItem) {seen : List Nat} {T : List AV} {σ : St} {al : List Alc},
    DInv V listed rest seen s old T ds pan σ al ι w M → ∃ seen' T' σ' al', DInv V listed [] seen' s old T' ds pan σ' al' ι w M := by
  intro rest
  induction rest with
  | nil => intro seen T σ al I; exact ⟨seen, T, σ, al, I⟩
  | cons x rest ih =>
    intro seen T σ al I
    obtain ⟨⟨o, hh⟩, _⟩ := chk_head I.chk
    have hl : lst listed x.i = true := hall x.i hh.lt
    have hx : x.act = false := by
      cases hx : x.act with
      | false => rfl
      | true => rw [I.un x List.mem_cons_self hx] at hl; cases hl
    obtain ⟨T', σ', al', I'⟩ := I.adv hx hl
    exact ih I'

theorem DInv.fin' (I : DInv V listed [] seen s old T ds pan σ al ι w M) (order : List Nat) (k : List Item) :
    mch V order k ι ds pan w M = mach V.X V.b ι V.Te V.dsE V.panE (.inRegion V.ops order :: k) w := by
  have h := (I.fin k).1
  simp only [mch, mach] at h ⊢
  have h2 : M = (concL ι V.Te).toArray ∧ ds.map (concDef ι) = V.dsE.map (concDef ι) ∧ V.X.cs ι pan = V.X.cs ι V.panE := by
    have h3 := congrArg (fun m : Machine => m.gs) h
    simp only [lone] at h3
    have h4 := congrArg (fun g : Array Goroutine => g[0]?) h3
    simp only [List.getElem?_toArray, List.getElem?_cons_zero, Option.some.injEq, Goroutine.mk.injEq, on, Frame.mk.injEq] at h4
    exact ⟨h4.1.2.1, h4.1.2.2.2.1, h4.2.1⟩
  rw [h2.1, h2.2.1, h2.2.2]

theorem draw_main (K : V.OK) (hm : V.m ≤ V.ops.size) (hahead : ∀ i j, i < V.m → V.m ≤ j → j < V.ops.size → isBefore (befA V.ops) i j = true) (k : List Item) : ∀ (order : List Nat) (listed : Array Bool), Lin V.ops listed order →
    (∀ i, V.m ≤ i → lst listed i = false) →
    ∀ {rest : List PlanItem} {seen : List Nat} {old : List St} {T : List AV} {ds : List ADef} {pan : Pan} {σ : St} {al : List Alc} {ι : Nat → Loc} {w : World} {M : Array Value},
    DInv V listed rest seen σ old T ds pan σ al ι w M →
    ∃ order2 listed2 ι' w', Steps V.P (mch V order k ι ds pan w M) (mach V.X V.b ι' V.Te V.dsE V.panE (.inRegion V.ops order2 :: k) w') ∧
      Lin V.ops listed2 order2 ∧ listed2.size = V.ops.size ∧ (∀ i, i < V.m → lst listed2 i = true) ∧ (∀ i, V.m ≤ i → lst listed2 i = false) ∧
      Rep V.D ι' V.σE w' ∧ Ext V.ι0 V.σ0 V.w0 ι' V.σE w' ∧ IdsF ι' (· < V.σE.n) V.X V.Te V.dsE V.panE := by
  intro order
  induction order with
  | nil =>
    intro listed hlin hun rest seen old T ds pan σ al ι w M I
    obtain ⟨seen', T', σ', al', I'⟩ := DInv.adv_all hlin rest I
    exact ⟨[], listed, ι, w, I'.fin' [] k ▸ Steps.refl _ _, hlin, I'.sz, I'.all, hun, (I'.fin k).2⟩
  | cons i order ih =>
    intro listed hlin hun rest seen old T ds pan σ al ι w M I
    obtain ⟨hr, hlin'⟩ := hlin
    have hri := ready_lst hr I.sz
    by_cases hlt : V.m ≤ i
    · have hall : ∀ j, j < V.m → lst listed j = true := fun j hj => ready_before K.marks I.cl I.sz hr (by omega) (hahead j i hj hlt hri.1)
      obtain ⟨seen', T', σ', al', I'⟩ := DInv.adv_full hall rest I
      exact ⟨i :: order, listed, ι, w, I'.fin' (i :: order) k ▸ Steps.refl _ _, ⟨hr, hlin'⟩, I'.sz, hall, hun, (I'.fin k).2⟩
    · have hun' : ∀ j, V.m ≤ j → lst (listed.setIfInBounds i true) j = false := fun j hj => by
        rw [lst_set (by rw [I.sz]; exact hri.1), hun j hj]
        have : ¬ j = i := by omega
        simpa using this
      have hit : ∃ it, it ∈ rest ∧ it.i = i := (I.cov i (by omega)).resolve_left fun h => by rw [I.seenL i h] at hri; simp at hri
      obtain ⟨it, hit, rfl⟩ := hit
      cases ha : it.act with
      | false =>
        obtain ⟨ι', w', M', h1, I'⟩ := I.early K.F K.marks hit hr ha (I.lo K.marks hit hr) order k
        obtain ⟨o2, l2, ι2, w2, h2, h3⟩ := ih _ hlin' hun' I'
        exact ⟨o2, l2, ι2, w2, Steps.trans h1 h2, h3⟩
      | true =>
        have hf : firstAct rest = some it.i := by
          rcases chk_chain ha I.chk hit with h | ⟨p, hp, hpa, hb⟩
          · exact h
          · obtain ⟨o, _, _, hh⟩ := chk_mem I.chk p hp
            have := ready_before K.marks I.cl I.sz hr (Array.getElem?_eq_some_iff.1 hh.ho).1 hb
            rw [I.un p hp hpa] at this; cases this
        obtain ⟨x, post, seen', T', σ', al', hxi, hxa, I'⟩ := DInv.adv_to K.marks hr rest I hf
        rw [← hxi] at hr hlin' hun' ⊢
        obtain ⟨T2, ds2, pan2, σ2, ι2, w2, M2, h1, I2⟩ := I'.act K hxa hr order k
        obtain ⟨o2, l2, ι3, w3, h3, h4⟩ := ih _ hlin' hun' I2
        exact ⟨o2, l2, ι3, w3, Steps.trans h1 h3, h4⟩

end
end Go.Dt
