/-
  The region's code. No statement of this seat stands here.
-/
import Derived.Test.YtolakgfoodndpaaGreatDoorDtEnu
namespace Go.Dt

theorem beqO_ok' {a b : AO} (h : beqO a b = true) : a = b := by
  cases a <;> cases b <;> simp only [beqO, Bool.and_eq_true, beq_iff_eq, Bool.false_eq_true] at h
  · obtain ⟨⟨⟨h1, h2⟩, h3⟩, h4⟩ := h
    rw [beqL_ok _ _ h4, h1, h2, h3]
  · rfl
theorem beqH_ok' : ∀ {a b : List AO}, beqH a b = true → a = b
  | [], [], _ => rfl
  | [], _ :: _, h => by simp [beqH] at h
  | _ :: _, [], h => by simp [beqH] at h
  | x :: xs, y :: ys, h => by
    simp only [beqH, Bool.and_eq_true] at h
    rw [beqO_ok' h.1, beqH_ok' h.2]

theorem mem_drop_range (n m i : Nat) : i ∈ (List.range n).drop m ↔ m ≤ i ∧ i < n := by
  rw [List.mem_iff_getElem?]
  constructor
  · rintro ⟨j, hj⟩
    rw [List.getElem?_drop] at hj
    obtain ⟨h1, h2⟩ := List.getElem?_eq_some_iff.1 hj
    simp at h1 h2
    omega
  · rintro ⟨h1, h2⟩
    refine ⟨i - m, ?_⟩
    rw [List.getElem?_drop]
    have : m + (i - m) = i := by omega
    rw [this, List.getElem?_range h2]

section
variable {D : Tab} {P : Program}

inductive CodeEnd (P : Program) (X : Ctx) (b : Frame) (k : List Item) (m : Machine) : OpEnd → (Nat → Loc) → St → World → Prop
  | go {ι' : Nat → Loc} {σ' : St} {w' : World} {T : List AV} {ds : List ADef} {pan : Pan}
      (steps : Steps P m (mach X b ι' T ds pan k w')) (ids : IdsF ι' (· < σ'.n) X T ds pan) :
      CodeEnd P X b k m (.go T ds pan σ') ι' σ' w'
  | panic {ι' : Nat → Loc} {σ' : St} {w' : World} {T : List AV} {ds : List ADef} {pan : Pan} {v : AV} (todo : List Item)
      (steps : Steps P m (machP X b ι' T ds pan todo v w')) (ids : IdsF ι' (· < σ'.n) X T ds pan) (hv : Dt.ids ι' (· < σ'.n) v) :
      CodeEnd P X b k m (.panic v T ds pan σ') ι' σ' w'

theorem step_on_region {b : Frame} {M : Array Value} {ds : List Deferred} {id : Nat} {ops : Array Oper} {k : List Item} {cs : List Frame} {w : World} :
    step P (lone (on b M ds (.code (.region id ops false) :: k)) cs w) = .next (lone (on b M ds (.inRegion ops (List.range ops.size) :: k)) cs w) :=
  step_lone_go (by simp [stepG, stepG.exec, on])

theorem step_on_draw {b : Frame} {M : Array Value} {ds : List Deferred} {id : Nat} {ops : Array Oper} {k : List Item} {cs : List Frame} {w : World} :
    step P (lone (on b M ds (.code (.region id ops true) :: k)) cs w) =
      .next (lone (on b M ds (.inRegion ops (Region.schedule (P.follows .mixedOrders) ops (w.tape w.drawn (.order b.fn id))) :: k)) cs { w with drawn := w.drawn + 1 }) :=
  step_lone_go (by simp [stepG, stepG.exec, on, choose, Sem.run, Question.forced, Question.cut])

theorem step_on_end {b : Frame} {M : Array Value} {ds : List Deferred} {ops : Array Oper} {k : List Item} {cs : List Frame} {w : World} :
    step P (lone (on b M ds (.inRegion ops [] :: k)) cs w) = .next (lone (on b M ds k) cs w) :=
  step_lone_go (by simp [stepG, stepG.exec, on])

theorem region_ok (F : Fits D P) {call : CallT} {round : RoundT} (HC : CallOK D P call) (HR : RoundOK D P round) {isRound : Bool} {X : Ctx} {b : Frame} (hk : b.kind = X.kind)
    (hround : b.roundOf = none ↔ isRound = false) {ι : Nat → Loc} {σ : St} {w : World} {T : List AV} {ds : List ADef} {pan : Pan} {r : OpEnd} {id : Nat} {ops : Array Oper} {draw : Bool} {k : List Item}
    (R : Rep D ι σ w) (I : IdsF ι (· < σ.n) X T ds pan) (h : runRegion D call round isRound ops draw T ds pan σ = .ok r) :
    ∃ ι' σ' w', CodeEnd P X b k (mach X b ι T ds pan (.code (.region id ops draw) :: k) w) r ι' σ' w' ∧ Rep D ι' σ' w' ∧ Ext ι σ w ι' σ' w' := by
  unfold runRegion at h
  cases draw with
  | false =>
    simp only [Bool.false_eq_true, if_false] at h
    have hr : List.range ops.size = List.range' 0 ops.toList.length := by rw [List.range_eq_range']; simp
    obtain ⟨ι', σ', w', h1, R', E'⟩ := runSeq_ok F HC HR hk hround (k := k) ops.toList 0 rfl R I h
    refine ⟨ι', σ', w', ?_, R', E'⟩
    have h0 : Steps P (mach X b ι T ds pan (.code (.region id ops false) :: k) w) (mach X b ι T ds pan (.inRegion ops (List.range' 0 ops.toList.length) :: k) w) := by
      rw [← hr]; exact .one step_on_region
    cases h1 with
    | go s i => exact .go (Steps.trans (Steps.trans h0 s) (.one step_on_end)) i
    | panic t s i hv => exact .panic t (Steps.trans h0 s) i hv
  | true =>
    simp only [if_true] at h
    split at h
    · rename_i hok
      simp only [bind_ok] at h
      obtain ⟨r0, hdraw, h⟩ := h
      obtain ⟨Te, dsE, panE, σE, al, rfl, htr⟩ := runDraw_tr _ hdraw
      simp only [drawOk, Bool.and_eq_true] at hok
      obtain ⟨⟨⟨hble, hah⟩, hchk⟩, hcov⟩ := hok
      have hm := marks_before ops
      have hms : D.cut ops ≤ ops.size := Nat.le_of_ble_eq_true hble
      have hw : ({ w with drawn := w.drawn + 1 } : World) = w.drew := rfl
      let V : Env := { D, P, call, round, isRound, X, b, ops, m := D.cut ops, as := ((planM ops (D.cut ops)).filter (·.act)).map (·.i), Te, dsE, panE, σE, ι0 := ι, σ0 := σ, w0 := w }
      have K : V.OK := ⟨F, HC, HR, hk, hround, hm⟩
      have hahead : ∀ i j, i < V.m → V.m ≤ j → j < V.ops.size → isBefore (befA V.ops) i j = true := fun i j hi hj hjs => by
        simp only [aheadOk, idxs, List.all_eq_true, List.mem_range, Bool.or_eq_true] at hah
        rcases hah i hi j hjs with h1 | h1
        · rw [blt_dec] at h1
          have h2 : j < V.m := of_decide_eq_true h1
          omega
        · exact h1
      have hlin : Lin ops (Array.replicate ops.size false) (Region.schedule (P.follows .mixedOrders) ops (w.tape w.drawn (.order b.fn id))) := by
        simp only [Region.schedule, F.mixed, Bool.true_or, if_true, Region.linearise]
        refine go_lin _ _ _ (by simp) ?_
        exact Nat.le_trans (List.countP_le_length) (by simp)
      have hun : ∀ i, lst (Array.replicate ops.size false) i = false := fun i => by
        unfold lst
        simp only [Array.getD_eq_getD_getElem?, Array.getElem?_replicate]
        split <;> rfl
      have I0 : DInv V (Array.replicate ops.size false) (planM ops (D.cut ops)) [] σ [] T ds pan σ al ι w.drew (concL ι T).toArray :=
        { tr := htr, chk := hchk, acts := by simp [V], sz := by simp [V], cl := fun i j _ hl => (by rw [hun] at hl; cases hl), seenL := by simp,
          cov := fun i hi => by
            right
            simp only [List.all_eq_true, List.mem_range, List.any_eq_true, beq_iff_eq] at hcov
            exact hcov i hi,
          un := fun _ _ _ => hun _, rep := R.drew, ext := Ext.drew _ _ _, msz := (by have := htr.T_eq.1; simp [V, this]),
          val := fun t v hv hno => by
            have hwr : writes ops (planM ops (D.cut ops)) t = false := by
              simp only [writes, List.any_eq_false]
              intro it hit
              simpa using hno it hit (hun _)
            have hTt : T[t]? = some v := (htr.T_eq.2 t hwr).trans hv
            refine ⟨by simp [hTt], ids_sub (fun b hb => .inl hb) (idsL_get I.T hTt)⟩,
          pend := fun _ _ hl => (by rw [hun] at hl; cases hl), sep := fun _ _ _ _ hl => (by rw [hun] at hl; cases hl),
          fit := I.fit, ds := I.ds, pan := I.pan }
      obtain ⟨o2, l2, ι', w', hs, hlin2, hsz2, hall2, hun2, R', E', I'⟩ := draw_main K hms hahead k _ _ hlin (fun i _ => hun i) I0
      have hs0 := Steps.trans (.one (step_on_draw (P := P) (b := b) (M := (concL ι T).toArray) (ds := ds.map (concDef ι)) (id := id) (ops := ops) (k := k) (cs := X.cs ι pan) (w := w))) hs
      by_cases hone : ops.size = D.cut ops + 1
      · simp only [hone, if_true] at h
        split at h
        · rename_i hcan
          have hmsk : Msk (D.cut ops) l2 0 := fun i hi => by rw [hun2 i hi]; simp
          have hmlt : D.cut ops < ops.size := by omega
          unfold canE at hcan
          have hb0 : bitOf 0 (D.cut ops) = false := by rw [bitOf_eq]; simp
          rw [hb0] at hcan
          simp only [cond_false] at hcan
          split at hcan
          · rename_i o ho
            have hready : D.cut ops ∈ Region.ready .any ops l2 := by
              refine mem_ready.2 ⟨?_, o, ho, fun e he hbi => readyE_eq hall2 hmsk _ hcan e (by simpa using he) hbi⟩
              have hli := hun2 (D.cut ops) (Nat.le_refl _)
              have hlt : D.cut ops < l2.size := by rw [hsz2]; exact hmlt
              unfold lst at hli
              simp [hlt] at hli ⊢
              exact hli
            have ho2 : o2 = [D.cut ops] := by
              cases o2 with
              | nil => rw [hlin2] at hready; simp at hready
              | cons i o3 =>
                obtain ⟨hr, hlin3⟩ := hlin2
                have hri := ready_lst hr hsz2
                have hi : i = D.cut ops := by
                  rcases Nat.lt_or_ge i (D.cut ops) with h1 | h1
                  · rw [hall2 i h1] at hri; simp at hri
                  · have h2 : i < ops.size := hri.1
                    omega
                subst hi
                cases o3 with
                | nil => rfl
                | cons j o3 =>
                  exfalso
                  have hrj := ready_lst hlin3.1 (by simpa using hsz2)
                  rw [lst_set (by rw [hsz2]; exact hmlt)] at hrj
                  obtain ⟨hj1, hj2⟩ := hrj
                  rcases Nat.lt_or_ge j (D.cut ops) with h1 | h1
                  · rw [hall2 j h1] at hj2; simp at hj2
                  · have h2 : j < ops.size := hj1
                    have : j = D.cut ops := by omega
                    subst this; simp at hj2
            subst ho2
            have hlen : (ops.toList.drop (D.cut ops)).length = 1 := by simp; omega
            obtain ⟨ι2, σ2, w2, hreg, R2, E2⟩ := runSeq_ok F HC HR hk hround (k := k) (ops.toList.drop (D.cut ops)) (D.cut ops) rfl R' I' h
            rw [hlen] at hreg
            refine ⟨ι2, σ2, w2, ?_, R2, E'.trans E2⟩
            cases hreg with
            | go s i => exact .go (Steps.trans (Steps.trans hs0 s) (.one step_on_end)) i
            | panic t s i hv => exact .panic t (Steps.trans hs0 s) i hv
          · cases hcan
        · cases h
      simp only [hone, if_false] at h
      simp only [bind_ok, pure_ok] at h
      obtain ⟨⟨T2, σ2⟩, hrest, rfl⟩ := h
      unfold runRest at hrest
      split at hrest
      · rename_i hle
        simp only [Except.ok.injEq, Prod.mk.injEq] at hrest
        obtain ⟨rfl, rfl⟩ := hrest
        have ho2 : o2 = [] := by
          cases o2 with
          | nil => rfl
          | cons i o2 =>
            have hri := ready_lst hlin2.1 hsz2
            have h1 : i < V.m := Nat.lt_of_lt_of_le hri.1 hle
            rw [hall2 i h1] at hri
            simp at hri
        subst ho2
        exact ⟨ι', σE, w', .go (Steps.trans hs0 (.one step_on_end)) I', R', E'⟩
      · split at hrest
        · rename_i se hse
          simp only [Except.ok.injEq, Prod.mk.injEq] at hrest
          obtain ⟨rfl, rfl⟩ := hrest
          have hmsk : Msk (D.cut ops) l2 0 := fun i hi => by rw [hun2 i hi]; simp
          obtain ⟨ι2, w2, hs2, R2, E2, I2⟩ := enum_ok F HC HR beqL_ok (fun a b h => beqH_ok' h) hk hround (k := k) (ds := dsE) (pan := panE) (is := tailIx ops (D.cut ops))
            (fun i => by
              simp only [tailIx, mem_drop_range]) _ _ _ hse o2 l2 hlin2 hsz2 hall2 { mask := 0, T := Te, n := σE.n, l := σE.l } (by simp) hmsk (ι := ι') (w := w') R' I'
          exact ⟨ι2, _, w2, .go (Steps.trans hs0 (Steps.trans hs2 (.one step_on_end))) I2, R2, E'.trans E2⟩
        · cases hrest
    · simp at h

end
end Go.Dt
