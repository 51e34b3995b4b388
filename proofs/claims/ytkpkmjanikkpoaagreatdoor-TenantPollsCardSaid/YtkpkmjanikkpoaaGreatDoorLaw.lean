/-
  The law TenantPolls: whatever the place, the number of items and the counts, the call returns true and leaves what it was given. Conditions: the row's own (the listed variables are tied by the given tie).
-/
import Derived.Test.YtkpkmjanikkpoaaGreatDoorP22
import Derived.Test.YtkpkmjanikkpoaaGreatDoorP29
import Derived.Test.YtkpkmjanikkpoaaGreatDoorFacts
import Derived.Test.YtkpkmjanikkpoaaGreatDoorFactsB
import Derived.Test.YtkpkmjanikkpoaaGreatDoorGoes
import Derived.Test.YtkpkmjanikkpoaaGreatDoorRows
import Derived.Test.YtkpkmjanikkpoaaGreatDoorTie
import Derived.Test.YtkpkmjanikkpoaaGreatDoorCards
import Derived.ProofKit
import Derived.LaidMore
import Derived.Lay
import Derived.LaidOnce
import Derived.OpenShut
import Derived.Carry
import Derived.DataShut
import Derived.ChangeSlices
import Derived.Stop.Joined
import Derived.SevenTiedAt
namespace Go.Proofs.YtkpkmjanikkpoaaGreatDoor
open Go Go.ChangeShapes Go.WideShapes Go.RowKit Go.Dt
theorem own : ownKnob Tryz.prog.godebug = none := by kernel_rfl
theorem cells3 : Tryz.prog.cellsOf 3 = 1 := by kernel_rfl
theorem fresh_M (D : Tab) (M : MTree) : (freshSt D M).M = M := rfl
theorem push_M (s : St) (o : AO) : (s.push o).M = s.M := rfl
theorem fresh_wf : WF (freshSt tab M0) := by
  constructor <;> simp [freshSt, replGone_length]
/-- a slice without numbers -/
theorem run_none {x y z : Int} (h1 : -9223372036854775808 ≤ x) (h2 : x < 9223372036854775808) (a : Option Addr) (cap : Nat) (V : World) :
    Calls Tryz.prog 3 #[.int .i64 x, .int .i64 y, .int .i64 z, .slice a 0 cap] V fun e V' => e = .returned (.bool true) ∧ Fresh V V' := by
  obtain ⟨σ', hr, _⟩ := law3 (n := x) (pl := y) (mo := z) h1 h2 (nv := .base (.slice a 0 cap)) (ns := []) fresh_wf (fresh_M tab M0) ⟨.inl ⟨⟨a, cap, rfl⟩, rfl⟩⟩
  obtain ⟨n, q1⟩ := callW_ok.1 hr
  have q2 := (fns_ok tab_fits tab_memo n).call _ _ _ _ _ q1 iota0 V (rep0 tab V M0_ok) ⟨trivial, trivial, trivial, trivial, trivial⟩
  intro cs
  obtain ⟨e, V', fr, ⟨ι', rfl, _, E, _⟩, hc, hl⟩ := q2 cs
  exact ⟨_, V', fr, ⟨rfl, E.fresh fun b _ => by rw [fresh_gone]; rfl⟩, hc, hl⟩
theorem cell_is {W : World} {b o : Nat} {v : Value} (h : W.cell? ⟨b, o, none⟩ = some v) : ∃ arr e fz, W.heap[b]? = some (.cells arr e fz) ∧ arr[o]? = some v := by
  unfold World.cell? at h
  split at h
  · rename_i arr e fz hb
    exact ⟨arr, e, fz, hb, by simpa using h⟩
  · simp at h
/-- a slice with numbers -/
theorem run_some {x y z : Int} (h1 : -9223372036854775808 ≤ x) (h2 : x < 9223372036854775808) (b off cap : Nat) (ns : List Int) (hn : 0 < ns.length) (V : World) (hc : ∀ i n, ns[i]? = some n → V.cell? ⟨b, off + i, none⟩ = some (.int .i64 n)) :
    Calls Tryz.prog 3 #[.int .i64 x, .int .i64 y, .int .i64 z, .slice (some ⟨b, off, none⟩) ns.length cap] V fun e V' => e = .returned (.bool true) ∧ Fresh V V' := by
  obtain ⟨arr, e, fz, hb, _⟩ := cell_is (hc 0 _ (List.getElem?_eq_getElem hn))
  have hcs : ∀ i n, ns[i]? = some n → arr[off + i]? = some (.int .i64 n) := fun i n hi => by
    obtain ⟨arr', e', fz', hb', h'⟩ := cell_is (hc i n hi)
    rw [hb] at hb'
    cases hb'
    exact h'
  obtain ⟨o, ho⟩ : ∃ o : AO, o = .cells (ns.map fun n => intV .i64 n) e false 1 := ⟨_, rfl⟩
  obtain ⟨s, hs⟩ : ∃ s, s = freshSt tab M0 := ⟨_, rfl⟩
  have hM : (s.push o).M = M0 := by rw [push_M, hs, fresh_M]
  have hw : WF s := by rw [hs]; exact fresh_wf
  have R : Rep tab (upd iota0 s.n ⟨b, off, cap, 1⟩) (s.push o) V := by
    have R0 : Rep tab iota0 s V := by rw [hs]; exact rep0 tab V M0_ok
    refine R0.adopt' ?_ fun x _ hg _ => (hg (by rw [hs]; exact fresh_gone _ _ _)).elim
    rw [ho]
    refine ⟨?_, rfl, arr, fz, hb, ?_, fun h => by cases h⟩
    · rw [idsL_iff]
      intro v hv
      obtain ⟨n, _, rfl⟩ := List.mem_map.1 hv
      trivial
    · intro i v hi
      rw [List.getElem?_map] at hi
      cases hn' : ns[i]? with
      | none => rw [hn'] at hi; cases hi
      | some n =>
        rw [hn'] at hi
        cases hi
        exact hcs i n hn'
  have hA : At (s.push o) s.n o := At.new s o
  obtain ⟨σ', hr, _⟩ := law3 (σ := s.push o) (n := x) (pl := y) (mo := z) h1 h2 (nv := .slice s.n 0 ns.length (some cap) 1) (ns := ns) (WF.push hw _) hM ⟨.inr ⟨s.n, some cap, e, false, rfl, hA.1, by rw [← ho]; exact hA⟩⟩
  obtain ⟨n, q1⟩ := callW_ok.1 hr
  have q2 := (fns_ok tab_fits tab_memo n).call _ _ _ _ _ q1 _ V R ⟨trivial, trivial, trivial, hA.1, trivial⟩
  have ha : (concL (upd iota0 s.n ⟨b, off, cap, 1⟩) [intV .i64 x, intV .i64 y, intV .i64 z, .slice s.n 0 ns.length (some cap) 1]).toArray = #[.int .i64 x, .int .i64 y, .int .i64 z, .slice (some ⟨b, off, none⟩) ns.length cap] := by
    simp only [concL, conc, upd_new]; rfl
  rw [ha] at q2
  intro cs
  obtain ⟨e', V', fr, ⟨ι', rfl, _, E, _⟩, hc, hl⟩ := q2 cs
  refine ⟨_, V', fr, ⟨rfl, E.fresh fun w hx => ?_⟩, hc, hl⟩
  by_cases he : w = s.n
  · rw [he, hA.2, ho]; rfl
  · rw [push_n] at hx
    rw [getO_push_old (by omega), hs, fresh_gone]; rfl
theorem Fresh_cell {W W' : World} (h : Fresh W W') {a : Addr} {v : Value} (hc : W.cell? a = some v) : W'.cell? a = some v := by
  have hlt : a.block < W.heap.size := by
    unfold World.cell? at hc
    cases hb : W.heap[a.block]? with
    | none => rw [hb] at hc; simp at hc
    | some o => exact (Array.getElem?_eq_some_iff.1 hb).1
  unfold World.cell? at hc ⊢
  rw [h.old _ hlt]
  exact hc
set_option maxRecDepth 100000 in
theorem lifted (os : Os) (started : os.Started) (H : Type) (enc : TypeId × Value → H) :
    ReturnsInHanded {} Tryz.checked os 3 .any (fun w args => (Rows.tenantPollsSpec.pre enc Tryz.prog Tryz.f3 [] false w args ∧ laidMetH Tryz.prog Rows.tenantPollsRow.laid w) ∧ sizedMet enc Tryz.prog Tryz.f3 (OpenSpec.ofChange Rows.tenantPollsSpec) false w args)
      (Rows.tenantPollsSpec.post enc Tryz.prog Tryz.f3 false true false false) := by
  refine returnsInHanded_of_change_and (C := Tryz.checked) (X := fun w _ => laidMetH Tryz.prog Rows.tenantPollsRow.laid w) (fun _ _ _ hh h => h.of_heap hh) own started (by kernel_rfl) Tryz.func3
    (ChangeSpec.witness_shaped (enc := enc) (C := Tryz.checked) (os := os) (X := fun w _ => laidMetH Tryz.prog Rows.tenantPollsRow.laid w) false (World.laidAll Tryz.prog os Rows.tenantPollsRow.laid) #[.int .i64 0, .int .i64 0, .int .i64 0, .slice none 0 0] 8 (World.laidAll_os _ _ _)
      (World.shaped_of_ZipB (by kernel_rfl) (by kernel_rfl)) (by kernel_rfl) (by kernel_rfl) (by kernel_rfl)
      (by rw [MakeChecks.laidMetH_plain _ _ _ (by kernel_rfl)]; exact laidMet_laidAll _ (by kernel_rfl) (by kernel_rfl))) ?_
  intro V base args ds gs before hval0 hW _ _ _ _
  have hval : ∀ (j : Nat) t v, Tryz.f3.params[j]? = some t → args[j]? = some v → Value.okWide Tryz.prog V .any base t v := hval0
  have hW' := hW
  obtain ⟨p, q, hA0, hV0, rfl, _, _⟩ := hW
  have hA : DataW.TrodAll enc Tryz.prog V 0 (fun _ => true) true Tryz.f3.params.toList args.toList ds p := hA0
  rw [Tryz.params3] at hA hval
  obtain ⟨v0, v1, v2, v3, d0, d1, d2, d3, p0, p1, p2, p3, rfl, rfl, rfl, hx0, hx1, hx2, h0⟩ := trodAll_four hA
  obtain ⟨rfl, rfl⟩ := trodVars_none hV0
  obtain ⟨x, rfl, rfl, rfl, hw0⟩ := open_int Tryz.underlying3 (hval 0 3 v0 rfl rfl) hx0
  obtain ⟨y, rfl, rfl, rfl, hw1⟩ := open_int Tryz.underlying3 (hval 1 3 v1 rfl rfl) hx1
  obtain ⟨z, rfl, rfl, rfl, hw2⟩ := open_int Tryz.underlying3 (hval 2 3 v2 rfl rfl) hx2
  have hb0 := (Lit.wf_int_iff .i64 x).1 hw0
  have hb1 : -9223372036854775808 ≤ x := hb0.1
  have hb2 : x < 9223372036854775808 := by have h := hb0.2; change x ≤ 9223372036854775807 at h; omega
  obtain ⟨a0, len, cap, rfl⟩ := okWide_slice Tryz.underlying22 (hval 3 22 v3 rfl rfl)
  simp only [List.nil_append, List.append_nil] at hW'
  have hlt : ∀ x ∈ p3, x.block < V.heap.size := fun x hx => hW'.lt x (by simpa using hx)
  obtain ⟨fuel, hf⟩ := h0
  clear hA0 hV0 hval0
  have e1 : Rows.tenantPollsSpec.fn H ([.lit (.int .i64 x), .lit (.int .i64 y), .lit (.int .i64 z), d3] ++ []) = { results := [.lit (.bool true)], args := [.lit (.int .i64 x), .lit (.int .i64 y), .lit (.int .i64 z), d3] } := rfl
  rcases open_ints Tryz.underlying22 Tryz.underlying3 cells3 hf with ⟨hcs, hx⟩ | ⟨a, len', cap', zs, hcs, hb, hl, hm, hz, hx, hcell, hwz⟩
  · simp [Value.cells] at hcs
    obtain ⟨rfl, rfl, rfl⟩ := hcs
    simp only [Prod.mk.injEq] at hx
    obtain ⟨rfl, rfl⟩ := hx
    refine (run_none hb1 hb2 none 0 V).mono fun e V' h => ?_
    obtain ⟨he, hfr⟩ := h
    refine ⟨_, he, _, _, _, [], [], [], hW', ?_, ?_, ?_, hfr.kept _, fun h => by cases h⟩
    · rw [e1]; exact trodAll_mk1 (shut_bool Tryz.underlying4 _)
    · rw [e1]; exact trodAll_mk4 (shut_int Tryz.underlying3 hw0) (shut_int Tryz.underlying3 hw1) (shut_int Tryz.underlying3 hw2) (shut_slice_nil Tryz.underlying22)
    · rw [e1]; rfl
  · simp [Value.cells] at hcs
    obtain ⟨rfl, rfl, rfl⟩ := hcs
    simp only [Prod.mk.injEq] at hx
    obtain ⟨rfl, rfl⟩ := hx
    simp only [if_true] at hz
    have key : Calls Tryz.prog 3 #[.int .i64 x, .int .i64 y, .int .i64 z, .slice (some a) len cap] V fun e V' => e = .returned (.bool true) ∧ Fresh V V' := by
      by_cases h0 : len = 0
      · subst h0; exact run_none hb1 hb2 (some a) cap V
      · obtain ⟨b, off, rfl, hcell'⟩ := ints_at hcell (by omega)
        have hlen : (zs.take len).length = len := by rw [List.length_take]; omega
        have := run_some (y := y) (z := z) hb1 hb2 b off cap (zs.take len) (by omega) V (fun i n hi => by
          rw [List.getElem?_take] at hi
          split at hi
          · rename_i hil
            have h1 := hcell' i (by omega)
            rw [List.getD, hi] at h1
            exact h1
          · cases hi)
        rw [hlen] at this
        exact this
    refine key.mono fun e V' h => ?_
    obtain ⟨he, hfr⟩ := h
    refine ⟨_, he, _, _, _, [], MemPlace.row a zs.length, [], hW', ?_, ?_, ?_, hfr.kept _, fun h => by cases h⟩
    · rw [e1]; exact trodAll_mk1 (shut_bool Tryz.underlying4 _)
    · rw [e1]
      refine trodAll_mk4 (shut_int Tryz.underlying3 hw0) (shut_int Tryz.underlying3 hw1) (shut_int Tryz.underlying3 hw2) ⟨2, shut_ints 0 Tryz.underlying22 Tryz.underlying3 cells3 hb hl hm ?_ (fun i hi => Fresh_cell hfr (hcell i hi)) hwz⟩
      by_cases hp : 0 < zs.length
      · have : a.block < V.heap.size := by
          have hc := hcell 0 hp
          unfold World.cell? at hc
          cases hbb : V.heap[(a.add 0).block]? with
          | none => rw [hbb] at hc; simp at hc
          | some o => rw [← block_add a 0]; exact (Array.getElem?_eq_some_iff.1 hbb).1
        simp [this, hz]
      · have : len = 0 := by omega
        split <;> omega
    · rw [e1]; rfl

theorem tenantPolls_row : Rows.TenantPollsSaid :=
  OpenClaim.holds_of_wide 3 Tryz.f3 rfl rfl rfl rfl rfl rfl rfl ⟨rfl, rfl, rfl, rfl, rfl⟩ rfl rfl rfl rfl rfl rowNamed Tryz.func3 rowFacts
    rowInst (by unfold Func.isWrapper; first | (rw [if_pos (by decide +kernel)]; kernel_rfl) | (rw [if_neg (by decide +kernel)]; exact ⟨rfl, rfl⟩))
    (fun os started H enc _ => lifted os started H enc)

theorem tenantPolls_holds : Rows.TenantPollsCardSaid :=
  Claim7.holds_tied_plain_at .later [] [.data, .data, .data, .sentinel, .sentinel, .widerDeep] true (true, "e5897cb358f52a994fa8f413dd2527918d4d2ba1f29f8e8822de7b92338986c0") true
    tenantPolls_row (fun _ h => by cases h) cardWf (fun _ h => by cases h) tenantPolls_row_tie rfl ⟨rfl, rfl⟩ cardMain rfl
    (fun f fn hf hfn => by
      obtain rfl : f = 3 := Option.some.inj (cardFunc.symm.trans hf) |>.symm
      obtain rfl : fn = Tryz.f3 := (Option.some.inj (Tryz.func3.symm.trans hfn)).symm
      exact ⟨cardLooks, fun j t ht => by
        rw [Tryz.params3] at ht
        have hm : t ∈ [3, 3, 3, 22] := by simpa using Array.mem_of_getElem? ht
        have hall : ([3, 3, 3, 22].all fun u => !Tryz.prog.wantsStandIn u) = true := by kernel_rfl
        exact (show Tryz.prog.wantsStandIn t = false by simpa using List.all_eq_true.1 hall t hm)⟩)
    cardGoes
end Go.Proofs.YtkpkmjanikkpoaaGreatDoor
