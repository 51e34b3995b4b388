/-
  The law RunReads: whatever the text, the call returns true and leaves what it was given. Conditions: the row's own (the listed variables are tied by the given tie).
-/
import Derived.Test.YtahgmmbmmcaejaaGreatDoorP24
import Derived.Test.YtahgmmbmmcaejaaGreatDoorFacts
import Derived.Test.YtahgmmbmmcaejaaGreatDoorFactsB
import Derived.Test.YtahgmmbmmcaejaaGreatDoorGoes
import Derived.Test.YtahgmmbmmcaejaaGreatDoorRows
import Derived.Test.YtahgmmbmmcaejaaGreatDoorTie
import Derived.Test.YtahgmmbmmcaejaaGreatDoorCards
import Derived.ProofKit
import Derived.LaidMore
import Derived.Lay
import Derived.LaidOnce
import Derived.OpenShut
import Derived.Stop.Joined
import Derived.SevenTiedAt
namespace Go.Proofs.YtahgmmbmmcaejaaGreatDoor
open Go Go.ChangeShapes Go.WideShapes Go.RowKit Go.Dt
open Go.ChangeMaps (open_string shut_string)
theorem own : ownKnob Tryz.prog.godebug = none := by kernel_rfl
theorem run_str (l : List UInt8) (V : World) :
    Calls Tryz.prog 3 #[.string ⟨⟨l⟩⟩] V fun e V' => e = .returned (.bool true) ∧ Fresh V V' := by
  have hwf : WF (freshSt tab M0) := by
    constructor <;> simp [freshSt, replGone_length]
  obtain ⟨σ', hr⟩ := W3 l (freshSt tab M0) hwf rfl
  obtain ⟨n, h1⟩ := callW_ok.1 hr
  have h2 := (fns_ok tab_fits tab_memo n).call _ _ _ _ _ h1 iota0 V (rep0 tab V M0_ok) ⟨trivial, trivial⟩
  intro cs
  obtain ⟨e, V', fr, ⟨ι', rfl, _, E, _⟩, hc, hl⟩ := h2 cs
  exact ⟨_, V', fr, ⟨rfl, E.fresh fun b _ => by rw [fresh_gone]; rfl⟩, hc, hl⟩
set_option maxRecDepth 100000 in
theorem lifted (os : Os) (started : os.Started) (H : Type) (enc : TypeId × Value → H) :
    ReturnsInHanded {} Tryz.checked os 3 .any (fun w args => (Rows.runReadsSpec.pre enc Tryz.prog Tryz.f3 [] false w args ∧ laidMetH Tryz.prog Rows.runReadsRow.laid w) ∧ sizedMet enc Tryz.prog Tryz.f3 (OpenSpec.ofChange Rows.runReadsSpec) false w args)
      (Rows.runReadsSpec.post enc Tryz.prog Tryz.f3 false true false false) := by
  refine returnsInHanded_of_change_and (C := Tryz.checked) (X := fun w _ => laidMetH Tryz.prog Rows.runReadsRow.laid w) (fun _ _ _ hh h => h.of_heap hh) own started (by kernel_rfl) Tryz.func3
    (ChangeSpec.witness_shaped (enc := enc) (C := Tryz.checked) (os := os) (X := fun w _ => laidMetH Tryz.prog Rows.runReadsRow.laid w) false (World.laidAll Tryz.prog os Rows.runReadsRow.laid) #[.string ⟨#[]⟩] 8 (World.laidAll_os _ _ _)
      (World.shaped_of_ZipB (by kernel_rfl) (by kernel_rfl)) (by kernel_rfl) (by kernel_rfl) (by kernel_rfl)
      (by rw [MakeChecks.laidMetH_plain _ _ _ (by kernel_rfl)]; exact laidMet_laidAll _ (by kernel_rfl) (by kernel_rfl))) ?_
  intro V base args ds gs before hval0 hW _ _ _ _
  have hval : ∀ (j : Nat) t v, Tryz.f3.params[j]? = some t → args[j]? = some v → Value.okWide Tryz.prog V .any base t v := hval0
  have hW' := hW
  obtain ⟨p, q, hA0, hV0, rfl, _, _⟩ := hW
  have hA : DataW.TrodAll enc Tryz.prog V 0 (fun _ => true) true Tryz.f3.params.toList args.toList ds p := hA0
  rw [Tryz.params3] at hA hval
  obtain ⟨v0, d0, rfl, rfl, h0⟩ := trodAll_one hA
  obtain ⟨rfl, rfl⟩ := trodVars_none hV0
  obtain ⟨s, rfl, rfl, rfl, ws⟩ := open_string Tryz.underlying9 (hval 0 9 v0 rfl rfl) h0
  clear hA0 hV0 hval0
  obtain ⟨⟨l⟩⟩ := s
  refine (run_str l V).mono fun e V' h => ?_
  obtain ⟨he, hf⟩ := h
  have e1 : Rows.runReadsSpec.fn H ([.lit (.string l)] ++ []) = { results := [.lit (.bool true)], args := [.lit (.string l)] } := rfl
  refine ⟨_, he, _, _, _, [], [], [], hW', ?_, ?_, ?_, hf.kept _, fun h => by cases h⟩
  · rw [e1]; exact trodAll_mk1 (shut_bool Tryz.underlying4 _)
  · rw [e1]; exact trodAll_mk1 (shut_string Tryz.underlying9 ws)
  · rw [e1]; rfl

theorem runReads_row : Rows.RunReadsSaid :=
  OpenClaim.holds_of_wide 3 Tryz.f3 rfl rfl rfl rfl rfl rfl rfl ⟨rfl, rfl, rfl, rfl, rfl⟩ rfl rfl rfl rfl rfl rowNamed Tryz.func3 rowFacts
    rowInst (by unfold Func.isWrapper; first | (rw [if_pos (by decide +kernel)]; kernel_rfl) | (rw [if_neg (by decide +kernel)]; exact ⟨rfl, rfl⟩))
    (fun os started H enc _ => lifted os started H enc)

theorem runReads_holds : Rows.RunReadsCardSaid :=
  Claim7.holds_tied_plain_at .later [] [.data, .pinned] true (true, "afd62e6d55ab5d1ab8675fce8aa694ffa5e36712b35e351973498b1bd4750819") true
    runReads_row (fun _ h => by cases h) cardWf (fun _ h => by cases h) runReads_row_tie rfl ⟨rfl, rfl⟩ cardMain rfl
    (fun f fn hf hfn => by
      obtain rfl : f = 3 := Option.some.inj (cardFunc.symm.trans hf) |>.symm
      obtain rfl : fn = Tryz.f3 := (Option.some.inj (Tryz.func3.symm.trans hfn)).symm
      exact ⟨cardLooks, fun j t ht => by
        rw [Tryz.params3] at ht
        have hm : t ∈ [9] := by simpa using Array.mem_of_getElem? ht
        have hall : ([9].all fun u => !Tryz.prog.wantsStandIn u) = true := by kernel_rfl
        exact (show Tryz.prog.wantsStandIn t = false by simpa using List.all_eq_true.1 hall t hm)⟩)
    cardGoes
end Go.Proofs.YtahgmmbmmcaejaaGreatDoor
