/-
  The law RoundKnown, which has no argument, returns true whatever memory and schedule: the staged reading of the program's code runs to its end in the kernel. Conditions: the row's own (the listed variables are tied by the given tie).
-/
import Derived.Test.YtolakgfoodndpaaGreatDoorRun
import Derived.Test.YtolakgfoodndpaaGreatDoorFacts
import Derived.Test.YtolakgfoodndpaaGreatDoorFactsB
import Derived.Test.YtolakgfoodndpaaGreatDoorGoes
import Derived.Test.YtolakgfoodndpaaGreatDoorRows
import Derived.Test.YtolakgfoodndpaaGreatDoorTie
import Derived.Test.YtolakgfoodndpaaGreatDoorCards
import Derived.ProofKit
import Derived.LaidMore
import Derived.OpenShut
import Derived.Stop.Joined
import Derived.SevenTiedAt
namespace Go.Proofs.YtolakgfoodndpaaGreatDoor
open Go Go.ChangeShapes Go.WideShapes Go.RowKit Go.Dt
theorem own : ownKnob Tryz.prog.godebug = none := by kernel_rfl
theorem door_met (os : Os) (args : Array Value) : laidMetH Tryz.prog Rows.roundKnownRow.laid ((World.doorLaid Tryz.prog 4000 os).forCall (fun _ _ => 0) ⟨#[], args, []⟩).memory :=
  laidMetH_of_parts3 (fuel := 8) (laidMet_of_run' 8 (by kernel_rfl) (by kernel_rfl)) (by kernel_rfl) (by kernel_rfl)
set_option maxRecDepth 100000 in
theorem lifted (os : Os) (started : os.Started) (H : Type) (enc : TypeId × Value → H) :
    ReturnsInHanded {} Tryz.checked os 3 .any (fun w args => (Rows.roundKnownSpec.pre enc Tryz.prog Tryz.f3 [] false w args ∧ laidMetH Tryz.prog Rows.roundKnownRow.laid w) ∧ sizedMet enc Tryz.prog Tryz.f3 (OpenSpec.ofChange Rows.roundKnownSpec) false w args)
      (Rows.roundKnownSpec.post enc Tryz.prog Tryz.f3 false true false false) := by
  refine returnsInHanded_of_change_and (C := Tryz.checked) (X := fun w _ => laidMetH Tryz.prog Rows.roundKnownRow.laid w) (fun _ _ _ hh h => h.of_heap hh) own started (by kernel_rfl) Tryz.func3
    (ChangeSpec.witness_shaped (enc := enc) (C := Tryz.checked) (os := os) (X := fun w _ => laidMetH Tryz.prog Rows.roundKnownRow.laid w) false (World.doorLaid Tryz.prog 4000 os) #[] 8 rfl (World.shaped_of_RefB (by kernel_rfl) (by kernel_rfl)) (by kernel_rfl) (by kernel_rfl) (by kernel_rfl) (door_met os _)) ?_
  intro W base args ds gs before _ hW _ _ _ _
  obtain ⟨p, q, hA0, hV, rfl, _, _⟩ := hW
  have hA : DataW.TrodAll enc Tryz.prog W 0 (fun _ => true) true Tryz.f3.params.toList args.toList ds p := hA0
  rw [Tryz.params3] at hA
  obtain ⟨rfl, rfl, rfl⟩ := trodAll_none hA
  obtain ⟨σ', hr⟩ := okT_spec run_root
  refine (run_calls tab_fits tab_memo run_mem (args := []) (fun _ _ => trivial) hr W).mono fun e W' h => ?_
  obtain ⟨he, hf⟩ := h
  exact ⟨_, he, post_closed rfl rfl (t := 4) (by kernel_rfl) rfl rfl hf⟩

theorem roundKnown_row : Rows.RoundKnownSaid :=
  OpenClaim.holds_of_wide 3 Tryz.f3 rfl rfl rfl rfl rfl rfl rfl ⟨rfl, rfl, rfl, rfl, rfl⟩ rfl rfl rfl rfl rfl rowNamed Tryz.func3 rowFacts
    rowInst (by unfold Func.isWrapper; first | (rw [if_pos (by decide +kernel)]; kernel_rfl) | (rw [if_neg (by decide +kernel)]; exact ⟨rfl, rfl⟩))
    (fun os started H enc _ => lifted os started H enc)

theorem roundKnown_holds : Rows.RoundKnownCardSaid :=
  Claim7.holds_tied_plain_at .later [] [.data, .data, .data, .sentinel, .sentinel, .widerDeep] true (true, "1f58381f1d73f8b7332baae14efae7165695a3adfc73a834d7c3085004c70b0a") true
    roundKnown_row (fun _ h => by cases h) cardWf (fun _ h => by cases h) roundKnown_row_tie rfl ⟨rfl, rfl⟩ cardMain rfl
    (fun f fn hf hfn => by
      obtain rfl : f = 3 := Option.some.inj (cardFunc.symm.trans hf) |>.symm
      obtain rfl : fn = Tryz.f3 := (Option.some.inj (Tryz.func3.symm.trans hfn)).symm
      exact ⟨cardLooks, fun j t ht => by rw [Tryz.params3] at ht; simp at ht⟩)
    cardGoes
end Go.Proofs.YtolakgfoodndpaaGreatDoor
