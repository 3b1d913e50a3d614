/-
  What is proved: the law ChannelKnown returns true.
  Conditions: the package-level variable reliquary/digest.k holds, when the call begins, what the program's text lays there (tied by the card); the law has no arguments.
-/
import Derived.Test.YtbamkkbefjgeoaaGreatDoorRows
import Derived.Test.YtbamkkbefjgeoaaGreatDoorCards
import Derived.Test.YtbamkkbefjgeoaaGreatDoorTie
import Derived.Test.YtbamkkbefjgeoaaGreatDoorRq44
import Derived.Test.YtbamkkbefjgeoaaGreatDoorRq49
import Derived.Test.YtbamkkbefjgeoaaGreatDoorRq09
import Derived.LaidMore
import Derived.OpenShut
import Derived.Stop.Joined
import Derived.SevenTiedAt
namespace Go.Proofs.YtbamkkbefjgeoaaGreatDoor
open Go Go.Rq Go.RowKit

theorem own : ownKnob Tryz.prog.godebug = none := by kernel_rfl
theorem laidOut : laidOutB Tryz.prog = true := by kernel_rfl
theorem door_met (os : Os) (args : Array Value) : laidMetH Tryz.prog Rows.channelKnownRow.laid ((World.doorLaid Tryz.prog 400 os).forCall (fun _ _ => 0) ⟨#[], args, []⟩).memory :=
  laidMetH_of_parts3 (fuel := 8) (laidMet_of_run' 8 (by kernel_rfl) (by kernel_rfl)) (by kernel_rfl) (by kernel_rfl)
theorem calls {xs : Array Value} (hk : xs.size = 0) (w : World) (hg : GW w) : Calls Tryz.prog 5 xs w (fun e w' => e = .returned (.bool true) ∧ Below w.heap.size w w') := by
  have h0 : xs = #[] := Array.eq_empty_of_size_eq_zero hk
  subst h0
  exact call_pure (P := Go.Rq.PR) (b := true) Go.Rq.Cl.law_pure Go.Rq.Cl.law_run rfl (fun ρ => Rvs.nil) hg
theorem spec_ok : LawSpec Rows.channelKnownSpec 0 := ⟨rfl, fun H ds h => by
  match ds, h with
  | [], _ => rfl⟩
set_option maxRecDepth 100000 in
theorem lifted (os : Os) (started : os.Started) (H : Type) (enc : TypeId × Value → H) :
    ReturnsInHanded {} Tryz.checked os 5 .any (fun w args => (Rows.channelKnownSpec.pre enc Tryz.prog Tryz.f5 [] false w args ∧ laidMetH Tryz.prog Rows.channelKnownRow.laid w) ∧ sizedMet enc Tryz.prog Tryz.f5 (OpenSpec.ofChange Rows.channelKnownSpec) false w args)
      (Rows.channelKnownSpec.post enc Tryz.prog Tryz.f5 false true false false) := by
  refine law_handed_and (C := Tryz.checked) (X := fun w _ => laidMetH Tryz.prog Rows.channelKnownRow.laid w) (fun _ _ _ hh h => h.of_heap hh) own started (by kernel_rfl) Tryz.func5
    (ChangeSpec.witness_shaped (enc := enc) (C := Tryz.checked) (os := os) (X := fun w _ => laidMetH Tryz.prog Rows.channelKnownRow.laid w) false (World.doorLaid Tryz.prog 400 os) #[] 8 rfl (World.shaped_of_RefB (by kernel_rfl) (by kernel_rfl)) (by kernel_rfl) (by kernel_rfl) (by kernel_rfl) (door_met os _))
    spec_ok rfl rfl (tb := 4) (by kernel_rfl) laidOut (fun t ht => absurd ht (by simp)) ?_
  intro W base args ds p _ hA hX
  refine calls ?_ W (Go.Rq.Cl.gw_of_laid hX (by kernel_rfl))
  have h1 : DataW.TrodAll enc Tryz.prog W 0 (fun _ => true) true [] args.toList ds p := hA
  obtain ⟨rfl, _⟩ := ChangeShapes.trodAll_none h1
  rfl
theorem said : Rows.ChannelKnownSaid :=
  OpenClaim.holds_of_wide 5 Tryz.f5 rfl rfl rfl rfl rfl rfl rfl ⟨rfl, rfl, rfl, rfl, rfl⟩ rfl rfl rfl rfl rfl (by kernel_rfl) Tryz.func5 channelKnown_joined
    (of_decide_eq_true (by kernel_rfl)) (by unfold Func.isWrapper; first | (rw [if_pos (by decide +kernel)]; kernel_rfl) | (rw [if_neg (by decide +kernel)]; exact ⟨rfl, rfl⟩))
    (fun os started H enc _ => lifted os started H enc)
set_option maxRecDepth 100000 in
theorem goes : false = Rows.channelKnownRow.goesBy Tryz.prog := by kernel_rfl
set_option maxRecDepth 100000 in
theorem wft : Rows.channelKnownRow.wfByText (OpenSpec.ofChange Rows.channelKnownSpec) = true := by kernel_rfl
set_option maxRecDepth 100000 in
theorem main_is : Tryz.prog.mainIs = some (true, "e11365304b574ec11bc9ee3e7437e0ea3362448cb3e060e6d6b7e9938565546e".toList) := by kernel_rfl
set_option maxRecDepth 100000 in
theorem looks_not : false = Tryz.prog.looks [] := by kernel_rfl
theorem channelKnown_holds : Rows.ChannelKnownCardSaid :=
  Claim7.holds_tied_plain_at .later [] [.data] true (true, "e11365304b574ec11bc9ee3e7437e0ea3362448cb3e060e6d6b7e9938565546e") false
    said (fun _ h => by cases h) wft (fun _ h => by cases h) channelKnown_row_tie rfl ⟨rfl, rfl⟩ main_is rfl
    (fun f fn hf hfn => by
      obtain rfl : f = 5 := Option.some.inj ((show Tryz.prog.funcNamed Rows.channelKnownRow.func = some 5 by kernel_rfl).symm.trans hf) |>.symm
      obtain rfl : fn = Tryz.f5 := (Option.some.inj (Tryz.func5.symm.trans hfn)).symm
      exact ⟨looks_not, fun j t ht => by
        have hp : Tryz.f5.params = #[] := rfl
        rw [hp] at ht
        simp at ht⟩)
    goes
#print axioms channelKnown_holds
end Go.Proofs.YtbamkkbefjgeoaaGreatDoor
