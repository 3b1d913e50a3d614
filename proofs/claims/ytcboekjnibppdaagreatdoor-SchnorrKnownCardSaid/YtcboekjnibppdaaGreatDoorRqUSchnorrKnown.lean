/-
  What is proved: the law SchnorrKnown returns true.
  Conditions: the package-level variable reliquary/digest.k holds, when the call begins, what the program's text lays there (tied by the card); the law has no arguments.
-/
import Derived.Test.YtcboekjnibppdaaGreatDoorRows
import Derived.Test.YtcboekjnibppdaaGreatDoorCards
import Derived.Test.YtcboekjnibppdaaGreatDoorTie
import Derived.Test.YtcboekjnibppdaaGreatDoorRq36
import Derived.Test.YtcboekjnibppdaaGreatDoorRq31
import Derived.Test.YtcboekjnibppdaaGreatDoorRq41
import Derived.Test.YtcboekjnibppdaaGreatDoorRq09
import Derived.LaidMore
import Derived.OpenShut
import Derived.Stop.Joined
import Derived.SevenTiedAt
namespace Go.Proofs.YtcboekjnibppdaaGreatDoor
open Go Go.Rq Go.RowKit

theorem own : ownKnob Tryz.prog.godebug = none := by kernel_rfl
theorem laidOut : laidOutB Tryz.prog = true := by kernel_rfl
theorem door_met (os : Os) (args : Array Value) : laidMetH Tryz.prog Rows.schnorrKnownRow.laid ((World.doorLaid Tryz.prog 400 os).forCall (fun _ _ => 0) ⟨#[], args, []⟩).memory :=
  laidMetH_of_parts3 (fuel := 8) (laidMet_of_run' 8 (by kernel_rfl) (by kernel_rfl)) (by kernel_rfl) (by kernel_rfl)
theorem calls {xs : Array Value} (hk : xs.size = 0) (w : World) (hg : GW w) : Calls Tryz.prog 6 xs w (fun e w' => e = .returned (.bool true) ∧ Below w.heap.size w w') := by
  have h0 : xs = #[] := Array.eq_empty_of_size_eq_zero hk
  subst h0
  exact call_pure (P := PR) (b := true) law_pure law_run rfl (fun ρ => Rvs.nil) hg
theorem spec_ok : LawSpec Rows.schnorrKnownSpec 0 := ⟨rfl, fun H ds h => by
  match ds, h with
  | [], _ => rfl⟩
set_option maxRecDepth 100000 in
theorem lifted (os : Os) (started : os.Started) (H : Type) (enc : TypeId × Value → H) :
    ReturnsInHanded {} Tryz.checked os 6 .any (fun w args => (Rows.schnorrKnownSpec.pre enc Tryz.prog Tryz.f6 [] false w args ∧ laidMetH Tryz.prog Rows.schnorrKnownRow.laid w) ∧ sizedMet enc Tryz.prog Tryz.f6 (OpenSpec.ofChange Rows.schnorrKnownSpec) false w args)
      (Rows.schnorrKnownSpec.post enc Tryz.prog Tryz.f6 false true false false) := by
  refine law_handed_and (C := Tryz.checked) (X := fun w _ => laidMetH Tryz.prog Rows.schnorrKnownRow.laid w) (fun _ _ _ hh h => h.of_heap hh) own started (by kernel_rfl) Tryz.func6
    (ChangeSpec.witness_shaped (enc := enc) (C := Tryz.checked) (os := os) (X := fun w _ => laidMetH Tryz.prog Rows.schnorrKnownRow.laid w) false (World.doorLaid Tryz.prog 400 os) #[] 8 rfl (World.shaped_of_RefB (by kernel_rfl) (by kernel_rfl)) (by kernel_rfl) (by kernel_rfl) (by kernel_rfl) (door_met os _))
    spec_ok rfl rfl (tb := 4) (by kernel_rfl) laidOut (fun t ht => absurd ht (by simp)) ?_
  intro W base args ds p _ hA hX
  refine calls ?_ W (gw_of_laid hX (by kernel_rfl))
  have h1 : DataW.TrodAll enc Tryz.prog W 0 (fun _ => true) true [] args.toList ds p := hA
  obtain ⟨rfl, _⟩ := ChangeShapes.trodAll_none h1
  rfl
theorem said : Rows.SchnorrKnownSaid :=
  OpenClaim.holds_of_wide 6 Tryz.f6 rfl rfl rfl rfl rfl rfl rfl ⟨rfl, rfl, rfl, rfl, rfl⟩ rfl rfl rfl rfl rfl (by kernel_rfl) Tryz.func6 schnorrKnown_joined
    (of_decide_eq_true (by kernel_rfl)) (by unfold Func.isWrapper; first | (rw [if_pos (by decide +kernel)]; kernel_rfl) | (rw [if_neg (by decide +kernel)]; exact ⟨rfl, rfl⟩))
    (fun os started H enc _ => lifted os started H enc)
set_option maxRecDepth 100000 in
theorem goes : false = Rows.schnorrKnownRow.goesBy Tryz.prog := by kernel_rfl
set_option maxRecDepth 100000 in
theorem wft : Rows.schnorrKnownRow.wfByText (OpenSpec.ofChange Rows.schnorrKnownSpec) = true := by kernel_rfl
set_option maxRecDepth 100000 in
theorem main_is : Tryz.prog.mainIs = some (true, "1457e77cd21a2be13daf9375e9a2fba42f0d276b7c2d5e8686e0756b0c0aa9c8".toList) := by kernel_rfl
set_option maxRecDepth 100000 in
theorem looks_not : false = Tryz.prog.looks [] := by kernel_rfl
theorem schnorrKnown_holds : Rows.SchnorrKnownCardSaid :=
  Claim7.holds_tied_plain_at .later [] [.data] true (true, "1457e77cd21a2be13daf9375e9a2fba42f0d276b7c2d5e8686e0756b0c0aa9c8") false
    said (fun _ h => by cases h) wft (fun _ h => by cases h) schnorrKnown_row_tie rfl ⟨rfl, rfl⟩ main_is rfl
    (fun f fn hf hfn => by
      obtain rfl : f = 6 := Option.some.inj ((show Tryz.prog.funcNamed Rows.schnorrKnownRow.func = some 6 by kernel_rfl).symm.trans hf) |>.symm
      obtain rfl : fn = Tryz.f6 := (Option.some.inj (Tryz.func6.symm.trans hfn)).symm
      exact ⟨looks_not, fun j t ht => by
        have hp : Tryz.f6.params = #[] := rfl
        rw [hp] at ht
        simp at ht⟩)
    goes
#print axioms schnorrKnown_holds
end Go.Proofs.YtcboekjnibppdaaGreatDoor
