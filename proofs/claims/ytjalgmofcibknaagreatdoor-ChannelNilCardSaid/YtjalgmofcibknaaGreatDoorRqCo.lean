/-
  What is proved: for every two lists of bytes the law ChannelNil returns true, and both lists read afterwards as they read before.
  Conditions: the package-level variable reliquary/digest.k holds, when the call begins, what the program's text lays there (tied by the card); the arguments may share memory.
-/
import Derived.Test.YtjalgmofcibknaaGreatDoorRows
import Derived.Test.YtjalgmofcibknaaGreatDoorCards
import Derived.Test.YtjalgmofcibknaaGreatDoorTie
import Derived.Test.YtjalgmofcibknaaGreatDoorRqCn
import Derived.Test.YtjalgmofcibknaaGreatDoorRqW
import Derived.LaidMore
import Derived.OpenShut
import Derived.Stop.Joined
import Derived.SevenTiedAt
namespace Go.Proofs.YtjalgmofcibknaaGreatDoor
open Go Go.Rq Go.RowKit

theorem own : ownKnob Tryz.prog.godebug = none := by kernel_rfl
theorem laidOut : laidOutB Tryz.prog = true := by kernel_rfl

/-- The door's own heap meets the condition. -/
theorem door_met (os : Os) (args : Array Value) : laidMetH Tryz.prog Rows.channelNilRow.laid ((World.doorLaid Tryz.prog 400 os).forCall (fun _ _ => 0) ⟨#[], args, []⟩).memory :=
  laidMetH_of_parts3 (fuel := 8) (laidMet_of_run' 8 (by kernel_rfl) (by kernel_rfl)) (by kernel_rfl) (by kernel_rfl)

theorem calls {xs : Array Value} (hk : xs.size = 2) (w : World) : Calls Tryz.prog 3 xs w (fun e w' => e = .returned (.bool true) ∧ Below w.heap.size w w') :=
  any_calls c3 (k := 2) (y := .bool true) (Tree.holds_strict (by rw [show List.replicate 2 AV.any = [.any, .any] from rfl, c3_run]; rfl)) hk w

theorem spec_ok : LawSpec Rows.channelNilSpec 2 := ⟨rfl, fun H ds h => by
  match ds, h with
  | [d1, d2], _ => rfl⟩

set_option maxRecDepth 100000 in
theorem lifted (os : Os) (started : os.Started) (H : Type) (enc : TypeId × Value → H) :
    ReturnsInHanded {} Tryz.checked os 3 .any (fun w args => (Rows.channelNilSpec.pre enc Tryz.prog Tryz.f3 [] false w args ∧ laidMetH Tryz.prog Rows.channelNilRow.laid w) ∧ sizedMet enc Tryz.prog Tryz.f3 (OpenSpec.ofChange Rows.channelNilSpec) false w args)
      (Rows.channelNilSpec.post enc Tryz.prog Tryz.f3 false true false false) := by
  refine law_handed_and (C := Tryz.checked) (X := fun w _ => laidMetH Tryz.prog Rows.channelNilRow.laid w) (fun _ _ _ hh h => h.of_heap hh) own started (by kernel_rfl) Tryz.func3
    (ChangeSpec.witness_shaped (enc := enc) (C := Tryz.checked) (os := os) (X := fun w _ => laidMetH Tryz.prog Rows.channelNilRow.laid w) false (World.doorLaid Tryz.prog 400 os) #[.slice none 0 0, .slice none 0 0] 8 rfl (World.shaped_of_RefB (by kernel_rfl) (by kernel_rfl)) (by kernel_rfl) (by kernel_rfl) (by kernel_rfl) (door_met os _))
    spec_ok rfl rfl Tryz.underlying4 laidOut ?_ ?_
  · intro t ht
    have h22 : t = 22 := by
      have : t ∈ [22, 22] := ht
      simpa using this
    subst h22
    exact ⟨by kernel_rfl, of_decide_eq_true (by kernel_rfl)⟩
  · intro W base args ds p _ hA _
    exact calls (by
      have h1 : DataW.TrodAll enc Tryz.prog W 0 (fun _ => true) true [22, 22] args.toList ds p := hA
      obtain ⟨v0, v1, d0, d1, p0, p1, rfl, _⟩ := ChangeShapes.trodAll_two h1
      rfl) W

theorem said : Rows.ChannelNilSaid :=
  OpenClaim.holds_of_wide 3 Tryz.f3 rfl rfl rfl rfl rfl rfl rfl ⟨rfl, rfl, rfl, rfl, rfl⟩ rfl rfl rfl rfl rfl (by kernel_rfl) Tryz.func3 (by kernel_rfl)
    (of_decide_eq_true (by kernel_rfl)) (by unfold Func.isWrapper; first | (rw [if_pos (by decide +kernel)]; kernel_rfl) | (rw [if_neg (by decide +kernel)]; exact ⟨rfl, rfl⟩))
    (fun os started H enc _ => lifted os started H enc)

theorem channelNil_holds : Rows.ChannelNilCardSaid :=
  Claim7.holds_tied_plain_at .later [] [.data] true (true, "333927c97c85738be867beae7357b54d1c68f38ccb5f174491bdf3ec89b1fa5f") false
    said (fun _ h => by cases h) (by kernel_rfl) (fun _ h => by cases h) channelNil_row_tie rfl ⟨rfl, rfl⟩ (by kernel_rfl) rfl
    (fun f fn hf hfn => by
      obtain rfl : f = 3 := Option.some.inj ((show Tryz.prog.funcNamed "reliquary/reliquarylaw16.ChannelNil" = some 3 by kernel_rfl).symm.trans hf) |>.symm
      obtain rfl : fn = Tryz.f3 := (Option.some.inj (Tryz.func3.symm.trans hfn)).symm
      exact ⟨by kernel_rfl, fun j t ht => by
        rw [Tryz.params3] at ht
        have hm : t ∈ [22, 22] := by simpa using Array.mem_of_getElem? ht
        have h22 : t = 22 := by simpa using hm
        subst h22
        exact (show Tryz.prog.wantsStandIn 22 = false by kernel_rfl)⟩)
    (by kernel_rfl)
#print axioms channelNil_holds
end Go.Proofs.YtjalgmofcibknaaGreatDoor
