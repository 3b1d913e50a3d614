/-
  What is proved: the law RefreshNone returns true.
  Conditions: the package-level variable reliquary/digest.k holds, when the call begins, what the program's text lays there (tied by the card); what the law is handed may be anything.
-/
import Derived.Test.YtcboekjnibppdaaGreatDoorRows
import Derived.Test.YtcboekjnibppdaaGreatDoorCards
import Derived.Test.YtcboekjnibppdaaGreatDoorTie
import Derived.Test.YtcboekjnibppdaaGreatDoorRq44
import Derived.Test.YtcboekjnibppdaaGreatDoorRq31
import Derived.Test.YtcboekjnibppdaaGreatDoorRq49
import Derived.Test.YtcboekjnibppdaaGreatDoorRq09
import Derived.LaidMore
import Derived.OpenShut
import Derived.Stop.Joined
import Derived.SevenTiedAt
namespace Go.Proofs.YtcboekjnibppdaaGreatDoor
open Go Go.Rq Go.RowKit

theorem own : ownKnob Tryz.prog.godebug = none := by kernel_rfl
theorem laidOut : laidOutB Tryz.prog = true := by kernel_rfl
theorem door_met (os : Os) (args : Array Value) : laidMetH Tryz.prog Rows.refreshNoneRow.laid ((World.doorLaid Tryz.prog 400 os).forCall (fun _ _ => 0) ⟨#[], args, []⟩).memory :=
  laidMetH_of_parts3 (fuel := 8) (laidMet_of_run' 8 (by kernel_rfl) (by kernel_rfl)) (by kernel_rfl) (by kernel_rfl)
theorem calls {v0 : Value} {cs : Array Value} (hk : cs.size = 6) (w : World) (hg : GW w) : Calls Tryz.prog 12 #[v0, .agg cs] w (fun e w' => e = .returned (.bool true) ∧ Below w.heap.size w w') := by
  obtain ⟨r, ups, h1, h2⟩ := isYes_spec law_run
  exact call_act (P := PR) (b := true) law_ok h1 h2 (fun ρ => .cons (.any _) (.cons (any_cells hk) .nil)) hg
theorem spec_ok : LawSpec Rows.refreshNoneSpec 2 := ⟨rfl, fun H ds h => by
  match ds, h with
  | [d1, d2], _ => rfl⟩
set_option maxRecDepth 100000 in
theorem lifted (os : Os) (started : os.Started) (H : Type) (enc : TypeId × Value → H) :
    ReturnsInHanded {} Tryz.checked os 12 .any (fun w args => (Rows.refreshNoneSpec.pre enc Tryz.prog Tryz.f12 [] false w args ∧ laidMetH Tryz.prog Rows.refreshNoneRow.laid w) ∧ sizedMet enc Tryz.prog Tryz.f12 (OpenSpec.ofChange Rows.refreshNoneSpec) false w args)
      (Rows.refreshNoneSpec.post enc Tryz.prog Tryz.f12 false true false false) := by
  refine law_handed_and (C := Tryz.checked) (X := fun w _ => laidMetH Tryz.prog Rows.refreshNoneRow.laid w) (fun _ _ _ hh h => h.of_heap hh) own started (by kernel_rfl) Tryz.func12
    (ChangeSpec.witness_shaped (enc := enc) (C := Tryz.checked) (os := os) (X := fun w _ => laidMetH Tryz.prog Rows.refreshNoneRow.laid w) false (World.doorLaid Tryz.prog 400 os) #[.slice none 0 0, .agg #[.int .u64 0, .int .u64 0, .int .u64 0, .int .u64 0, .int .u64 0, .int .u64 0]] 8 rfl (World.shaped_of_RefB (by kernel_rfl) (by kernel_rfl)) (by kernel_rfl) (by kernel_rfl) (by kernel_rfl) (door_met os _))
    spec_ok rfl rfl (tb := 4) (by kernel_rfl) laidOut ?_ ?_
  · intro t ht
    have hm : t ∈ [22, 31] := ht
    rcases List.mem_cons.1 hm with rfl | hm
    · exact ⟨by kernel_rfl, of_decide_eq_true (by kernel_rfl)⟩
    · obtain rfl : t = 31 := by simpa using hm
      exact ⟨by kernel_rfl, of_decide_eq_true (by kernel_rfl)⟩
  · intro W base args ds p hok hA hX
    have h1 : DataW.TrodAll enc Tryz.prog W 0 (fun _ => true) true [22, 31] args.toList ds p := hA
    obtain ⟨v0, v1, d0, d1, p0, p1, e, _⟩ := ChangeShapes.trodAll_two h1
    have e' : args = #[v0, v1] := by first | exact e | (apply Array.ext'; simpa using e)
    subst e'
    have h2 := hok 1 31 v1 rfl rfl
    obtain ⟨cs, rfl, hsz⟩ := okWide_row (by kernel_rfl) h2
    exact calls (hsz.trans (by kernel_rfl)) W (gw_of_laid hX (by kernel_rfl))
theorem said : Rows.RefreshNoneSaid :=
  OpenClaim.holds_of_wide 12 Tryz.f12 rfl rfl rfl rfl rfl rfl rfl ⟨rfl, rfl, rfl, rfl, rfl⟩ rfl rfl rfl rfl rfl (by kernel_rfl) Tryz.func12 refreshNone_joined
    (of_decide_eq_true (by kernel_rfl)) (by unfold Func.isWrapper; first | (rw [if_pos (by decide +kernel)]; kernel_rfl) | (rw [if_neg (by decide +kernel)]; exact ⟨rfl, rfl⟩))
    (fun os started H enc _ => lifted os started H enc)
set_option maxRecDepth 100000 in
theorem goes : false = Rows.refreshNoneRow.goesBy Tryz.prog := by kernel_rfl
set_option maxRecDepth 100000 in
theorem wft : Rows.refreshNoneRow.wfByText (OpenSpec.ofChange Rows.refreshNoneSpec) = true := by kernel_rfl
set_option maxRecDepth 100000 in
theorem main_is : Tryz.prog.mainIs = some (true, "1457e77cd21a2be13daf9375e9a2fba42f0d276b7c2d5e8686e0756b0c0aa9c8".toList) := by kernel_rfl
set_option maxRecDepth 100000 in
theorem looks_not : false = Tryz.prog.looks [] := by kernel_rfl
theorem refreshNone_holds : Rows.RefreshNoneCardSaid :=
  Claim7.holds_tied_plain_at .later [] [.data] true (true, "1457e77cd21a2be13daf9375e9a2fba42f0d276b7c2d5e8686e0756b0c0aa9c8") false
    said (fun _ h => by cases h) wft (fun _ h => by cases h) refreshNone_row_tie rfl ⟨rfl, rfl⟩ main_is rfl
    (fun f fn hf hfn => by
      obtain rfl : f = 12 := Option.some.inj ((show Tryz.prog.funcNamed Rows.refreshNoneRow.func = some 12 by kernel_rfl).symm.trans hf) |>.symm
      obtain rfl : fn = Tryz.f12 := (Option.some.inj (Tryz.func12.symm.trans hfn)).symm
      exact ⟨looks_not, fun j t ht => by
        rw [show Tryz.f12.params = #[22, 31] from rfl] at ht
        have hm : t ∈ [22, 31] := by simpa using Array.mem_of_getElem? ht
        rcases List.mem_cons.1 hm with rfl | hm
        · exact (show Tryz.prog.wantsStandIn 22 = false by kernel_rfl)
        · obtain rfl : t = 31 := by simpa using hm
          exact (show Tryz.prog.wantsStandIn 31 = false by kernel_rfl)⟩)
    goes
#print axioms refreshNone_holds
end Go.Proofs.YtcboekjnibppdaaGreatDoor
