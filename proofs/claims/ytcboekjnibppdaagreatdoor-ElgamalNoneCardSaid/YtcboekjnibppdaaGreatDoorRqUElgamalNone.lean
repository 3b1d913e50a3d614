/-
  What is proved: the law ElgamalNone returns true.
  Conditions: the package-level variable reliquary/digest.k holds, when the call begins, what the program's text lays there (tied by the card); what the law is handed may be anything.
-/
import Derived.Test.YtcboekjnibppdaaGreatDoorRows
import Derived.Test.YtcboekjnibppdaaGreatDoorCards
import Derived.Test.YtcboekjnibppdaaGreatDoorTie
import Derived.Test.YtcboekjnibppdaaGreatDoorRq47
import Derived.Test.YtcboekjnibppdaaGreatDoorRq31
import Derived.Test.YtcboekjnibppdaaGreatDoorRq52
import Derived.Test.YtcboekjnibppdaaGreatDoorRq09
import Derived.LaidMore
import Derived.OpenShut
import Derived.Stop.Joined
import Derived.SevenTiedAt
namespace Go.Proofs.YtcboekjnibppdaaGreatDoor
open Go Go.Rq Go.RowKit

theorem own : ownKnob Tryz.prog.godebug = none := by kernel_rfl
theorem laidOut : laidOutB Tryz.prog = true := by kernel_rfl
theorem door_met (os : Os) (args : Array Value) : laidMetH Tryz.prog Rows.elgamalNoneRow.laid ((World.doorLaid Tryz.prog 400 os).forCall (fun _ _ => 0) ⟨#[], args, []⟩).memory :=
  laidMetH_of_parts3 (fuel := 8) (laidMet_of_run' 8 (by kernel_rfl) (by kernel_rfl)) (by kernel_rfl) (by kernel_rfl)
theorem calls {v0 : Value} {cs : Array Value} (hk : cs.size = 17) (w : World) (hg : GW w) : Calls Tryz.prog 7 #[v0, .agg cs] w (fun e w' => e = .returned (.bool true) ∧ Below w.heap.size w w') := by
  obtain ⟨r, ups, h1, h2⟩ := isYes_spec law_run
  exact call_act (P := PR) (b := true) law_ok h1 h2 (fun ρ => .cons (.any _) (.cons (any_cells hk) .nil)) hg
theorem spec_ok : LawSpec Rows.elgamalNoneSpec 2 := ⟨rfl, fun H ds h => by
  match ds, h with
  | [d1, d2], _ => rfl⟩
set_option maxRecDepth 100000 in
theorem lifted (os : Os) (started : os.Started) (H : Type) (enc : TypeId × Value → H) :
    ReturnsInHanded {} Tryz.checked os 7 .any (fun w args => (Rows.elgamalNoneSpec.pre enc Tryz.prog Tryz.f7 [] false w args ∧ laidMetH Tryz.prog Rows.elgamalNoneRow.laid w) ∧ sizedMet enc Tryz.prog Tryz.f7 (OpenSpec.ofChange Rows.elgamalNoneSpec) false w args)
      (Rows.elgamalNoneSpec.post enc Tryz.prog Tryz.f7 false true false false) := by
  refine law_handed_and (C := Tryz.checked) (X := fun w _ => laidMetH Tryz.prog Rows.elgamalNoneRow.laid w) (fun _ _ _ hh h => h.of_heap hh) own started (by kernel_rfl) Tryz.func7
    (ChangeSpec.witness_shaped (enc := enc) (C := Tryz.checked) (os := os) (X := fun w _ => laidMetH Tryz.prog Rows.elgamalNoneRow.laid w) false (World.doorLaid Tryz.prog 400 os) #[.int .i64 0, .agg #[.int .i64 0, .int .u64 0, .int .u64 0, .int .u64 0, .int .u64 0, .int .u64 0, .int .u64 0, .int .u64 0, .int .u64 0, .int .u64 0, .int .u64 0, .int .u64 0, .int .u64 0, .bool false, .int .u64 0, .int .u64 0, .bool false]] 8 rfl (World.shaped_of_RefB (by kernel_rfl) (by kernel_rfl)) (by kernel_rfl) (by kernel_rfl) (by kernel_rfl) (door_met os _))
    spec_ok rfl rfl (tb := 4) (by kernel_rfl) laidOut ?_ ?_
  · intro t ht
    have hm : t ∈ [3, 37] := ht
    rcases List.mem_cons.1 hm with rfl | hm
    · exact ⟨by kernel_rfl, of_decide_eq_true (by kernel_rfl)⟩
    · obtain rfl : t = 37 := by simpa using hm
      exact ⟨by kernel_rfl, of_decide_eq_true (by kernel_rfl)⟩
  · intro W base args ds p hok hA hX
    have h1 : DataW.TrodAll enc Tryz.prog W 0 (fun _ => true) true [3, 37] args.toList ds p := hA
    obtain ⟨v0, v1, d0, d1, p0, p1, e, _⟩ := ChangeShapes.trodAll_two h1
    have e' : args = #[v0, v1] := by first | exact e | (apply Array.ext'; simpa using e)
    subst e'
    have h2 := hok 1 37 v1 rfl rfl
    obtain ⟨cs, rfl, hsz⟩ := okWide_row (by kernel_rfl) h2
    exact calls (hsz.trans (by kernel_rfl)) W (gw_of_laid hX (by kernel_rfl))
theorem said : Rows.ElgamalNoneSaid :=
  OpenClaim.holds_of_wide 7 Tryz.f7 rfl rfl rfl rfl rfl rfl rfl ⟨rfl, rfl, rfl, rfl, rfl⟩ rfl rfl rfl rfl rfl (by kernel_rfl) Tryz.func7 elgamalNone_joined
    (of_decide_eq_true (by kernel_rfl)) (by unfold Func.isWrapper; first | (rw [if_pos (by decide +kernel)]; kernel_rfl) | (rw [if_neg (by decide +kernel)]; exact ⟨rfl, rfl⟩))
    (fun os started H enc _ => lifted os started H enc)
set_option maxRecDepth 100000 in
theorem goes : false = Rows.elgamalNoneRow.goesBy Tryz.prog := by kernel_rfl
set_option maxRecDepth 100000 in
theorem wft : Rows.elgamalNoneRow.wfByText (OpenSpec.ofChange Rows.elgamalNoneSpec) = true := by kernel_rfl
set_option maxRecDepth 100000 in
theorem main_is : Tryz.prog.mainIs = some (true, "1457e77cd21a2be13daf9375e9a2fba42f0d276b7c2d5e8686e0756b0c0aa9c8".toList) := by kernel_rfl
set_option maxRecDepth 100000 in
theorem looks_not : false = Tryz.prog.looks [] := by kernel_rfl
theorem elgamalNone_holds : Rows.ElgamalNoneCardSaid :=
  Claim7.holds_tied_plain_at .later [] [.data] true (true, "1457e77cd21a2be13daf9375e9a2fba42f0d276b7c2d5e8686e0756b0c0aa9c8") false
    said (fun _ h => by cases h) wft (fun _ h => by cases h) elgamalNone_row_tie rfl ⟨rfl, rfl⟩ main_is rfl
    (fun f fn hf hfn => by
      obtain rfl : f = 7 := Option.some.inj ((show Tryz.prog.funcNamed Rows.elgamalNoneRow.func = some 7 by kernel_rfl).symm.trans hf) |>.symm
      obtain rfl : fn = Tryz.f7 := (Option.some.inj (Tryz.func7.symm.trans hfn)).symm
      exact ⟨looks_not, fun j t ht => by
        rw [show Tryz.f7.params = #[3, 37] from rfl] at ht
        have hm : t ∈ [3, 37] := by simpa using Array.mem_of_getElem? ht
        rcases List.mem_cons.1 hm with rfl | hm
        · exact (show Tryz.prog.wantsStandIn 3 = false by kernel_rfl)
        · obtain rfl : t = 37 := by simpa using hm
          exact (show Tryz.prog.wantsStandIn 37 = false by kernel_rfl)⟩)
    goes
#print axioms elgamalNone_holds
end Go.Proofs.YtcboekjnibppdaaGreatDoor
