/-
  What is proved: the law ProofExtracts returns true.
  Conditions: the package-level variable reliquary/digest.k holds, when the call begins, what the program's text lays there (tied by the card); what the law is handed may be anything.
-/
import Derived.Test.YtbamkkbefjgeoaaGreatDoorRows
import Derived.Test.YtbamkkbefjgeoaaGreatDoorCards
import Derived.Test.YtbamkkbefjgeoaaGreatDoorTie
import Derived.Test.YtbamkkbefjgeoaaGreatDoorRq46
import Derived.Test.YtbamkkbefjgeoaaGreatDoorRq51
import Derived.Test.YtbamkkbefjgeoaaGreatDoorRq10
import Derived.LaidMore
import Derived.OpenShut
import Derived.Stop.Joined
import Derived.SevenTiedAt
namespace Go.Proofs.YtbamkkbefjgeoaaGreatDoor
open Go Go.Rq Go.Rq.Sm Go.RowKit
theorem own : ownKnob Tryz.prog.godebug = none := by kernel_rfl
theorem laidOut : laidOutB Tryz.prog = true := by kernel_rfl
theorem door_met (os : Os) (args : Array Value) : laidMetH Tryz.prog Rows.proofExtractsRow.laid ((World.doorLaid Tryz.prog 400 os).forCall (fun _ _ => 0) ⟨#[], args, []⟩).memory :=
 laidMetH_of_parts3 (fuel := 8) (laidMet_of_run' 8 (by kernel_rfl) (by kernel_rfl)) (by kernel_rfl) (by kernel_rfl)
theorem calls (x0 : Int) (x1 : W6) (x2 : W6) (x3 : W6) (x4 : W6) (x5 : W6) {args : Array Value} (h : args.toList = [(kInt .i64).val x0, c6.agg.val x1, c6.agg.val x2, c6.agg.val x3, c6.agg.val x4, c6.agg.val x5]) (w : World) (hg : GW w) : Calls Tryz.prog 3 args w (fun e w' => e = .returned (.bool true) /\ Below w.heap.size w w') :=
 call_pure (P := PR) (b := true) LwX.law_pure (LwX.law_fn x0 x1 x2 x3 x4 x5) rfl (fun ρ => by rw [h]; exact LwX.law_rvs x0 x1 x2 x3 x4 x5 ρ) hg
theorem spec_ok : LawSpec Rows.proofExtractsSpec 6 := ⟨rfl, fun H ds h => by
 match ds, h with
 | [d0, d1, d2, d3, d4, d5], _ => rfl⟩
theorem param_ok : ∀ t ∈ Tryz.f3.params.toList, Tryz.prog.readableRec t = true /\ t < Tryz.prog.types.size := by
 have h : (Tryz.f3.params.toList.all fun t => Tryz.prog.readableRec t && Nat.blt t Tryz.prog.types.size) = true := by kernel_rfl
 intro t ht
 have := List.all_eq_true.1 h t ht
 rw [Bool.and_eq_true] at this
 exact ⟨this.1, Nat.le_of_ble_eq_true this.2⟩
theorem param_plain : ∀ t ∈ Tryz.f3.params.toList, Tryz.prog.wantsStandIn t = false := by
 have h : (Tryz.f3.params.toList.all fun t => !Tryz.prog.wantsStandIn t) = true := by kernel_rfl
 intro t ht
 have := List.all_eq_true.1 h t ht
 simpa using this
set_option maxRecDepth 100000 in
theorem lifted (os : Os) (started : os.Started) (H : Type) (enc : TypeId × Value -> H) :
 ReturnsInHanded {} Tryz.checked os 3 .any (fun w args => (Rows.proofExtractsSpec.pre enc Tryz.prog Tryz.f3 [] false w args /\ laidMetH Tryz.prog Rows.proofExtractsRow.laid w) /\ sizedMet enc Tryz.prog Tryz.f3 (OpenSpec.ofChange Rows.proofExtractsSpec) false w args)
  (Rows.proofExtractsSpec.post enc Tryz.prog Tryz.f3 false true false false) := by
 refine law_handed_and (C := Tryz.checked) (X := fun w _ => laidMetH Tryz.prog Rows.proofExtractsRow.laid w) (fun _ _ _ hh h => h.of_heap hh) own started (by kernel_rfl) Tryz.func3
  (ChangeSpec.witness_shaped (enc := enc) (C := Tryz.checked) (os := os) (X := fun w _ => laidMetH Tryz.prog Rows.proofExtractsRow.laid w) false (World.doorLaid Tryz.prog 400 os) #[.int .i64 0, .agg #[.int .u64 0, .int .u64 0, .int .u64 0, .int .u64 0, .int .u64 0, .int .u64 0], .agg #[.int .u64 0, .int .u64 0, .int .u64 0, .int .u64 0, .int .u64 0, .int .u64 0], .agg #[.int .u64 0, .int .u64 0, .int .u64 0, .int .u64 0, .int .u64 0, .int .u64 0], .agg #[.int .u64 0, .int .u64 0, .int .u64 0, .int .u64 0, .int .u64 0, .int .u64 0], .agg #[.int .u64 0, .int .u64 0, .int .u64 0, .int .u64 0, .int .u64 0, .int .u64 0]] 8 rfl (World.shaped_of_RefB (by kernel_rfl) (by kernel_rfl)) (by kernel_rfl) (by kernel_rfl) (by kernel_rfl) (door_met os _))
  spec_ok rfl rfl (tb := 4) (by kernel_rfl) laidOut param_ok ?_
 intro W base args ds p hok hA hX
 have h1 : DataW.TrodAll enc Tryz.prog W 0 (fun _ => true) true [22, 25, 25, 25, 25, 25] args.toList ds p := hA
 obtain ⟨v0, l0, e0, m0, p0, q0, hl, -, -, -, h2⟩ := ChangeShapes.trodAll_cons h1
 obtain ⟨v1, l1, e1, m1, p1, q1, rfl, -, -, -, h3⟩ := ChangeShapes.trodAll_cons h2
 obtain ⟨v2, l2, e2, m2, p2, q2, rfl, -, -, -, h4⟩ := ChangeShapes.trodAll_cons h3
 obtain ⟨v3, l3, e3, m3, p3, q3, rfl, -, -, -, h5⟩ := ChangeShapes.trodAll_cons h4
 obtain ⟨v4, l4, e4, m4, p4, q4, rfl, -, -, -, h6⟩ := ChangeShapes.trodAll_cons h5
 obtain ⟨v5, l5, e5, m5, p5, q5, rfl, -, -, -, h7⟩ := ChangeShapes.trodAll_cons h6
 obtain ⟨rfl, -⟩ := ChangeShapes.trodAll_nil h7
 have g : ∀ (j : Nat) (v : Value), [v0, v1, v2, v3, v4, v5][j]? = some v -> args[j]? = some v := fun j v hj => by rw [<- hl] at hj; simpa using hj
 have k0 := hok 0 22 v0 (by kernel_rfl) (g 0 v0 rfl)
 have k1 := hok 1 25 v1 (by kernel_rfl) (g 1 v1 rfl)
 have k2 := hok 2 25 v2 (by kernel_rfl) (g 2 v2 rfl)
 have k3 := hok 3 25 v3 (by kernel_rfl) (g 3 v3 rfl)
 have k4 := hok 4 25 v4 (by kernel_rfl) (g 4 v4 rfl)
 have k5 := hok 5 25 v5 (by kernel_rfl) (g 5 v5 rfl)
 obtain ⟨x0, rfl⟩ := WideShapes.okWide_int (k := .i64) Tryz.underlying22 k0
 obtain ⟨x1, rfl⟩ := open_num (u := 23) Tryz.underlying23 (okWide_arr Tryz.underlying25 k1) (by kernel_rfl) (by kernel_rfl)
 obtain ⟨x2, rfl⟩ := open_num (u := 23) Tryz.underlying23 (okWide_arr Tryz.underlying25 k2) (by kernel_rfl) (by kernel_rfl)
 obtain ⟨x3, rfl⟩ := open_num (u := 23) Tryz.underlying23 (okWide_arr Tryz.underlying25 k3) (by kernel_rfl) (by kernel_rfl)
 obtain ⟨x4, rfl⟩ := open_num (u := 23) Tryz.underlying23 (okWide_arr Tryz.underlying25 k4) (by kernel_rfl) (by kernel_rfl)
 obtain ⟨x5, rfl⟩ := open_num (u := 23) Tryz.underlying23 (okWide_arr Tryz.underlying25 k5) (by kernel_rfl) (by kernel_rfl)
 exact calls x0 x1 x2 x3 x4 x5 hl W (Go.Rq.Cl.gw_of_laid hX (by kernel_rfl))
theorem said : Rows.ProofExtractsSaid :=
 OpenClaim.holds_of_wide 3 Tryz.f3 rfl rfl rfl rfl rfl rfl rfl ⟨rfl, rfl, rfl, rfl, rfl⟩ rfl rfl rfl rfl rfl (by kernel_rfl) Tryz.func3 proofExtracts_joined
  (of_decide_eq_true (by kernel_rfl)) (by unfold Func.isWrapper; first | (rw [if_pos (by decide +kernel)]; kernel_rfl) | (rw [if_neg (by decide +kernel)]; exact ⟨rfl, rfl⟩))
  (fun os started H enc _ => lifted os started H enc)
set_option maxRecDepth 100000 in
theorem goes : false = Rows.proofExtractsRow.goesBy Tryz.prog := by kernel_rfl
set_option maxRecDepth 100000 in
theorem wft : Rows.proofExtractsRow.wfByText (OpenSpec.ofChange Rows.proofExtractsSpec) = true := by kernel_rfl
set_option maxRecDepth 100000 in
theorem main_is : Tryz.prog.mainIs = some (true, "e11365304b574ec11bc9ee3e7437e0ea3362448cb3e060e6d6b7e9938565546e".toList) := by kernel_rfl
set_option maxRecDepth 100000 in
theorem looks_not : false = Tryz.prog.looks [] := by kernel_rfl
theorem proofExtracts_holds : Rows.ProofExtractsCardSaid :=
 Claim7.holds_tied_plain_at .later [] [.data] true (true, "e11365304b574ec11bc9ee3e7437e0ea3362448cb3e060e6d6b7e9938565546e") false
  said (fun _ h => by cases h) wft (fun _ h => by cases h) proofExtracts_row_tie rfl ⟨rfl, rfl⟩ main_is rfl
  (fun f fn hf hfn => by
   obtain rfl : f = 3 := Option.some.inj ((show Tryz.prog.funcNamed Rows.proofExtractsRow.func = some 3 by kernel_rfl).symm.trans hf) |>.symm
   obtain rfl : fn = Tryz.f3 := (Option.some.inj (Tryz.func3.symm.trans hfn)).symm
   exact ⟨looks_not, fun j t ht => param_plain t (by simpa using Array.mem_of_getElem? ht)⟩)
  goes
#print axioms proofExtracts_holds
end Go.Proofs.YtbamkkbefjgeoaaGreatDoor
