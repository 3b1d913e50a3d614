/-
  What is proved: the law ProofFits returns true, whatever it is handed.
  Conditions: none.
-/
import Derived.Test.YtbamkkbefjgeoaaGreatRows
import Derived.Test.YtbamkkbefjgeoaaGreatRq22
import Derived.Test.YtbamkkbefjgeoaaGreatRq09
import Derived.Test.YtbamkkbefjgeoaaGreatRq27
import Derived.OpenShut
import Derived.Stop.Joined
namespace Go.Proofs.YtbamkkbefjgeoaaGreat
open Go Go.Rq Go.Rq.Sm Go.RowKit
theorem own : ownKnob Tryz.prog.godebug = none := by kernel_rfl
theorem laidOut : laidOutB Tryz.prog = true := by kernel_rfl
theorem fits_calls (s : Int) (b k g : Kz) (c a d z : W6) {args : Array Value} (h : args.toList = [(kInt .i64).val s, cKz.agg.val b, cKz.agg.val k, cKz.agg.val g, c6.agg.val c, c6.agg.val a, c6.agg.val d, c6.agg.val z]) (w : World) : Calls Tryz.prog 4 args w (fun e w' => e = .returned (.bool true) /\ Below w.heap.size w w') :=
 call_pure (P := PR) (b := true) Rf.law_pure (Rf.law_fn s b k g c a d z) rfl (fun ρ => by rw [h]; exact Rf.law_rvs s b k g c a d z ρ) (fun g cs e => by cases e)
theorem fits_spec : LawSpec Rows.proofFitsSpec 8 := ⟨rfl, fun H ds h => by
 match ds, h with
 | [d1, d2, d3, d4, d5, d6, d7, d8], _ => rfl⟩
theorem param_ok : ∀ t ∈ Tryz.f4.params.toList, Tryz.prog.readableRec t = true /\ t < Tryz.prog.types.size := by
 have h : (Tryz.f4.params.toList.all fun t => Tryz.prog.readableRec t && Nat.blt t Tryz.prog.types.size) = true := by kernel_rfl
 intro t ht
 have := List.all_eq_true.1 h t ht
 rw [Bool.and_eq_true] at this
 exact ⟨this.1, Nat.le_of_ble_eq_true this.2⟩
def zeroN : Value := .agg #[.int .u64 0, .int .u64 0, .int .u64 0, .int .u64 0, .int .u64 0, .int .u64 0]
def zeroK : Value := .agg #[.int .i64 0, .int .u64 0, .int .u64 0, .int .u64 0, .int .u64 0, .int .u64 0, .int .u64 0, .int .u64 0, .int .u64 0, .int .u64 0, .int .u64 0, .int .u64 0, .int .u64 0, .bool false, .int .u64 0, .int .u64 0, .bool false]
def zeroArgs : Array Value := #[.int .i64 0, zeroK, zeroK, zeroK, zeroN, zeroN, zeroN, zeroN]
set_option maxRecDepth 100000 in
theorem fits_lifted (os : Os) (started : os.Started) (H : Type) (enc : TypeId × Value -> H) :
 ReturnsInHanded {} Tryz.checked os 4 .any (Rows.proofFitsSpec.pre6 enc Tryz.prog Tryz.f4 Rows.proofFitsRow.domain false) (Rows.proofFitsSpec.post enc Tryz.prog Tryz.f4 false true false false) := by
 refine law_handed (C := Tryz.checked) own started (by kernel_rfl) Tryz.func4
  (ChangeSpec.witness6 (enc := enc) (C := Tryz.checked) false ⟨#[], zeroArgs, []⟩ 30 (by kernel_rfl) (by kernel_rfl) (by kernel_rfl) (by kernel_rfl))
  fits_spec rfl rfl (tb := 4) (by kernel_rfl) laidOut param_ok ?_
 intro W base args ds p hval hA
 have h1 : DataW.TrodAll enc Tryz.prog W 0 (fun _ => true) true [33, 42, 42, 42, 36, 36, 36, 36] args.toList ds p := hA
 obtain ⟨v0, l0, e0, m0, p0, q0, hl, -, -, -, h2⟩ := ChangeShapes.trodAll_cons h1
 obtain ⟨v1, l1, e1, m1, p1, q1, rfl, -, -, -, h3⟩ := ChangeShapes.trodAll_cons h2
 obtain ⟨v2, l2, e2, m2, p2, q2, rfl, -, -, -, h4⟩ := ChangeShapes.trodAll_cons h3
 obtain ⟨v3, l3, e3, m3, p3, q3, rfl, -, -, -, h5⟩ := ChangeShapes.trodAll_cons h4
 obtain ⟨v4, l4, e4, m4, p4, q4, rfl, -, -, -, h6⟩ := ChangeShapes.trodAll_cons h5
 obtain ⟨v5, l5, e5, m5, p5, q5, rfl, -, -, -, h7⟩ := ChangeShapes.trodAll_cons h6
 obtain ⟨v6, l6, e6, m6, p6, q6, rfl, -, -, -, h8⟩ := ChangeShapes.trodAll_cons h7
 obtain ⟨v7, l7, e7, m7, p7, q7, rfl, -, -, -, h9⟩ := ChangeShapes.trodAll_cons h8
 obtain ⟨rfl, -⟩ := ChangeShapes.trodAll_nil h9
 have g : ∀ (j : Nat) (v : Value), [v0, v1, v2, v3, v4, v5, v6, v7][j]? = some v -> args[j]? = some v := fun j v hj => by rw [<- hl] at hj; simpa using hj
 have k0 := hval 0 33 v0 (by kernel_rfl) (g 0 v0 rfl)
 have k1 := hval 1 42 v1 (by kernel_rfl) (g 1 v1 rfl)
 have k2 := hval 2 42 v2 (by kernel_rfl) (g 2 v2 rfl)
 have k3 := hval 3 42 v3 (by kernel_rfl) (g 3 v3 rfl)
 have k4 := hval 4 36 v4 (by kernel_rfl) (g 4 v4 rfl)
 have k5 := hval 5 36 v5 (by kernel_rfl) (g 5 v5 rfl)
 have k6 := hval 6 36 v6 (by kernel_rfl) (g 6 v6 rfl)
 have k7 := hval 7 36 v7 (by kernel_rfl) (g 7 v7 rfl)
 obtain ⟨x0, rfl⟩ := WideShapes.okWide_int (k := .i64) Tryz.underlying33 k0
 obtain ⟨x1, rfl⟩ := open_key (i := 33) (u := 34) (b := 4) Tryz.underlying33 Tryz.underlying34 Tryz.underlying4 (okWide_agg Tryz.underlying42 k1) (by kernel_rfl) (by kernel_rfl)
 obtain ⟨x2, rfl⟩ := open_key (i := 33) (u := 34) (b := 4) Tryz.underlying33 Tryz.underlying34 Tryz.underlying4 (okWide_agg Tryz.underlying42 k2) (by kernel_rfl) (by kernel_rfl)
 obtain ⟨x3, rfl⟩ := open_key (i := 33) (u := 34) (b := 4) Tryz.underlying33 Tryz.underlying34 Tryz.underlying4 (okWide_agg Tryz.underlying42 k3) (by kernel_rfl) (by kernel_rfl)
 obtain ⟨x4, rfl⟩ := open_num (u := 34) Tryz.underlying34 (okWide_arr Tryz.underlying36 k4) (by kernel_rfl) (by kernel_rfl)
 obtain ⟨x5, rfl⟩ := open_num (u := 34) Tryz.underlying34 (okWide_arr Tryz.underlying36 k5) (by kernel_rfl) (by kernel_rfl)
 obtain ⟨x6, rfl⟩ := open_num (u := 34) Tryz.underlying34 (okWide_arr Tryz.underlying36 k6) (by kernel_rfl) (by kernel_rfl)
 obtain ⟨x7, rfl⟩ := open_num (u := 34) Tryz.underlying34 (okWide_arr Tryz.underlying36 k7) (by kernel_rfl) (by kernel_rfl)
 exact fits_calls x0 x1 x2 x3 x4 x5 x6 x7 hl W
theorem proofFits_holds : Rows.ProofFitsSaid :=
 OpenClaim.holds_of_wide 4 Tryz.f4 rfl rfl rfl rfl rfl rfl rfl ⟨rfl, rfl, rfl, rfl, rfl⟩ rfl rfl rfl rfl rfl (by kernel_rfl) Tryz.func4 proofFits_joined
  (of_decide_eq_true (by kernel_rfl)) (by unfold Func.isWrapper; first | (rw [if_pos (by decide +kernel)]; kernel_rfl) | (rw [if_neg (by decide +kernel)]; exact ⟨rfl, rfl⟩))
  (fun os started H enc _ => fits_lifted os started H enc)
#print axioms proofFits_holds
end Go.Proofs.YtbamkkbefjgeoaaGreat
