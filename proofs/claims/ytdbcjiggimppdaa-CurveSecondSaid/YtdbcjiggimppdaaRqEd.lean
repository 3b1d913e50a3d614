/-
  What is proved: the law CurveSecond returns true, whatever points and number it is handed.
  Conditions: none.
-/
import Derived.Test.YtdbcjiggimppdaaRows
import Derived.Test.YtdbcjiggimppdaaRq17
import Derived.Test.YtdbcjiggimppdaaRq16
import Derived.Test.YtdbcjiggimppdaaRq10
namespace Go.Rq
open Go Go.Proofs

theorem loT2_eq : [(42, fn1 aD.agg kBool rcheck2), (43, fn1 aD.agg kBool checkP2), (45, fn1 aD.agg kBool rin2), (44, fn1 aD.agg kBool inGroup2),
  (47, fn0 aD.agg rgen2P), (46, fn0 (cAp c12).agg gen2P), (53, fn1 aD.agg aD.agg (rneg2P doO)), (48, fn1 aD.agg kPD negP2),
  (52, fn2 aD.agg aD.agg aD.agg rad2), (49, fn2 aD.agg aD.agg kPD addP2), (54, fn2 aD.agg c6.agg aD.agg rml2), (50, fn2 aD.agg c6.agg kPD sumP1D),
  (51, fn4 aD.agg (kInt .i64) kBool aD.agg kBool twoLG)] = loT2 loO2 := by kernel_rfl
theorem loT2_ok : TabPOk PR (loT2 loO2) := Eq.subst (motive := TabPOk PR) loT2_eq (TabPOk.cons rck2_ok (TabPOk.cons checkp2_ok (TabPOk.cons rin2_ok (TabPOk.cons isinp2_ok (TabPOk.cons rgen2_ok (TabPOk.cons gen2_ok (TabPOk.cons rneg2P_ok (TabPOk.cons negp2_ok
  (TabPOk.cons rad2_ok (TabPOk.cons addp2_ok (TabPOk.cons rml2_ok (TabPOk.cons mulp2_ok (TabPOk.cons onl2_ok TabPOk.nil)))))))))))))
theorem cs_ctx : Ctx PR (loE2 loO2) [24, 28, 34, 38, 57, 62, 68, 78, 90, 93] (fun _ => none) 10 5 :=
  ctx_of (envH_ok eqsT_ok loT2_ok TabHOk.nil) mixed (fn := Try.f5) (by kernel_rfl) (by kernel_rfl) (by kernel_rfl) (tabOk_none _)
theorem cs_gives (t : LO D6) (ok : LOk eqP25 nonePD t) (a b : Ap D6) (n : W6) : Gives (afunR PR (loE2 t) [24, 28, 34, 38, 57, 62, 68, 78, 90, 93] (fun _ => none) 10 5 [aD.agg.enc a, aD.agg.enc b, c6.agg.enc n]) (kBool.val true) :=
  givesOf (second_law t a b n) (loTree_true ok a b n)
theorem cs_pure : PureOk PR 5 (fn3 aD.agg aD.agg c6.agg kBool (fun _ _ _ => true)) :=
  pure3 cs_ctx (fun a b n => cs_gives loO2 loO2_ok a b n)
theorem cs_fn (a b : Ap D6) (n : W6) : fn3 aD.agg aD.agg c6.agg kBool (fun _ _ _ => true) [aD.agg.enc a, aD.agg.enc b, c6.agg.enc n] = some (true, kBool.enc true) := by kernel_rfl
theorem cs_rvs (a b : Ap D6) (n : W6) (ρ : Ren) : Rvs ρ [aD.agg.enc a, aD.agg.enc b, c6.agg.enc n] [aD.agg.val a, aD.agg.val b, c6.agg.val n] :=
  Rvs.of_flatL (by simp [flatL, aD.agg.h1, c6.agg.h1])
end Go.Rq

namespace Go.Proofs.Ytdbcjiggimppdaa
open Go Go.Rq Go.RowKit

theorem own : ownKnob Try.prog.godebug = none := by kernel_rfl
theorem laidOut : laidOutB Try.prog = true := by kernel_rfl

theorem second_calls (a b : Ap D6) (n : W6) {args : Array Value} (h : args.toList = [aD.agg.val a, aD.agg.val b, c6.agg.val n]) (w : World) : Calls Try.prog 5 args w (fun e w' => e = .returned (.bool true) ∧ Below w.heap.size w w') :=
  call_pure cs_pure (cs_fn a b n) (b := true) rfl (fun ρ => by rw [h]; exact cs_rvs a b n ρ)

theorem second_spec : LawSpec Rows.curveSecondSpec 3 := ⟨rfl, fun H ds h => by
  match ds, h with
  | [d1, d2, d3], _ => rfl⟩

theorem param_ok : ∀ t ∈ Try.f5.params.toList, Try.prog.readableRec t = true ∧ t < Try.prog.types.size := by
  have h : (Try.f5.params.toList.all fun t => Try.prog.readableRec t && Nat.blt t Try.prog.types.size) = true := by kernel_rfl
  intro t ht
  have := List.all_eq_true.1 h t ht
  rw [Bool.and_eq_true] at this
  exact ⟨this.1, Nat.le_of_ble_eq_true this.2⟩

def zeroArgs : Array Value := #[aD.agg.val ⟨zeroD, zeroD, false⟩, aD.agg.val ⟨zeroD, zeroD, false⟩, c6.agg.val zeroW]

set_option maxRecDepth 100000 in
theorem second_lifted (os : Os) (started : os.Started) (H : Type) (enc : TypeId × Value → H) :
    ReturnsInHanded {} Try.checked os 5 .any (Rows.curveSecondSpec.pre6 enc Try.prog Try.f5 Rows.curveSecondRow.domain false) (Rows.curveSecondSpec.post enc Try.prog Try.f5 false true false false) := by
  refine law_handed (C := Try.checked) own started (by kernel_rfl) Try.func5
    (ChangeSpec.witness6 (enc := enc) (C := Try.checked) false ⟨#[], zeroArgs, []⟩ 30 (by kernel_rfl) (by kernel_rfl) (by kernel_rfl) (by kernel_rfl))
    second_spec rfl rfl (tb := 4) (by kernel_rfl) laidOut param_ok ?_
  intro W base args ds p hval hA
  have h1 : DataW.TrodAll enc Try.prog W 0 (fun _ => true) true [64, 64, 47] args.toList ds p := hA
  obtain ⟨v1, l1, d1, e1, p1, q1, hl1, -, -, -, h2⟩ := ChangeShapes.trodAll_cons h1
  obtain ⟨v2, l2, d2, e2, p2, q2, rfl, -, -, -, h3⟩ := ChangeShapes.trodAll_cons h2
  obtain ⟨v3, l3, d3, e3, p3, q3, rfl, -, -, -, h4⟩ := ChangeShapes.trodAll_cons h3
  obtain ⟨rfl, -⟩ := ChangeShapes.trodAll_nil h4
  have g : ∀ (j : Nat) (v : Value), [v1, v2, v3][j]? = some v → args[j]? = some v := fun j v hj => by rw [← hl1] at hj; simpa using hj
  have k1 := hval 0 64 v1 (by kernel_rfl) (g 0 v1 rfl)
  have k2 := hval 1 64 v2 (by kernel_rfl) (g 1 v2 rfl)
  have k3 := hval 2 47 v3 (by kernel_rfl) (g 2 v3 rfl)
  obtain ⟨a, rfl⟩ := open_p2 (u := 45) (b := 4) Try.underlying45 Try.underlying4 (okWide_agg Try.underlying64 k1) (by kernel_rfl) (by kernel_rfl)
  obtain ⟨b, rfl⟩ := open_p2 (u := 45) (b := 4) Try.underlying45 Try.underlying4 (okWide_agg Try.underlying64 k2) (by kernel_rfl) (by kernel_rfl)
  obtain ⟨n, rfl⟩ := open_num (u := 45) Try.underlying45 (okWide_arr Try.underlying47 k3) (by kernel_rfl) (by kernel_rfl)
  exact second_calls a b n hl1 W

theorem curveSecond_holds : Rows.CurveSecondSaid :=
  OpenClaim.holds_of_wide 5 Try.f5 rfl rfl rfl rfl rfl rfl rfl ⟨rfl, rfl, rfl, rfl, rfl⟩ rfl rfl rfl rfl rfl (by kernel_rfl) Try.func5 (by kernel_rfl)
    (of_decide_eq_true (by kernel_rfl)) (by unfold Func.isWrapper; first | (rw [if_pos (by decide +kernel)]; kernel_rfl) | (rw [if_neg (by decide +kernel)]; exact ⟨rfl, rfl⟩))
    (fun os started H enc _ => second_lifted os started H enc)
#print axioms curveSecond_holds
end Go.Proofs.Ytdbcjiggimppdaa
