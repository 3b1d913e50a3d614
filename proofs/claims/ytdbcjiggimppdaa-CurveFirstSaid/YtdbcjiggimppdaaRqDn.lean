/-
  What is proved: the law CurveFirst returns true, whatever points and number it is handed.
  Conditions: none.
-/
import Derived.Test.YtdbcjiggimppdaaRows
import Derived.Test.YtdbcjiggimppdaaRq16
import Derived.Test.YtdbcjiggimppdaaRq10
namespace Go.Rq
open Go Go.Proofs

theorem loT_eq : [(29, fn1 aW.agg kBool rcheck1), (30, fn1 aW.agg kBool checkP1), (32, fn1 aW.agg kBool rin1), (31, fn1 aW.agg kBool inGroup1),
  (34, fn0 aW.agg rgen1P), (33, fn0 (cAp c6).agg gen1P), (40, fn1 aW.agg aW.agg (rneg1G roO)), (35, fn1 aW.agg kPW negP1),
  (39, fn2 aW.agg aW.agg aW.agg radd1), (36, fn2 aW.agg aW.agg kPW addP1), (41, fn2 aW.agg c6.agg aW.agg rmul1), (37, fn2 aW.agg c6.agg kPW sumP1W),
  (38, fn4 aW.agg (kInt .i64) kBool aW.agg kBool oneG)] = loT loO := by kernel_rfl
theorem loT_ok : TabPOk PR (loT loO) := Eq.subst (motive := TabPOk PR) loT_eq (TabPOk.cons rck_ok (TabPOk.cons checkp1_ok (TabPOk.cons rin1_ok (TabPOk.cons isinp1_ok (TabPOk.cons rgen1_ok (TabPOk.cons gen1_ok (TabPOk.cons rneg1_ok (TabPOk.cons negp1_ok
  (TabPOk.cons radd1_ok (TabPOk.cons addp1_ok (TabPOk.cons rmul1_ok (TabPOk.cons mulp1_ok (TabPOk.cons onl1_ok TabPOk.nil)))))))))))))
theorem cf_ctx : Ctx PR (loE loO) [24, 28, 34, 38, 57, 62, 68, 78, 90, 93] (fun _ => none) 10 4 :=
  ctx_of (envH_ok eqsT_ok loT_ok TabHOk.nil) mixed (fn := Try.f4) (by kernel_rfl) (by kernel_rfl) (by kernel_rfl) (tabOk_none _)
theorem cf_gives (t : LO W6) (ok : LOk eqP13 noneP t) (a b : Ap W6) (n : W6) : Gives (afunR PR (loE t) [24, 28, 34, 38, 57, 62, 68, 78, 90, 93] (fun _ => none) 10 4 [aW.agg.enc a, aW.agg.enc b, c6.agg.enc n]) (kBool.val true) :=
  givesOf (first_law t a b n) (loTree_true ok a b n)
theorem cf_pure : PureOk PR 4 (fn3 aW.agg aW.agg c6.agg kBool (fun _ _ _ => true)) :=
  pure3 cf_ctx (fun a b n => cf_gives loO loO_ok a b n)
theorem cf_fn (a b : Ap W6) (n : W6) : fn3 aW.agg aW.agg c6.agg kBool (fun _ _ _ => true) [aW.agg.enc a, aW.agg.enc b, c6.agg.enc n] = some (true, kBool.enc true) := by kernel_rfl
theorem cf_rvs (a b : Ap W6) (n : W6) (ρ : Ren) : Rvs ρ [aW.agg.enc a, aW.agg.enc b, c6.agg.enc n] [aW.agg.val a, aW.agg.val b, c6.agg.val n] :=
  Rvs.of_flatL (by simp [flatL, aW.agg.h1, c6.agg.h1])
end Go.Rq

namespace Go.Proofs.Ytdbcjiggimppdaa
open Go Go.Rq Go.RowKit

theorem own : ownKnob Try.prog.godebug = none := by kernel_rfl
theorem laidOut : laidOutB Try.prog = true := by kernel_rfl

theorem first_calls (a b : Ap W6) (n : W6) {args : Array Value} (h : args.toList = [aW.agg.val a, aW.agg.val b, c6.agg.val n]) (w : World) : Calls Try.prog 4 args w (fun e w' => e = .returned (.bool true) ∧ Below w.heap.size w w') :=
  call_pure cf_pure (cf_fn a b n) (b := true) rfl (fun ρ => by rw [h]; exact cf_rvs a b n ρ)

theorem first_spec : LawSpec Rows.curveFirstSpec 3 := ⟨rfl, fun H ds h => by
  match ds, h with
  | [d1, d2, d3], _ => rfl⟩

theorem param_ok : ∀ t ∈ Try.f4.params.toList, Try.prog.readableRec t = true ∧ t < Try.prog.types.size := by
  have h : (Try.f4.params.toList.all fun t => Try.prog.readableRec t && Nat.blt t Try.prog.types.size) = true := by kernel_rfl
  intro t ht
  have := List.all_eq_true.1 h t ht
  rw [Bool.and_eq_true] at this
  exact ⟨this.1, Nat.le_of_ble_eq_true this.2⟩

def zeroArgs : Array Value := #[aW.agg.val ⟨zeroW, zeroW, false⟩, aW.agg.val ⟨zeroW, zeroW, false⟩, c6.agg.val zeroW]

set_option maxRecDepth 100000 in
theorem first_lifted (os : Os) (started : os.Started) (H : Type) (enc : TypeId × Value → H) :
    ReturnsInHanded {} Try.checked os 4 .any (Rows.curveFirstSpec.pre6 enc Try.prog Try.f4 Rows.curveFirstRow.domain false) (Rows.curveFirstSpec.post enc Try.prog Try.f4 false true false false) := by
  refine law_handed (C := Try.checked) own started (by kernel_rfl) Try.func4
    (ChangeSpec.witness6 (enc := enc) (C := Try.checked) false ⟨#[], zeroArgs, []⟩ 30 (by kernel_rfl) (by kernel_rfl) (by kernel_rfl) (by kernel_rfl))
    first_spec rfl rfl (tb := 4) (by kernel_rfl) laidOut param_ok ?_
  intro W base args ds p hval hA
  have h1 : DataW.TrodAll enc Try.prog W 0 (fun _ => true) true [49, 49, 47] args.toList ds p := hA
  obtain ⟨v1, l1, d1, e1, p1, q1, hl1, -, -, -, h2⟩ := ChangeShapes.trodAll_cons h1
  obtain ⟨v2, l2, d2, e2, p2, q2, rfl, -, -, -, h3⟩ := ChangeShapes.trodAll_cons h2
  obtain ⟨v3, l3, d3, e3, p3, q3, rfl, -, -, -, h4⟩ := ChangeShapes.trodAll_cons h3
  obtain ⟨rfl, -⟩ := ChangeShapes.trodAll_nil h4
  have g : ∀ (j : Nat) (v : Value), [v1, v2, v3][j]? = some v → args[j]? = some v := fun j v hj => by rw [← hl1] at hj; simpa using hj
  have k1 := hval 0 49 v1 (by kernel_rfl) (g 0 v1 rfl)
  have k2 := hval 1 49 v2 (by kernel_rfl) (g 1 v2 rfl)
  have k3 := hval 2 47 v3 (by kernel_rfl) (g 2 v3 rfl)
  obtain ⟨a, rfl⟩ := open_p1 (u := 45) (b := 4) Try.underlying45 Try.underlying4 (okWide_agg Try.underlying49 k1) (by kernel_rfl) (by kernel_rfl)
  obtain ⟨b, rfl⟩ := open_p1 (u := 45) (b := 4) Try.underlying45 Try.underlying4 (okWide_agg Try.underlying49 k2) (by kernel_rfl) (by kernel_rfl)
  obtain ⟨n, rfl⟩ := open_num (u := 45) Try.underlying45 (okWide_arr Try.underlying47 k3) (by kernel_rfl) (by kernel_rfl)
  exact first_calls a b n hl1 W

theorem curveFirst_holds : Rows.CurveFirstSaid :=
  OpenClaim.holds_of_wide 4 Try.f4 rfl rfl rfl rfl rfl rfl rfl ⟨rfl, rfl, rfl, rfl, rfl⟩ rfl rfl rfl rfl rfl (by kernel_rfl) Try.func4 (by kernel_rfl)
    (of_decide_eq_true (by kernel_rfl)) (by unfold Func.isWrapper; first | (rw [if_pos (by decide +kernel)]; kernel_rfl) | (rw [if_neg (by decide +kernel)]; exact ⟨rfl, rfl⟩))
    (fun os started H enc _ => first_lifted os started H enc)
#print axioms curveFirst_holds
end Go.Proofs.Ytdbcjiggimppdaa
