/-
  What is proved: the law CurveTimes returns true, whatever points and numbers it is handed.
  Conditions: none.
-/
import Derived.Test.YtdbcjiggimppdaaRows
import Derived.Test.YtdbcjiggimppdaaRq18
import Derived.Test.YtdbcjiggimppdaaRq10
namespace Go.Rq
open Go Go.Proofs

theorem tmT_eq0 : [(55, fn0 kBool true), (60, fn2 c6.agg kSh c6.agg shW), (61, fn2 c6.agg c6.agg kWB wAddW), (62, fn2 c6.agg c6.agg kNN wmW),
  (30, fn1 aW.agg kBool checkP1), (36, fn2 aW.agg aW.agg kPW addP1), (37, fn2 aW.agg c6.agg kPW sumP1W),
  (43, fn1 aD.agg kBool checkP2), (49, fn2 aD.agg aD.agg kPD addP2), (50, fn2 aD.agg c6.agg kPD sumP1D)] = tmT tlO1 tlO2 wlO := by kernel_rfl
theorem tmT_ok0 : TabPOk PR (tmT tlO1 tlO2 wlO) := Eq.subst (motive := TabPOk PR) tmT_eq0 (TabPOk.cons aw_ok (TabPOk.cons sh2_ok (TabPOk.cons wadd_ok (TabPOk.cons wm_ok (TabPOk.cons checkp1_ok (TabPOk.cons addp1_ok (TabPOk.cons mulp1_ok
  (TabPOk.cons checkp2_ok (TabPOk.cons addp2_ok (TabPOk.cons mulp2_ok TabPOk.nil))))))))))
theorem ct_ctx : Ctx PR (tmE tlO1 tlO2 wlO) [58, 98, 103, 107, 110, 112, 152, 157, 161, 164] (fun _ => none) 10 9 :=
  ctx_of (envH_ok eqsT_ok tmT_ok0 TabHOk.nil) mixed (fn := Try.f9) (by kernel_rfl) (by kernel_rfl) (by kernel_rfl) (tabOk_none _)
theorem ct_gives (t : TL W6) (u : TL D6) (w : WL) (a : Ap W6) (b : Ap D6) (m n : W6) (h : (tmTree eqP13 eqP25 t u w a b m n).holds (fun q => flat q = some (.bool true))) :
    Gives (afunR PR (tmE t u w) [58, 98, 103, 107, 110, 112, 152, 157, 161, 164] (fun _ => none) 10 9 [aW.agg.enc a, aD.agg.enc b, c6.agg.enc m, c6.agg.enc n]) (kBool.val true) :=
  givesOf (times_law t u w a b m n) h
theorem ct_pure : PureOk PR 9 (fn4 aW.agg aD.agg c6.agg c6.agg kBool (fun _ _ _ _ => true)) :=
  pure4 ct_ctx (fun a b m n => ct_gives tlO1 tlO2 wlO a b m n (tmTree_true tlO1_ok tlO2_ok wlO_ok a b m n))
theorem ct_fn (a : Ap W6) (b : Ap D6) (m n : W6) : fn4 aW.agg aD.agg c6.agg c6.agg kBool (fun _ _ _ _ => true) [aW.agg.enc a, aD.agg.enc b, c6.agg.enc m, c6.agg.enc n] = some (true, kBool.enc true) := by kernel_rfl
theorem ct_rvs (a : Ap W6) (b : Ap D6) (m n : W6) (ρ : Ren) : Rvs ρ [aW.agg.enc a, aD.agg.enc b, c6.agg.enc m, c6.agg.enc n] [aW.agg.val a, aD.agg.val b, c6.agg.val m, c6.agg.val n] :=
  Rvs.of_flatL (by simp [flatL, aW.agg.h1, aD.agg.h1, c6.agg.h1])
end Go.Rq

namespace Go.Proofs.Ytdbcjiggimppdaa
open Go Go.Rq Go.RowKit

theorem own : ownKnob Try.prog.godebug = none := by kernel_rfl
theorem laidOut : laidOutB Try.prog = true := by kernel_rfl

theorem times_calls (a : Ap W6) (b : Ap D6) (m n : W6) {args : Array Value} (h : args.toList = [aW.agg.val a, aD.agg.val b, c6.agg.val m, c6.agg.val n]) (w : World) : Calls Try.prog 9 args w (fun e w' => e = .returned (.bool true) ∧ Below w.heap.size w w') :=
  call_pure ct_pure (ct_fn a b m n) (b := true) rfl (fun ρ => by rw [h]; exact ct_rvs a b m n ρ)

theorem times_spec : LawSpec Rows.curveTimesSpec 4 := ⟨rfl, fun H ds h => by
  match ds, h with
  | [d1, d2, d3, d4], _ => rfl⟩

theorem param_ok : ∀ t ∈ Try.f9.params.toList, Try.prog.readableRec t = true ∧ t < Try.prog.types.size := by
  have h : (Try.f9.params.toList.all fun t => Try.prog.readableRec t && Nat.blt t Try.prog.types.size) = true := by kernel_rfl
  intro t ht
  have := List.all_eq_true.1 h t ht
  rw [Bool.and_eq_true] at this
  exact ⟨this.1, Nat.le_of_ble_eq_true this.2⟩

def zeroArgs : Array Value := #[aW.agg.val ⟨zeroW, zeroW, false⟩, aD.agg.val ⟨zeroD, zeroD, false⟩, c6.agg.val zeroW, c6.agg.val zeroW]

set_option maxRecDepth 100000 in
theorem times_lifted (os : Os) (started : os.Started) (H : Type) (enc : TypeId × Value → H) :
    ReturnsInHanded {} Try.checked os 9 .any (Rows.curveTimesSpec.pre6 enc Try.prog Try.f9 Rows.curveTimesRow.domain false) (Rows.curveTimesSpec.post enc Try.prog Try.f9 false true false false) := by
  refine law_handed (C := Try.checked) own started (by kernel_rfl) Try.func9
    (ChangeSpec.witness6 (enc := enc) (C := Try.checked) false ⟨#[], zeroArgs, []⟩ 30 (by kernel_rfl) (by kernel_rfl) (by kernel_rfl) (by kernel_rfl))
    times_spec rfl rfl (tb := 4) (by kernel_rfl) laidOut param_ok ?_
  intro W base args ds p hval hA
  have h1 : DataW.TrodAll enc Try.prog W 0 (fun _ => true) true [49, 64, 47, 47] args.toList ds p := hA
  obtain ⟨v1, l1, d1, e1, p1, q1, hl1, -, -, -, h2⟩ := ChangeShapes.trodAll_cons h1
  obtain ⟨v2, l2, d2, e2, p2, q2, rfl, -, -, -, h3⟩ := ChangeShapes.trodAll_cons h2
  obtain ⟨v3, l3, d3, e3, p3, q3, rfl, -, -, -, h4⟩ := ChangeShapes.trodAll_cons h3
  obtain ⟨v4, l4, d4, e4, p4, q4, rfl, -, -, -, h5⟩ := ChangeShapes.trodAll_cons h4
  obtain ⟨rfl, -⟩ := ChangeShapes.trodAll_nil h5
  have g : ∀ (j : Nat) (v : Value), [v1, v2, v3, v4][j]? = some v → args[j]? = some v := fun j v hj => by rw [← hl1] at hj; simpa using hj
  have k1 := hval 0 49 v1 (by kernel_rfl) (g 0 v1 rfl)
  have k2 := hval 1 64 v2 (by kernel_rfl) (g 1 v2 rfl)
  have k3 := hval 2 47 v3 (by kernel_rfl) (g 2 v3 rfl)
  have k4 := hval 3 47 v4 (by kernel_rfl) (g 3 v4 rfl)
  obtain ⟨a, rfl⟩ := open_p1 (u := 45) (b := 4) Try.underlying45 Try.underlying4 (okWide_agg Try.underlying49 k1) (by kernel_rfl) (by kernel_rfl)
  obtain ⟨b, rfl⟩ := open_p2 (u := 45) (b := 4) Try.underlying45 Try.underlying4 (okWide_agg Try.underlying64 k2) (by kernel_rfl) (by kernel_rfl)
  obtain ⟨m, rfl⟩ := open_num (u := 45) Try.underlying45 (okWide_arr Try.underlying47 k3) (by kernel_rfl) (by kernel_rfl)
  obtain ⟨n, rfl⟩ := open_num (u := 45) Try.underlying45 (okWide_arr Try.underlying47 k4) (by kernel_rfl) (by kernel_rfl)
  exact times_calls a b m n hl1 W

theorem curveTimes_holds : Rows.CurveTimesSaid :=
  OpenClaim.holds_of_wide 9 Try.f9 rfl rfl rfl rfl rfl rfl rfl ⟨rfl, rfl, rfl, rfl, rfl⟩ rfl rfl rfl rfl rfl (by kernel_rfl) Try.func9 (by kernel_rfl)
    (of_decide_eq_true (by kernel_rfl)) (by unfold Func.isWrapper; first | (rw [if_pos (by decide +kernel)]; kernel_rfl) | (rw [if_neg (by decide +kernel)]; exact ⟨rfl, rfl⟩))
    (fun os started H enc _ => times_lifted os started H enc)
#print axioms curveTimes_holds
end Go.Proofs.Ytdbcjiggimppdaa
