/-
  What is proved: the law CurveGroup2 returns true, whatever three points it is handed.
  Conditions: none.
-/
import Derived.Test.YtdbcjiggimppdaaRows
import Derived.Test.YtdbcjiggimppdaaRq18
import Derived.Test.YtdbcjiggimppdaaRq10
namespace Go.Rq
open Go Go.Proofs

theorem gpT2_eq : [(55, fn0 kBool true), (43, fn1 aD.agg kBool checkP2), (49, fn2 aD.agg aD.agg kPD addP2), (48, fn1 aD.agg kPD negP2)] = gpT2 gpO2 := by kernel_rfl
theorem gpT2_ok : TabPOk PR (gpT2 gpO2) := Eq.subst (motive := TabPOk PR) gpT2_eq (TabPOk.cons aw_ok (TabPOk.cons checkp2_ok (TabPOk.cons addp2_ok (TabPOk.cons negp2_ok TabPOk.nil))))
theorem cg_ctx : Ctx PR (gpE2 gpO2) [29, 34, 38, 89, 93, 97, 101, 105, 109, 113, 121, 126, 131, 136, 141] (fun _ => none) 10 8 :=
  ctx_of (envH_ok eqsT_ok gpT2_ok TabHOk.nil) mixed (fn := Try.f8) (by kernel_rfl) (by kernel_rfl) (by kernel_rfl) (tabOk_none _)
theorem cg_gives (t : GP D6) (ok : GPOk eqP25 zeroP2 t) (a b c : Ap D6) : Gives (afunR PR (gpE2 t) [29, 34, 38, 89, 93, 97, 101, 105, 109, 113, 121, 126, 131, 136, 141] (fun _ => none) 10 8 [aD.agg.enc a, aD.agg.enc b, aD.agg.enc c]) (kBool.val true) :=
  givesOf (group2_law t a b c) (grpTree_true ok a b c)
theorem cg_pure : PureOk PR 8 (fn3 aD.agg aD.agg aD.agg kBool (fun _ _ _ => true)) :=
  pure3 cg_ctx (fun a b c => cg_gives gpO2 gpO2_ok a b c)
theorem cg_fn (a b c : Ap D6) : fn3 aD.agg aD.agg aD.agg kBool (fun _ _ _ => true) [aD.agg.enc a, aD.agg.enc b, aD.agg.enc c] = some (true, kBool.enc true) := by kernel_rfl
theorem cg_rvs (a b c : Ap D6) (ρ : Ren) : Rvs ρ [aD.agg.enc a, aD.agg.enc b, aD.agg.enc c] [aD.agg.val a, aD.agg.val b, aD.agg.val c] :=
  Rvs.of_flatL (by simp [flatL, aD.agg.h1])
end Go.Rq

namespace Go.Proofs.Ytdbcjiggimppdaa
open Go Go.Rq Go.RowKit

theorem own : ownKnob Try.prog.godebug = none := by kernel_rfl
theorem laidOut : laidOutB Try.prog = true := by kernel_rfl

theorem group_calls (a b c : Ap D6) {args : Array Value} (h : args.toList = [aD.agg.val a, aD.agg.val b, aD.agg.val c]) (w : World) : Calls Try.prog 8 args w (fun e w' => e = .returned (.bool true) ∧ Below w.heap.size w w') :=
  call_pure cg_pure (cg_fn a b c) (b := true) rfl (fun ρ => by rw [h]; exact cg_rvs a b c ρ)

theorem group_spec : LawSpec Rows.curveGroup2Spec 3 := ⟨rfl, fun H ds h => by
  match ds, h with
  | [d1, d2, d3], _ => rfl⟩

theorem param_ok : ∀ t ∈ Try.f8.params.toList, Try.prog.readableRec t = true ∧ t < Try.prog.types.size := by
  have h : (Try.f8.params.toList.all fun t => Try.prog.readableRec t && Nat.blt t Try.prog.types.size) = true := by kernel_rfl
  intro t ht
  have := List.all_eq_true.1 h t ht
  rw [Bool.and_eq_true] at this
  exact ⟨this.1, Nat.le_of_ble_eq_true this.2⟩

def zeroArgs : Array Value := #[aD.agg.val ⟨zeroD, zeroD, false⟩, aD.agg.val ⟨zeroD, zeroD, false⟩, aD.agg.val ⟨zeroD, zeroD, false⟩]

set_option maxRecDepth 100000 in
theorem group_lifted (os : Os) (started : os.Started) (H : Type) (enc : TypeId × Value → H) :
    ReturnsInHanded {} Try.checked os 8 .any (Rows.curveGroup2Spec.pre6 enc Try.prog Try.f8 Rows.curveGroup2Row.domain false) (Rows.curveGroup2Spec.post enc Try.prog Try.f8 false true false false) := by
  refine law_handed (C := Try.checked) own started (by kernel_rfl) Try.func8
    (ChangeSpec.witness6 (enc := enc) (C := Try.checked) false ⟨#[], zeroArgs, []⟩ 30 (by kernel_rfl) (by kernel_rfl) (by kernel_rfl) (by kernel_rfl))
    group_spec rfl rfl (tb := 4) (by kernel_rfl) laidOut param_ok ?_
  intro W base args ds p hval hA
  have h1 : DataW.TrodAll enc Try.prog W 0 (fun _ => true) true [64, 64, 64] args.toList ds p := hA
  obtain ⟨v1, l1, d1, e1, p1, q1, hl1, -, -, -, h2⟩ := ChangeShapes.trodAll_cons h1
  obtain ⟨v2, l2, d2, e2, p2, q2, rfl, -, -, -, h3⟩ := ChangeShapes.trodAll_cons h2
  obtain ⟨v3, l3, d3, e3, p3, q3, rfl, -, -, -, h4⟩ := ChangeShapes.trodAll_cons h3
  obtain ⟨rfl, -⟩ := ChangeShapes.trodAll_nil h4
  have g : ∀ (j : Nat) (v : Value), [v1, v2, v3][j]? = some v → args[j]? = some v := fun j v hj => by rw [← hl1] at hj; simpa using hj
  have k1 := hval 0 64 v1 (by kernel_rfl) (g 0 v1 rfl)
  have k2 := hval 1 64 v2 (by kernel_rfl) (g 1 v2 rfl)
  have k3 := hval 2 64 v3 (by kernel_rfl) (g 2 v3 rfl)
  obtain ⟨a, rfl⟩ := open_p2 (u := 45) (b := 4) Try.underlying45 Try.underlying4 (okWide_agg Try.underlying64 k1) (by kernel_rfl) (by kernel_rfl)
  obtain ⟨b, rfl⟩ := open_p2 (u := 45) (b := 4) Try.underlying45 Try.underlying4 (okWide_agg Try.underlying64 k2) (by kernel_rfl) (by kernel_rfl)
  obtain ⟨c, rfl⟩ := open_p2 (u := 45) (b := 4) Try.underlying45 Try.underlying4 (okWide_agg Try.underlying64 k3) (by kernel_rfl) (by kernel_rfl)
  exact group_calls a b c hl1 W

theorem curveGroup2_holds : Rows.CurveGroup2Said :=
  OpenClaim.holds_of_wide 8 Try.f8 rfl rfl rfl rfl rfl rfl rfl ⟨rfl, rfl, rfl, rfl, rfl⟩ rfl rfl rfl rfl rfl (by kernel_rfl) Try.func8 (by kernel_rfl)
    (of_decide_eq_true (by kernel_rfl)) (by unfold Func.isWrapper; first | (rw [if_pos (by decide +kernel)]; kernel_rfl) | (rw [if_neg (by decide +kernel)]; exact ⟨rfl, rfl⟩))
    (fun os started H enc _ => group_lifted os started H enc)
#print axioms curveGroup2_holds
end Go.Proofs.Ytdbcjiggimppdaa
