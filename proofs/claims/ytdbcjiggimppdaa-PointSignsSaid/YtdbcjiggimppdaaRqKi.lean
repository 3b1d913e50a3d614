/-
  What is proved: the law PointSigns returns true, whatever points of both curves it is handed.
  Conditions: none.
-/
import Derived.Test.YtdbcjiggimppdaaRows
import Derived.Test.YtdbcjiggimppdaaRq19
import Derived.Test.YtdbcjiggimppdaaRq21
import Derived.Test.YtdbcjiggimppdaaRq12
namespace Go.Rq
open Go Go.Proofs

theorem sgT_eq : [(68, fn0 kBool true), (35, fn1 aW.agg kPW negP1), (48, fn1 aD.agg kPD negP2)] = sgT sgO := by kernel_rfl
theorem sgT_ok : TabPOk PR (sgT sgO) := Eq.subst (motive := TabPOk PR) sgT_eq (TabPOk.cons aw5_ok (TabPOk.cons negp1_ok (TabPOk.cons negp2_ok TabPOk.nil)))
theorem sgL_eq : [(69, layN aW.agg 5 (cBy 48) checkP1 bR1 byP1), (70, layN aD.agg 5 (cBy 96) checkP2 bR2 byP2)] =
  [(69, layN aW.agg 5 (cBy 48) sgO.ok1 bR1 sgO.by1), (70, layN aD.agg 5 (cBy 96) sgO.ok2 bR2 sgO.by2)] := rfl
theorem sgE_ok : EnvOk PR (sgE sgO) := envA_ok eqsT_ok sgT_ok (TabHOk.cons sb_ent sbV_ok TabHOk.nil) (Eq.subst (motive := TabLOk PR) sgL_eq (TabLOk.cons b1_ent b1_okL (TabLOk.cons b2_ent b2_okL TabLOk.nil))) TabAOk.nil
theorem sg_ctx : Ctx PR (sgE sgO) [30, 33, 40, 68, 75, 79, 82, 89, 117, 124] (fun _ => none) 60 12 :=
  ctx_of sgE_ok mixed (fn := Try.f12) (by kernel_rfl) (by kernel_rfl) (by kernel_rfl) (tabOk_none _)
theorem sg_but (t : SG) (p : Ap W6) (q : Ap D6) (h : (sgTree t p q).holds (fun q => flat q = some (.bool true))) : Gives (afunR PR (sgE t) [30, 33, 40, 68, 75, 79, 82, 89, 117, 124] (fun _ => none) 60 12 [aW.agg.enc p, aD.agg.enc q]) (kBool.val true) :=
  ⟨Tree.holds_but (l := [5, 6, 7, 8, 9, 10, 11, 12, 13, 14, 15]) (i := 0) (by
    have e := sg_run t p q
    unfold sgWk at e
    rw [e]
    exact h)⟩
theorem sg_pure : PureOk PR 12 (fn2 aW.agg aD.agg kBool (fun _ _ => true)) :=
  pure2 sg_ctx (fun p q => sg_but sgO p q (sgO_true p q))
theorem sg_fn (p : Ap W6) (q : Ap D6) : fn2 aW.agg aD.agg kBool (fun _ _ => true) [aW.agg.enc p, aD.agg.enc q] = some (true, kBool.enc true) := by kernel_rfl
theorem sg_rvs (p : Ap W6) (q : Ap D6) (ρ : Ren) : Rvs ρ [aW.agg.enc p, aD.agg.enc q] [aW.agg.val p, aD.agg.val q] :=
  Rvs.of_flatL (by simp [flatL, aW.agg.h1, aD.agg.h1])
end Go.Rq

namespace Go.Proofs.Ytdbcjiggimppdaa
open Go Go.Rq Go.RowKit

theorem own : ownKnob Try.prog.godebug = none := by kernel_rfl
theorem laidOut : laidOutB Try.prog = true := by kernel_rfl

theorem signs_calls (p : Ap W6) (q : Ap D6) {args : Array Value} (h : args.toList = [aW.agg.val p, aD.agg.val q]) (w : World) : Calls Try.prog 12 args w (fun e w' => e = .returned (.bool true) ∧ Below w.heap.size w w') :=
  call_pure sg_pure (sg_fn p q) (b := true) rfl (fun ρ => by rw [h]; exact sg_rvs p q ρ)

theorem signs_spec : LawSpec Rows.pointSignsSpec 2 := ⟨rfl, fun H ds h => by
  match ds, h with
  | [d1, d2], _ => rfl⟩

theorem param_ok : ∀ t ∈ Try.f12.params.toList, Try.prog.readableRec t = true ∧ t < Try.prog.types.size := by
  have h : (Try.f12.params.toList.all fun t => Try.prog.readableRec t && Nat.blt t Try.prog.types.size) = true := by kernel_rfl
  intro t ht
  have := List.all_eq_true.1 h t ht
  rw [Bool.and_eq_true] at this
  exact ⟨this.1, Nat.le_of_ble_eq_true this.2⟩

def zeroArgs : Array Value := #[aW.agg.val ⟨zeroW, zeroW, false⟩, aD.agg.val ⟨zero2, zero2, false⟩]

set_option maxRecDepth 100000 in
theorem signs_lifted (os : Os) (started : os.Started) (H : Type) (enc : TypeId × Value → H) :
    ReturnsInHanded {} Try.checked os 12 .any (Rows.pointSignsSpec.pre6 enc Try.prog Try.f12 Rows.pointSignsRow.domain false) (Rows.pointSignsSpec.post enc Try.prog Try.f12 false true false false) := by
  refine law_handed (C := Try.checked) own started (by kernel_rfl) Try.func12
    (ChangeSpec.witness6 (enc := enc) (C := Try.checked) false ⟨#[], zeroArgs, []⟩ 30 (by kernel_rfl) (by kernel_rfl) (by kernel_rfl) (by kernel_rfl))
    signs_spec rfl rfl (tb := 4) (by kernel_rfl) laidOut param_ok ?_
  intro W base args ds p hval hA
  have h1 : DataW.TrodAll enc Try.prog W 0 (fun _ => true) true [49, 64] args.toList ds p := hA
  obtain ⟨v1, l1, d1, e1, p1, q1, hl1, -, -, -, h2⟩ := ChangeShapes.trodAll_cons h1
  obtain ⟨v2, l2, d2, e2, p2, q2, rfl, -, -, -, h3⟩ := ChangeShapes.trodAll_cons h2
  obtain ⟨rfl, -⟩ := ChangeShapes.trodAll_nil h3
  have g : ∀ (j : Nat) (v : Value), [v1, v2][j]? = some v → args[j]? = some v := fun j v hj => by rw [← hl1] at hj; simpa using hj
  have k1 := hval 0 49 v1 (by kernel_rfl) (g 0 v1 rfl)
  have k2 := hval 1 64 v2 (by kernel_rfl) (g 1 v2 rfl)
  obtain ⟨a, rfl⟩ := open_p1 (u := 45) (b := 4) Try.underlying45 Try.underlying4 (okWide_agg Try.underlying49 k1) (by kernel_rfl) (by kernel_rfl)
  obtain ⟨b, rfl⟩ := open_p2 (u := 45) (b := 4) Try.underlying45 Try.underlying4 (okWide_agg Try.underlying64 k2) (by kernel_rfl) (by kernel_rfl)
  exact signs_calls a b hl1 W

theorem pointSigns_holds : Rows.PointSignsSaid :=
  OpenClaim.holds_of_wide 12 Try.f12 rfl rfl rfl rfl rfl rfl rfl ⟨rfl, rfl, rfl, rfl, rfl⟩ rfl rfl rfl rfl rfl (by kernel_rfl) Try.func12 (by kernel_rfl)
    (of_decide_eq_true (by kernel_rfl)) (by unfold Func.isWrapper; first | (rw [if_pos (by decide +kernel)]; kernel_rfl) | (rw [if_neg (by decide +kernel)]; exact ⟨rfl, rfl⟩))
    (fun os started H enc _ => signs_lifted os started H enc)
#print axioms pointSigns_holds
end Go.Proofs.Ytdbcjiggimppdaa
