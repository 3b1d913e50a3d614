/-
  What is proved: the law CurveOrders returns true, whatever number it is handed.
  Conditions: none.
-/
import Derived.Test.YtdbcjiggimppdaaRows
import Derived.Test.YtdbcjiggimppdaaRq19
import Derived.Test.YtdbcjiggimppdaaRq10
namespace Go.Rq
open Go Go.Proofs

theorem orT_eq0 : [(55, fn0 kBool true), (33, fn0 (cAp c6).agg gen1P), (37, fn2 aW.agg c6.agg kPW sumP1W), (31, fn1 aW.agg kBool inGroup1),
  (46, fn0 (cAp c12).agg gen2P), (50, fn2 aD.agg c6.agg kPD sumP1D), (44, fn1 aD.agg kBool inGroup2), (64, fn0 c6.agg orderW)] = orT olO := by kernel_rfl
theorem orT_ok0 : TabPOk PR (orT olO) := Eq.subst (motive := TabPOk PR) orT_eq0 (TabPOk.cons aw_ok (TabPOk.cons gen1_ok (TabPOk.cons mulp1_ok (TabPOk.cons isinp1_ok (TabPOk.cons gen2_ok (TabPOk.cons mulp2_ok (TabPOk.cons isinp2_ok (TabPOk.cons order_ok TabPOk.nil))))))))
noncomputable def orE0 : Env := envL eqsT (orT olO) [(67, rdp 165 cFa (mc1 c6.agg) c6.agg moRedW)] [(66, layP kOrd 165 cFa 0 (fun _ => modO))] false
theorem orE0_eq : orE0 = orE olO := by kernel_rfl
theorem orE_ok0 : EnvOk PR (orE olO) := Eq.subst (motive := EnvOk PR) orE0_eq (envL_ok eqsT_ok orT_ok0 (TabHOk.cons mred_ent mred_ok TabHOk.nil) (TabLOk.cons nw_ent new_okL TabLOk.nil))
theorem co_ctx : Ctx PR (orE olO) [65, 69, 73, 77, 82, 87, 91, 95, 101] (fun _ => none) 10 11 :=
  ctx_of orE_ok0 mixed (fn := Try.f11) (by kernel_rfl) (by kernel_rfl) (by kernel_rfl) (tabOk_none _)
theorem co_gives (t : OL) (n : W6) (h : (orTree t n).holds (fun q => flat q = some (.bool true))) :
    Gives (afunR PR (orE t) [65, 69, 73, 77, 82, 87, 91, 95, 101] (fun _ => none) 10 11 [c6.agg.enc n]) (kBool.val true) :=
  givesOf (orders_law t n) h
theorem co_pure : PureOk PR 11 (fn1 c6.agg kBool (fun _ => true)) :=
  pure1 co_ctx (fun n => co_gives olO n (orTree_true olO_ok n))
theorem co_fn (n : W6) : fn1 c6.agg kBool (fun _ => true) [c6.agg.enc n] = some (true, kBool.enc true) := by kernel_rfl
theorem co_rvs (n : W6) (ρ : Ren) : Rvs ρ [c6.agg.enc n] [c6.agg.val n] :=
  Rvs.of_flatL (by simp [flatL, c6.agg.h1])
end Go.Rq

namespace Go.Proofs.Ytdbcjiggimppdaa
open Go Go.Rq Go.RowKit

theorem own : ownKnob Try.prog.godebug = none := by kernel_rfl
theorem laidOut : laidOutB Try.prog = true := by kernel_rfl

theorem orders_calls (n : W6) {args : Array Value} (h : args.toList = [c6.agg.val n]) (w : World) : Calls Try.prog 11 args w (fun e w' => e = .returned (.bool true) ∧ Below w.heap.size w w') :=
  call_pure co_pure (co_fn n) (b := true) rfl (fun ρ => by rw [h]; exact co_rvs n ρ)

theorem orders_spec : LawSpec Rows.curveOrdersSpec 1 := ⟨rfl, fun H ds h => by
  match ds, h with
  | [d1], _ => rfl⟩

theorem param_ok : ∀ t ∈ Try.f11.params.toList, Try.prog.readableRec t = true ∧ t < Try.prog.types.size := by
  have h : (Try.f11.params.toList.all fun t => Try.prog.readableRec t && Nat.blt t Try.prog.types.size) = true := by kernel_rfl
  intro t ht
  have := List.all_eq_true.1 h t ht
  rw [Bool.and_eq_true] at this
  exact ⟨this.1, Nat.le_of_ble_eq_true this.2⟩

def zeroArgs : Array Value := #[c6.agg.val zeroW]

set_option maxRecDepth 100000 in
theorem orders_lifted (os : Os) (started : os.Started) (H : Type) (enc : TypeId × Value → H) :
    ReturnsInHanded {} Try.checked os 11 .any (Rows.curveOrdersSpec.pre6 enc Try.prog Try.f11 Rows.curveOrdersRow.domain false) (Rows.curveOrdersSpec.post enc Try.prog Try.f11 false true false false) := by
  refine law_handed (C := Try.checked) own started (by kernel_rfl) Try.func11
    (ChangeSpec.witness6 (enc := enc) (C := Try.checked) false ⟨#[], zeroArgs, []⟩ 30 (by kernel_rfl) (by kernel_rfl) (by kernel_rfl) (by kernel_rfl))
    orders_spec rfl rfl (tb := 4) (by kernel_rfl) laidOut param_ok ?_
  intro W base args ds p hval hA
  have h1 : DataW.TrodAll enc Try.prog W 0 (fun _ => true) true [47] args.toList ds p := hA
  obtain ⟨v1, l1, d1, e1, p1, q1, hl1, -, -, -, h2⟩ := ChangeShapes.trodAll_cons h1
  obtain ⟨rfl, -⟩ := ChangeShapes.trodAll_nil h2
  have g : ∀ (j : Nat) (v : Value), [v1][j]? = some v → args[j]? = some v := fun j v hj => by rw [← hl1] at hj; simpa using hj
  have k1 := hval 0 47 v1 (by kernel_rfl) (g 0 v1 rfl)
  obtain ⟨n, rfl⟩ := open_num (u := 45) Try.underlying45 (okWide_arr Try.underlying47 k1) (by kernel_rfl) (by kernel_rfl)
  exact orders_calls n hl1 W

theorem curveOrders_holds : Rows.CurveOrdersSaid :=
  OpenClaim.holds_of_wide 11 Try.f11 rfl rfl rfl rfl rfl rfl rfl ⟨rfl, rfl, rfl, rfl, rfl⟩ rfl rfl rfl rfl rfl (by kernel_rfl) Try.func11 (by kernel_rfl)
    (of_decide_eq_true (by kernel_rfl)) (by unfold Func.isWrapper; first | (rw [if_pos (by decide +kernel)]; kernel_rfl) | (rw [if_neg (by decide +kernel)]; exact ⟨rfl, rfl⟩))
    (fun os started H enc _ => orders_lifted os started H enc)
#print axioms curveOrders_holds
end Go.Proofs.Ytdbcjiggimppdaa
