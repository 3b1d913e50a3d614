/-
  What is proved: the law CurveSums returns true, whatever lists of points and of numbers it is handed.
  Conditions: none.
-/
import Derived.Test.YtdbcjiggimppdaaRows
import Derived.Test.YtdbcjiggimppdaaRq18
import Derived.Test.YtdbcjiggimppdaaRq11
namespace Go.Proofs.Ytdbcjiggimppdaa
open Go Go.Rq Go.RowKit

theorem own : ownKnob Try.prog.godebug = none := by kernel_rfl
theorem laidOut : laidOutB Try.prog = true := by kernel_rfl

theorem sums_spec : LawSpec Rows.curveSumsSpec 3 := ⟨rfl, fun H ds h => by
  match ds, h with
  | [d1, d2, d3], _ => rfl⟩

theorem param_ok : ∀ t ∈ Try.f7.params.toList, Try.prog.readableRec t = true ∧ t < Try.prog.types.size := by
  have h : (Try.f7.params.toList.all fun t => Try.prog.readableRec t && Nat.blt t Try.prog.types.size) = true := by kernel_rfl
  intro t ht
  have := List.all_eq_true.1 h t ht
  rw [Bool.and_eq_true] at this
  exact ⟨this.1, Nat.le_of_ble_eq_true this.2⟩

section
variable {H : Type} {enc : TypeId × Value → H} {w : World} {base : Nat} {spare : Nat → Bool} {held : Bool}
theorem tell_num : Tells enc Try.prog w base spare held 47 c6 := tells_num Try.underlying47 Try.underlying45 (by kernel_rfl) (by kernel_rfl)
theorem tell_p1 : Tells enc Try.prog w base spare held 49 aW :=
  tells_ap (C := c6) Try.underlying49 rfl rfl rfl (by kernel_rfl) (by kernel_rfl) (by kernel_rfl) (by kernel_rfl) (by kernel_rfl) (by kernel_rfl) Try.underlying4 (by kernel_rfl) rfl tell_num tell_num
theorem tell_e2 : Tells enc Try.prog w base spare held 62 c12 := tells_two Try.underlying62 (by kernel_rfl) (by kernel_rfl) tell_num
theorem tell_p2 : Tells enc Try.prog w base spare held 64 aD :=
  tells_ap (C := c12) Try.underlying64 rfl rfl rfl (by kernel_rfl) (by kernel_rfl) (by kernel_rfl) (by kernel_rfl) (by kernel_rfl) (by kernel_rfl) Try.underlying4 (by kernel_rfl) rfl tell_e2 tell_e2
end

def zeroArgs : Array Value := #[.slice none 0 0, .slice none 0 0, .slice none 0 0]

set_option maxRecDepth 100000 in
theorem sums_lifted (os : Os) (started : os.Started) (H : Type) (enc : TypeId × Value → H) :
    ReturnsInHanded {} Try.checked os 7 .any (Rows.curveSumsSpec.pre6 enc Try.prog Try.f7 Rows.curveSumsRow.domain false) (Rows.curveSumsSpec.post enc Try.prog Try.f7 false true false false) := by
  refine law_handed (C := Try.checked) own started (by kernel_rfl) Try.func7
    (ChangeSpec.witness6 (enc := enc) (C := Try.checked) false ⟨#[], zeroArgs, []⟩ 30 (by kernel_rfl) (by kernel_rfl) (by kernel_rfl) (by kernel_rfl))
    sums_spec rfl rfl (tb := 4) (by kernel_rfl) laidOut param_ok ?_
  intro W base args ds p hval hA
  have h1 : DataW.TrodAll enc Try.prog W 0 (fun _ => true) true [78, 79, 80] args.toList ds p := hA
  obtain ⟨v1, l1, d1, e1, p1, q1, hl1, -, -, t1, h2⟩ := ChangeShapes.trodAll_cons h1
  obtain ⟨v2, l2, d2, e2, p2, q2, rfl, -, -, t2, h3⟩ := ChangeShapes.trodAll_cons h2
  obtain ⟨v3, l3, d3, e3, p3, q3, rfl, -, -, t3, h4⟩ := ChangeShapes.trodAll_cons h3
  obtain ⟨rfl, -⟩ := ChangeShapes.trodAll_nil h4
  have g : ∀ (j : Nat) (v : Value), [v1, v2, v3][j]? = some v → args[j]? = some v := fun j v hj => by rw [← hl1] at hj; simpa using hj
  have k1 := hval 0 78 v1 (by kernel_rfl) (g 0 v1 rfl)
  have k2 := hval 1 79 v2 (by kernel_rfl) (g 1 v2 rfl)
  have k3 := hval 2 80 v3 (by kernel_rfl) (g 2 v3 rfl)
  obtain ⟨X1, la, a1, c1, b1⟩ := open_slice Try.underlying78 tell_p1 (by kernel_rfl) k1 t1
  obtain ⟨X2, lb, a2, c2, b2⟩ := open_slice Try.underlying79 tell_p2 (by kernel_rfl) k2 t2
  obtain ⟨X3, ln, a3, c3, b3⟩ := open_slice Try.underlying80 tell_num (by kernel_rfl) k3 t3
  have ha : args = #[v1, v2, v3] := by
    apply Array.ext'
    rw [hl1]
  rw [ha]
  exact cu_calls ⟨a1⟩ ⟨a2⟩ ⟨a3⟩ c1 c2 c3 b1 b2 b3

theorem curveSums_holds : Rows.CurveSumsSaid :=
  OpenClaim.holds_of_wide 7 Try.f7 rfl rfl rfl rfl rfl rfl rfl ⟨rfl, rfl, rfl, rfl, rfl⟩ rfl rfl rfl rfl rfl (by kernel_rfl) Try.func7 (by kernel_rfl)
    (of_decide_eq_true (by kernel_rfl)) (by unfold Func.isWrapper; first | (rw [if_pos (by decide +kernel)]; kernel_rfl) | (rw [if_neg (by decide +kernel)]; exact ⟨rfl, rfl⟩))
    (fun os started H enc _ => sums_lifted os started H enc)
#print axioms curveSums_holds
end Go.Proofs.Ytdbcjiggimppdaa
