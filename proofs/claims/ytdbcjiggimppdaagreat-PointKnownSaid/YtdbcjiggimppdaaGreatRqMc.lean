/-
  What is proved: the law PointKnown returns true.
  Conditions: none (it has no arguments).
-/
import Derived.Test.YtdbcjiggimppdaaGreatRows
import Derived.Test.YtdbcjiggimppdaaGreatRq20
import Derived.Test.YtdbcjiggimppdaaGreatRq12
namespace Go.Proofs.YtdbcjiggimppdaaGreat
open Go Go.Rq Go.RowKit

theorem own : ownKnob Tryz.prog.godebug = none := by kernel_rfl
theorem laidOut : laidOutB Tryz.prog = true := by kernel_rfl

theorem known_calls {xs : Array Value} (hk : xs.size = 0) (w : World) : Calls Tryz.prog 5 xs w (fun e w' => e = .returned (.bool true) ∧ Below w.heap.size w w') :=
  any_calls pk_ctx (k := 0) (y := .bool true) (Tree.holds_strict (by rw [show List.replicate 0 AV.any = [] from rfl, pk_run]; rfl)) hk w

theorem known_spec : LawSpec Rows.pointKnownSpec 0 := ⟨rfl, fun H ds h => by
  match ds, h with
  | [], _ => rfl⟩

set_option maxRecDepth 100000 in
theorem known_lifted (os : Os) (started : os.Started) (H : Type) (enc : TypeId × Value → H) :
    ReturnsInHanded {} Tryz.checked os 5 .any (Rows.pointKnownSpec.pre6 enc Tryz.prog Tryz.f5 Rows.pointKnownRow.domain false) (Rows.pointKnownSpec.post enc Tryz.prog Tryz.f5 false true false false) := by
  refine law_handed (C := Tryz.checked) own started (by kernel_rfl) Tryz.func5
    (ChangeSpec.witness6 (enc := enc) (C := Tryz.checked) false ⟨#[], #[], []⟩ 8 (by kernel_rfl) (by kernel_rfl) (by kernel_rfl) (by kernel_rfl))
    known_spec rfl rfl (tb := 4) (by kernel_rfl) laidOut (fun t ht => absurd ht (by simp)) ?_
  intro W base args ds p _ hA
  refine known_calls ?_ W
  have h1 : DataW.TrodAll enc Tryz.prog W 0 (fun _ => true) true [] args.toList ds p := hA
  obtain ⟨rfl, _⟩ := ChangeShapes.trodAll_none h1
  rfl

theorem pointKnown_holds : Rows.PointKnownSaid :=
  OpenClaim.holds_of_wide 5 Tryz.f5 rfl rfl rfl rfl rfl rfl rfl ⟨rfl, rfl, rfl, rfl, rfl⟩ rfl rfl rfl rfl rfl (by kernel_rfl) Tryz.func5 (by kernel_rfl)
    (of_decide_eq_true (by kernel_rfl)) (by unfold Func.isWrapper; first | (rw [if_pos (by decide +kernel)]; kernel_rfl) | (rw [if_neg (by decide +kernel)]; exact ⟨rfl, rfl⟩))
    (fun os started H enc _ => known_lifted os started H enc)
#print axioms pointKnown_holds
end Go.Proofs.YtdbcjiggimppdaaGreat
