/-
  What is proved: the law CurveKnown returns true.
  Conditions: none (it has no arguments).
-/
import Derived.Test.YtdbcjiggimppdaaRows
import Derived.Test.YtdbcjiggimppdaaRqBu
import Derived.Test.YtdbcjiggimppdaaRqW
namespace Go.Proofs.Ytdbcjiggimppdaa
open Go Go.Rq Go.RowKit

theorem own : ownKnob Try.prog.godebug = none := by kernel_rfl
theorem laidOut : laidOutB Try.prog = true := by kernel_rfl

theorem known_calls {xs : Array Value} (hk : xs.size = 0) (w : World) : Calls Try.prog 10 xs w (fun e w' => e = .returned (.bool true) ∧ Below w.heap.size w w') :=
  any_calls kn_ctx (k := 0) (y := .bool true) (Tree.holds_strict (by rw [show List.replicate 0 AV.any = [] from rfl, kn_run]; rfl)) hk w

theorem known_spec : LawSpec Rows.curveKnownSpec 0 := ⟨rfl, fun H ds h => by
  match ds, h with
  | [], _ => rfl⟩

set_option maxRecDepth 100000 in
theorem known_lifted (os : Os) (started : os.Started) (H : Type) (enc : TypeId × Value → H) :
    ReturnsInHanded {} Try.checked os 10 .any (Rows.curveKnownSpec.pre6 enc Try.prog Try.f10 Rows.curveKnownRow.domain false) (Rows.curveKnownSpec.post enc Try.prog Try.f10 false true false false) := by
  refine law_handed (C := Try.checked) own started (by kernel_rfl) Try.func10
    (ChangeSpec.witness6 (enc := enc) (C := Try.checked) false ⟨#[], #[], []⟩ 8 (by kernel_rfl) (by kernel_rfl) (by kernel_rfl) (by kernel_rfl))
    known_spec rfl rfl (tb := 4) (by kernel_rfl) laidOut (fun t ht => absurd ht (by simp)) ?_
  intro W base args ds p _ hA
  refine known_calls ?_ W
  have h1 : DataW.TrodAll enc Try.prog W 0 (fun _ => true) true [] args.toList ds p := hA
  obtain ⟨rfl, _⟩ := ChangeShapes.trodAll_none h1
  rfl

theorem curveKnown_holds : Rows.CurveKnownSaid :=
  OpenClaim.holds_of_wide 10 Try.f10 rfl rfl rfl rfl rfl rfl rfl ⟨rfl, rfl, rfl, rfl, rfl⟩ rfl rfl rfl rfl rfl (by kernel_rfl) Try.func10 (by kernel_rfl)
    (of_decide_eq_true (by kernel_rfl)) (by unfold Func.isWrapper; first | (rw [if_pos (by decide +kernel)]; kernel_rfl) | (rw [if_neg (by decide +kernel)]; exact ⟨rfl, rfl⟩))
    (fun os started H enc _ => known_lifted os started H enc)
#print axioms curveKnown_holds
end Go.Proofs.Ytdbcjiggimppdaa
