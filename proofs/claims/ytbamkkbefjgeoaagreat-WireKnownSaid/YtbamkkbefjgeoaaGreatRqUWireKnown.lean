/-
  What is proved: the law WireKnown returns true.
  Conditions: none (it has no arguments).
-/
import Derived.Test.YtbamkkbefjgeoaaGreatRows
import Derived.Test.YtbamkkbefjgeoaaGreatRq23
import Derived.Test.YtbamkkbefjgeoaaGreatRq28
import Derived.Test.YtbamkkbefjgeoaaGreatRq17
import Derived.OpenShut
import Derived.Stop.Joined
namespace Go.Proofs.YtbamkkbefjgeoaaGreat
open Go Go.Rq Go.RowKit

theorem own : ownKnob Tryz.prog.godebug = none := by kernel_rfl
theorem laidOut : laidOutB Tryz.prog = true := by kernel_rfl

theorem known_calls {xs : Array Value} (hk : xs.size = 0) (w : World) : Calls Tryz.prog 5 xs w (fun e w' => e = .returned (.bool true) ∧ Below w.heap.size w w') := by
  have h0 : xs = #[] := Array.eq_empty_of_size_eq_zero hk
  subst h0
  exact call_pure (P := Go.Rq.PR) (b := true) Go.Rq.Cl.law_pure Go.Rq.Cl.law_run rfl (fun ρ => Rvs.nil) (fun g cs e => by cases e)

theorem known_spec : LawSpec Rows.wireKnownSpec 0 := ⟨rfl, fun H ds h => by
  match ds, h with
  | [], _ => rfl⟩

set_option maxRecDepth 100000 in
theorem known_lifted (os : Os) (started : os.Started) (H : Type) (enc : TypeId × Value → H) :
    ReturnsInHanded {} Tryz.checked os 5 .any (Rows.wireKnownSpec.pre6 enc Tryz.prog Tryz.f5 Rows.wireKnownRow.domain false) (Rows.wireKnownSpec.post enc Tryz.prog Tryz.f5 false true false false) := by
  refine law_handed (C := Tryz.checked) own started (by kernel_rfl) Tryz.func5
    (ChangeSpec.witness6 (enc := enc) (C := Tryz.checked) false ⟨#[], #[], []⟩ 8 (by kernel_rfl) (by kernel_rfl) (by kernel_rfl) (by kernel_rfl))
    known_spec rfl rfl (tb := 4) (by kernel_rfl) laidOut (fun t ht => absurd ht (by simp)) ?_
  intro W base args ds p _ hA
  refine known_calls ?_ W
  have h1 : DataW.TrodAll enc Tryz.prog W 0 (fun _ => true) true [] args.toList ds p := hA
  obtain ⟨rfl, _⟩ := ChangeShapes.trodAll_none h1
  rfl

theorem wireKnown_holds : Rows.WireKnownSaid :=
  OpenClaim.holds_of_wide 5 Tryz.f5 rfl rfl rfl rfl rfl rfl rfl ⟨rfl, rfl, rfl, rfl, rfl⟩ rfl rfl rfl rfl rfl (by kernel_rfl) Tryz.func5 wireKnown_joined
    (of_decide_eq_true (by kernel_rfl)) (by unfold Func.isWrapper; first | (rw [if_pos (by decide +kernel)]; kernel_rfl) | (rw [if_neg (by decide +kernel)]; exact ⟨rfl, rfl⟩))
    (fun os started H enc _ => known_lifted os started H enc)
#print axioms wireKnown_holds
end Go.Proofs.YtbamkkbefjgeoaaGreat
