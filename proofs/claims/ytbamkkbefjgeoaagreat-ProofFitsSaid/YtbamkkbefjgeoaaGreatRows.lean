/-
  No cell of these rows narrows 'for every input' (looked for: loops, veiled, ifaces, maps, wideKeys, modest, calm, conditions, laid).
  DERIVED. THE GIVEN ROWS OF THIS SEAT. 3 by the template 'for every input the law returns true; each argument reads behind the call as it read before'; 0 by the template 'total and deterministic' (their statements: YtbamkkbefjgeoaaGreatTotals.lean).
  GIVEN WITH THE SEED: the statements are not yours to turn. If you find one false, say at which input.
  Laid BY PROGRAM, IN A SANDBOX (cutbox-rows.mjs): the forced cells as the released guide's own fill.sh prints them over the translation fb1397a1f394877c… (all of the seat's roots in one cut). By AI agents, Wed Nov 11 2026. No macro, syntax, notation, axiom, sorry.
-/
import Derived.Test.YtbamkkbefjgeoaaGreatChecked
import GoSem.Claim
import GoSem.ClaimJoined
import GoSem.ClaimMapViews
import Derived.JoinedTies
import Derived.KernelRfl
namespace Go.Proofs.YtbamkkbefjgeoaaGreat
/- THE CELL 'sum', in the pinned program and in every row, IS THE sha256 OF THE DUMP (.gsa) THAT YtbamkkbefjgeoaaGreatProg.lean LOADS. Nothing in Lean hashes anything: it is a label: what it is worth is what the hold of that sum in a sandbox is worth. -/
noncomputable def Tryz.pinned : Pinned := { name := "ytbamkkbefjgeoaagreat", sum := "fb1397a1f394877ce011b2bf8676524e18e707f7ba9d32e71726248b2582179d", checked := Tryz.checked }
namespace Rows
def none {H : Type} : Left H := { results := [], args := [] }

/-- 'reliquarylaw20.PledgeSums': WHATEVER THE INPUT: true; the input reads as it did. -/
def pledgeSumsSpec : ChangeSpec := { name := "pledgeSums", fn := fun _ => fun
  | [d] => { results := [.lit (.bool true)], args := [d] }
  | _ => none }
def pledgeSumsRow : OpenClaim := { program := "ytbamkkbefjgeoaagreat", sum := "fb1397a1f394877ce011b2bf8676524e18e707f7ba9d32e71726248b2582179d", func := "reliquary/reliquarylaw20.PledgeSums", spec := "pledgeSums", inPlace := ["math/bits.Add64", "math/bits.Sub64"], unfollowed := true, recurses := true, named := ["math/bits.divideError", "math/bits.overflowError"], apart := false }
def PledgeSumsSaid : Prop := pledgeSumsRow.holds Tryz.pinned (OpenSpec.ofChange pledgeSumsSpec)

/-- ITS FALSE NEIGHBOUR: 'it returns false'. Refute it at one input. -/
def pledgeSumsWrong : ChangeSpec := { name := "pledgeSums", fn := fun _ => fun
  | [d] => { results := [.lit (.bool false)], args := [d] }
  | _ => none }
def PledgeSumsWrongFalsely : Prop := pledgeSumsRow.holds Tryz.pinned (OpenSpec.ofChange pledgeSumsWrong)

/-- 'reliquarylaw21.ProofFits': WHATEVER THE INPUT: true; the input reads as it did. -/
def proofFitsSpec : ChangeSpec := { name := "proofFits", fn := fun _ => fun
  | [d1, d2, d3, d4, d5, d6, d7, d8] => { results := [.lit (.bool true)], args := [d1, d2, d3, d4, d5, d6, d7, d8] }
  | _ => none }
def proofFitsRow : OpenClaim := { program := "ytbamkkbefjgeoaagreat", sum := "fb1397a1f394877ce011b2bf8676524e18e707f7ba9d32e71726248b2582179d", func := "reliquary/reliquarylaw21.ProofFits", spec := "proofFits", inPlace := ["math/bits.Add64", "math/bits.Sub64"], unfollowed := true, recurses := true, named := ["math/bits.divideError", "math/bits.overflowError"], apart := false }
def ProofFitsSaid : Prop := proofFitsRow.holds Tryz.pinned (OpenSpec.ofChange proofFitsSpec)

/-- ITS FALSE NEIGHBOUR: 'it returns false'. Refute it at one input. -/
def proofFitsWrong : ChangeSpec := { name := "proofFits", fn := fun _ => fun
  | [d1, d2, d3, d4, d5, d6, d7, d8] => { results := [.lit (.bool false)], args := [d1, d2, d3, d4, d5, d6, d7, d8] }
  | _ => none }
def ProofFitsWrongFalsely : Prop := proofFitsRow.holds Tryz.pinned (OpenSpec.ofChange proofFitsWrong)

/-- 'reliquarylaw12.WireKnown': WHATEVER THE INPUT: true; the input reads as it did. -/
def wireKnownSpec : ChangeSpec := { name := "wireKnown", fn := fun _ => fun
  | [] => { results := [.lit (.bool true)], args := [] }
  | _ => none }
def wireKnownRow : OpenClaim := { program := "ytbamkkbefjgeoaagreat", sum := "fb1397a1f394877ce011b2bf8676524e18e707f7ba9d32e71726248b2582179d", func := "reliquary/reliquarylaw12.WireKnown", spec := "wireKnown", inPlace := ["math/bits.Add64", "math/bits.Sub64"], unfollowed := true, recurses := true, named := ["math/bits.divideError", "math/bits.overflowError"], apart := false }
def WireKnownSaid : Prop := wireKnownRow.holds Tryz.pinned (OpenSpec.ofChange wireKnownSpec)

/-- ITS FALSE NEIGHBOUR: 'it returns false'. Refute it at one input. -/
def wireKnownWrong : ChangeSpec := { name := "wireKnown", fn := fun _ => fun
  | [] => { results := [.lit (.bool false)], args := [] }
  | _ => none }
def WireKnownWrongFalsely : Prop := wireKnownRow.holds Tryz.pinned (OpenSpec.ofChange wireKnownWrong)

/- THE SECOND FORM. 'bulk': how many values and letters a reading holds, each counted each time it is reached (what is shared counts as often as it is met; a slice's spare places count too). A statement '..UptoSaid' is the law's where the arguments, and the package variables that the reading takes, are together of bulk at most 1048576: NARROWER than '..Said'. Prove '..Said' where nothing that the law and all that it calls make is longer than what came in: it says more and counts as full. Else prove '..UptoSaid'. A law counts once. -/
mutual
def uptoBulk {H : Type} : DataW H → Nat
  | .lit (.string bytes) => bytes.length + 1
  | .lit _ => 1
  | .nil => 1
  | .ptr d => uptoBulk d + 1
  | .slice elems spare => uptoBulkAll elems + uptoBulkAll spare + 1
  | .agg parts => uptoBulkAll parts + 1
  | .iface _ d => uptoBulk d + 1
  | .map entries => uptoBulkEntries entries + 1
  | .held _ => 1
def uptoBulkAll {H : Type} : List (DataW H) → Nat
  | [] => 0
  | d :: r => uptoBulk d + uptoBulkAll r
def uptoBulkEntries {H : Type} : List (Lit × DataW H) → Nat
  | [] => 0
  | x :: r => uptoBulkEntry x + uptoBulkEntries r
def uptoBulkEntry {H : Type} : Lit × DataW H → Nat
  | (.string bytes, d) => bytes.length + uptoBulk d + 1
  | (_, d) => uptoBulk d + 1
 end
def uptoSmall : (H : Type) → List (DataW H) → Bool := fun _ ds => decide (uptoBulkAll ds ≤ 1048576)
def OpenSpec.upto (s : _root_.Go.ChangeSpec) : _root_.Go.OpenSpec := { _root_.Go.OpenSpec.ofChange s with cond := some uptoSmall }

/-- 'reliquarylaw20.PledgeSums', WHERE WHAT IT READS IS OF BULK AT MOST 1048576: true; the input reads as it did. -/
def pledgeSumsUptoRow : OpenClaim := { program := "ytbamkkbefjgeoaagreat", sum := "fb1397a1f394877ce011b2bf8676524e18e707f7ba9d32e71726248b2582179d", func := "reliquary/reliquarylaw20.PledgeSums", spec := "pledgeSums", inPlace := ["math/bits.Add64", "math/bits.Sub64"], unfollowed := true, recurses := true, named := ["math/bits.divideError", "math/bits.overflowError"], apart := false, narrowed := true }
def PledgeSumsUptoSaid : Prop := pledgeSumsUptoRow.holds Tryz.pinned (OpenSpec.upto pledgeSumsSpec)

/-- 'reliquarylaw21.ProofFits', WHERE WHAT IT READS IS OF BULK AT MOST 1048576: true; the input reads as it did. -/
def proofFitsUptoRow : OpenClaim := { program := "ytbamkkbefjgeoaagreat", sum := "fb1397a1f394877ce011b2bf8676524e18e707f7ba9d32e71726248b2582179d", func := "reliquary/reliquarylaw21.ProofFits", spec := "proofFits", inPlace := ["math/bits.Add64", "math/bits.Sub64"], unfollowed := true, recurses := true, named := ["math/bits.divideError", "math/bits.overflowError"], apart := false, narrowed := true }
def ProofFitsUptoSaid : Prop := proofFitsUptoRow.holds Tryz.pinned (OpenSpec.upto proofFitsSpec)

/-- 'reliquarylaw12.WireKnown', WHERE WHAT IT READS IS OF BULK AT MOST 1048576: true; the input reads as it did. -/
def wireKnownUptoRow : OpenClaim := { program := "ytbamkkbefjgeoaagreat", sum := "fb1397a1f394877ce011b2bf8676524e18e707f7ba9d32e71726248b2582179d", func := "reliquary/reliquarylaw12.WireKnown", spec := "wireKnown", inPlace := ["math/bits.Add64", "math/bits.Sub64"], unfollowed := true, recurses := true, named := ["math/bits.divideError", "math/bits.overflowError"], apart := false, narrowed := true }
def WireKnownUptoSaid : Prop := wireKnownUptoRow.holds Tryz.pinned (OpenSpec.upto wireKnownSpec)

end Rows
end Go.Proofs.YtbamkkbefjgeoaaGreat
