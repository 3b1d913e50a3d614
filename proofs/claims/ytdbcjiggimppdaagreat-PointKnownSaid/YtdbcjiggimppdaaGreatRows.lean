/-
  No cell of these rows narrows 'for every input' (looked for: loops, veiled, ifaces, maps, wideKeys, modest, calm, conditions, laid).
  DERIVED. THE GIVEN ROWS OF THIS SEAT. 5 by the template 'for every input the law returns true; each argument reads behind the call as it read before'; 0 by the template 'total and deterministic' (their statements: YtdbcjiggimppdaaGreatTotals.lean).
  GIVEN WITH THE SEED: the statements are not yours to turn. If you find one false, say at which input.
  Laid BY PROGRAM, IN A SANDBOX (cutbox-rows.mjs): the forced cells as the released guide's own fill.sh prints them over the translation 04458cadd8f3529e… (all of the seat's roots in one cut). By AI agents, Wed Nov 11 2026. No macro, syntax, notation, axiom, sorry.
-/
import Derived.Test.YtdbcjiggimppdaaGreatChecked
import GoSem.Claim
import GoSem.ClaimJoined
import GoSem.ClaimMapViews
import Derived.JoinedTies
import Derived.KernelRfl
namespace Go.Proofs.YtdbcjiggimppdaaGreat
/- THE CELL 'sum', in the pinned program and in every row, IS THE sha256 OF THE DUMP (.gsa) THAT YtdbcjiggimppdaaGreatProg.lean LOADS. Nothing in Lean hashes anything: it is a label: what it is worth is what the hold of that sum in a sandbox is worth. -/
noncomputable def Tryz.pinned : Pinned := { name := "ytdbcjiggimppdaagreat", sum := "04458cadd8f3529e5c416fd7bf6a2c65635fd01c35c9d9a0f27873358e25aaa7", checked := Tryz.checked }
namespace Rows
def none {H : Type} : Left H := { results := [], args := [] }

/-- 'reliquarylaw05.PointSecond': WHATEVER THE INPUT: true; the input reads as it did. -/
def pointSecondSpec : ChangeSpec := { name := "pointSecond", fn := fun _ => fun
  | [d1, d2, d3] => { results := [.lit (.bool true)], args := [d1, d2, d3] }
  | _ => none }
def pointSecondRow : OpenClaim := { program := "ytdbcjiggimppdaagreat", sum := "04458cadd8f3529e5c416fd7bf6a2c65635fd01c35c9d9a0f27873358e25aaa7", func := "reliquary/reliquarylaw05.PointSecond", spec := "pointSecond", inPlace := ["math/bits.Add64", "math/bits.Sub64", "internal/bytealg.IndexByteString"], unfollowed := true, recurses := true, apart := false }
def PointSecondSaid : Prop := pointSecondRow.holds Tryz.pinned (OpenSpec.ofChange pointSecondSpec)

/-- ITS FALSE NEIGHBOUR: 'it returns false'. Refute it at one input. -/
def pointSecondWrong : ChangeSpec := { name := "pointSecond", fn := fun _ => fun
  | [d1, d2, d3] => { results := [.lit (.bool false)], args := [d1, d2, d3] }
  | _ => none }
def PointSecondWrongFalsely : Prop := pointSecondRow.holds Tryz.pinned (OpenSpec.ofChange pointSecondWrong)

/-- 'reliquarylaw05.PointFirst': WHATEVER THE INPUT: true; the input reads as it did. -/
def pointFirstSpec : ChangeSpec := { name := "pointFirst", fn := fun _ => fun
  | [d1, d2, d3] => { results := [.lit (.bool true)], args := [d1, d2, d3] }
  | _ => none }
def pointFirstRow : OpenClaim := { program := "ytdbcjiggimppdaagreat", sum := "04458cadd8f3529e5c416fd7bf6a2c65635fd01c35c9d9a0f27873358e25aaa7", func := "reliquary/reliquarylaw05.PointFirst", spec := "pointFirst", inPlace := ["math/bits.Add64", "math/bits.Sub64", "internal/bytealg.IndexByteString"], unfollowed := true, recurses := true, apart := false }
def PointFirstSaid : Prop := pointFirstRow.holds Tryz.pinned (OpenSpec.ofChange pointFirstSpec)

/-- ITS FALSE NEIGHBOUR: 'it returns false'. Refute it at one input. -/
def pointFirstWrong : ChangeSpec := { name := "pointFirst", fn := fun _ => fun
  | [d1, d2, d3] => { results := [.lit (.bool false)], args := [d1, d2, d3] }
  | _ => none }
def PointFirstWrongFalsely : Prop := pointFirstRow.holds Tryz.pinned (OpenSpec.ofChange pointFirstWrong)

/-- 'reliquarylaw05.PointKnown': WHATEVER THE INPUT: true; the input reads as it did. -/
def pointKnownSpec : ChangeSpec := { name := "pointKnown", fn := fun _ => fun
  | [] => { results := [.lit (.bool true)], args := [] }
  | _ => none }
def pointKnownRow : OpenClaim := { program := "ytdbcjiggimppdaagreat", sum := "04458cadd8f3529e5c416fd7bf6a2c65635fd01c35c9d9a0f27873358e25aaa7", func := "reliquary/reliquarylaw05.PointKnown", spec := "pointKnown", inPlace := ["math/bits.Add64", "math/bits.Sub64", "internal/bytealg.IndexByteString"], unfollowed := true, recurses := true, apart := false }
def PointKnownSaid : Prop := pointKnownRow.holds Tryz.pinned (OpenSpec.ofChange pointKnownSpec)

/-- ITS FALSE NEIGHBOUR: 'it returns false'. Refute it at one input. -/
def pointKnownWrong : ChangeSpec := { name := "pointKnown", fn := fun _ => fun
  | [] => { results := [.lit (.bool false)], args := [] }
  | _ => none }
def PointKnownWrongFalsely : Prop := pointKnownRow.holds Tryz.pinned (OpenSpec.ofChange pointKnownWrong)

/-- 'reliquarylaw05.PointBack': WHATEVER THE INPUT: true; the input reads as it did. -/
def pointBackSpec : ChangeSpec := { name := "pointBack", fn := fun _ => fun
  | [d1, d2, d3, d4] => { results := [.lit (.bool true)], args := [d1, d2, d3, d4] }
  | _ => none }
def pointBackRow : OpenClaim := { program := "ytdbcjiggimppdaagreat", sum := "04458cadd8f3529e5c416fd7bf6a2c65635fd01c35c9d9a0f27873358e25aaa7", func := "reliquary/reliquarylaw05.PointBack", spec := "pointBack", inPlace := ["internal/bytealg.IndexByteString", "math/bits.Add64", "math/bits.Sub64"], unfollowed := true, recurses := true, apart := false }
def PointBackSaid : Prop := pointBackRow.holds Tryz.pinned (OpenSpec.ofChange pointBackSpec)

/-- ITS FALSE NEIGHBOUR: 'it returns false'. Refute it at one input. -/
def pointBackWrong : ChangeSpec := { name := "pointBack", fn := fun _ => fun
  | [d1, d2, d3, d4] => { results := [.lit (.bool false)], args := [d1, d2, d3, d4] }
  | _ => none }
def PointBackWrongFalsely : Prop := pointBackRow.holds Tryz.pinned (OpenSpec.ofChange pointBackWrong)

/-- 'reliquarylaw05.PointNear': WHATEVER THE INPUT: true; the input reads as it did. -/
def pointNearSpec : ChangeSpec := { name := "pointNear", fn := fun _ => fun
  | [d1, d2] => { results := [.lit (.bool true)], args := [d1, d2] }
  | _ => none }
def pointNearRow : OpenClaim := { program := "ytdbcjiggimppdaagreat", sum := "04458cadd8f3529e5c416fd7bf6a2c65635fd01c35c9d9a0f27873358e25aaa7", func := "reliquary/reliquarylaw05.PointNear", spec := "pointNear", inPlace := ["internal/bytealg.IndexByteString", "math/bits.Add64", "math/bits.Sub64"], unfollowed := true, recurses := true, apart := false }
def PointNearSaid : Prop := pointNearRow.holds Tryz.pinned (OpenSpec.ofChange pointNearSpec)

/-- ITS FALSE NEIGHBOUR: 'it returns false'. Refute it at one input. -/
def pointNearWrong : ChangeSpec := { name := "pointNear", fn := fun _ => fun
  | [d1, d2] => { results := [.lit (.bool false)], args := [d1, d2] }
  | _ => none }
def PointNearWrongFalsely : Prop := pointNearRow.holds Tryz.pinned (OpenSpec.ofChange pointNearWrong)

/- THE SECOND FORM. 'bulk': how many values and letters a reading holds, each counted each time it is reached (what is shared counts as often as it is met; a slice's spare places count too). A statement '..UptoSaid' is the law's where the arguments, and the package variables that the reading takes, are together of bulk at most 1048576: NARROWER than '..Said'. Prove '..Said' where nothing that the law and all that it calls make is longer than what came in: it says more and counts as full. Else prove '..UptoSaid'. A law counts once. -/
mutual
def uptoBulk {H : Type} : DataW H → Nat
  | .lit (.string bytes) => bytes.length + 1
  | .lit _ => 1
  | .nil => 1
  | .ptr d => uptoBulk d + 1
  | .slice elems spare => uptoBulkAll elems + uptoBulkAll spare + 1
  | .agg parts => uptoBulkAll parts + 1
  | .iface _ d => uptoBulk d + 1
  | .map entries => uptoBulkEntries entries + 1
  | .held _ => 1
def uptoBulkAll {H : Type} : List (DataW H) → Nat
  | [] => 0
  | d :: r => uptoBulk d + uptoBulkAll r
def uptoBulkEntries {H : Type} : List (Lit × DataW H) → Nat
  | [] => 0
  | x :: r => uptoBulkEntry x + uptoBulkEntries r
def uptoBulkEntry {H : Type} : Lit × DataW H → Nat
  | (.string bytes, d) => bytes.length + uptoBulk d + 1
  | (_, d) => uptoBulk d + 1
 end
def uptoSmall : (H : Type) → List (DataW H) → Bool := fun _ ds => decide (uptoBulkAll ds ≤ 1048576)
def OpenSpec.upto (s : _root_.Go.ChangeSpec) : _root_.Go.OpenSpec := { _root_.Go.OpenSpec.ofChange s with cond := some uptoSmall }

/-- 'reliquarylaw05.PointSecond', WHERE WHAT IT READS IS OF BULK AT MOST 1048576: true; the input reads as it did. -/
def pointSecondUptoRow : OpenClaim := { program := "ytdbcjiggimppdaagreat", sum := "04458cadd8f3529e5c416fd7bf6a2c65635fd01c35c9d9a0f27873358e25aaa7", func := "reliquary/reliquarylaw05.PointSecond", spec := "pointSecond", inPlace := ["math/bits.Add64", "math/bits.Sub64", "internal/bytealg.IndexByteString"], unfollowed := true, recurses := true, apart := false, narrowed := true }
def PointSecondUptoSaid : Prop := pointSecondUptoRow.holds Tryz.pinned (OpenSpec.upto pointSecondSpec)

/-- 'reliquarylaw05.PointFirst', WHERE WHAT IT READS IS OF BULK AT MOST 1048576: true; the input reads as it did. -/
def pointFirstUptoRow : OpenClaim := { program := "ytdbcjiggimppdaagreat", sum := "04458cadd8f3529e5c416fd7bf6a2c65635fd01c35c9d9a0f27873358e25aaa7", func := "reliquary/reliquarylaw05.PointFirst", spec := "pointFirst", inPlace := ["math/bits.Add64", "math/bits.Sub64", "internal/bytealg.IndexByteString"], unfollowed := true, recurses := true, apart := false, narrowed := true }
def PointFirstUptoSaid : Prop := pointFirstUptoRow.holds Tryz.pinned (OpenSpec.upto pointFirstSpec)

/-- 'reliquarylaw05.PointKnown', WHERE WHAT IT READS IS OF BULK AT MOST 1048576: true; the input reads as it did. -/
def pointKnownUptoRow : OpenClaim := { program := "ytdbcjiggimppdaagreat", sum := "04458cadd8f3529e5c416fd7bf6a2c65635fd01c35c9d9a0f27873358e25aaa7", func := "reliquary/reliquarylaw05.PointKnown", spec := "pointKnown", inPlace := ["math/bits.Add64", "math/bits.Sub64", "internal/bytealg.IndexByteString"], unfollowed := true, recurses := true, apart := false, narrowed := true }
def PointKnownUptoSaid : Prop := pointKnownUptoRow.holds Tryz.pinned (OpenSpec.upto pointKnownSpec)

/-- 'reliquarylaw05.PointBack', WHERE WHAT IT READS IS OF BULK AT MOST 1048576: true; the input reads as it did. -/
def pointBackUptoRow : OpenClaim := { program := "ytdbcjiggimppdaagreat", sum := "04458cadd8f3529e5c416fd7bf6a2c65635fd01c35c9d9a0f27873358e25aaa7", func := "reliquary/reliquarylaw05.PointBack", spec := "pointBack", inPlace := ["internal/bytealg.IndexByteString", "math/bits.Add64", "math/bits.Sub64"], unfollowed := true, recurses := true, apart := false, narrowed := true }
def PointBackUptoSaid : Prop := pointBackUptoRow.holds Tryz.pinned (OpenSpec.upto pointBackSpec)

/-- 'reliquarylaw05.PointNear', WHERE WHAT IT READS IS OF BULK AT MOST 1048576: true; the input reads as it did. -/
def pointNearUptoRow : OpenClaim := { program := "ytdbcjiggimppdaagreat", sum := "04458cadd8f3529e5c416fd7bf6a2c65635fd01c35c9d9a0f27873358e25aaa7", func := "reliquary/reliquarylaw05.PointNear", spec := "pointNear", inPlace := ["internal/bytealg.IndexByteString", "math/bits.Add64", "math/bits.Sub64"], unfollowed := true, recurses := true, apart := false, narrowed := true }
def PointNearUptoSaid : Prop := pointNearUptoRow.holds Tryz.pinned (OpenSpec.upto pointNearSpec)

end Rows
end Go.Proofs.YtdbcjiggimppdaaGreat
