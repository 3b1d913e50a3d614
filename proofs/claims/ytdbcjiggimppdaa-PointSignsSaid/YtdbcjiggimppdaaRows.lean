/-
  No cell of these rows narrows 'for every input' (looked for: loops, veiled, ifaces, maps, wideKeys, modest, calm, conditions, laid).
  DERIVED. THE GIVEN ROWS OF THIS SEAT. 10 by the template 'for every input the law returns true; each argument reads behind the call as it read before'; 0 by the template 'total and deterministic' (their statements: YtdbcjiggimppdaaTotals.lean).
  GIVEN WITH THE SEED: the statements are not yours to turn. If you find one false, say at which input.
  Laid BY PROGRAM, IN A SANDBOX (cutbox-rows.mjs): the forced cells as the released guide's own fill.sh prints them over the translation 7ac31d72c5933bfa… (all of the seat's roots in one cut). By AI agents, Wed Nov 11 2026. No macro, syntax, notation, axiom, sorry.
-/
import Derived.Test.YtdbcjiggimppdaaChecked
import GoSem.Claim
import GoSem.ClaimJoined
import GoSem.ClaimMapViews
import Derived.JoinedTies
import Derived.KernelRfl
namespace Go.Proofs.Ytdbcjiggimppdaa
/- THE CELL 'sum', in the pinned program and in every row, IS THE sha256 OF THE DUMP (.gsa) THAT YtdbcjiggimppdaaProg.lean LOADS. Nothing in Lean hashes anything: it is a label: what it is worth is what the hold of that sum in a sandbox is worth. -/
noncomputable def Try.pinned : Pinned := { name := "ytdbcjiggimppdaa", sum := "7ac31d72c5933bfa8b3790c68b4feddaeaf6c5f8a725cc666512d6e3e0c00a75", checked := Try.checked }
namespace Rows
def none {H : Type} : Left H := { results := [], args := [] }

/-- 'reliquarylaw12.WireFields': WHATEVER THE INPUT: true; the input reads as it did. -/
def wireFieldsSpec : ChangeSpec := { name := "wireFields", fn := fun _ => fun
  | [d1, d2, d3] => { results := [.lit (.bool true)], args := [d1, d2, d3] }
  | _ => none }
def wireFieldsRow : OpenClaim := { program := "ytdbcjiggimppdaa", sum := "7ac31d72c5933bfa8b3790c68b4feddaeaf6c5f8a725cc666512d6e3e0c00a75", func := "reliquary/reliquarylaw12.WireFields", spec := "wireFields", apart := false }
def WireFieldsSaid : Prop := wireFieldsRow.holds Try.pinned (OpenSpec.ofChange wireFieldsSpec)

/-- ITS FALSE NEIGHBOUR: 'it returns false'. Refute it at one input. -/
def wireFieldsWrong : ChangeSpec := { name := "wireFields", fn := fun _ => fun
  | [d1, d2, d3] => { results := [.lit (.bool false)], args := [d1, d2, d3] }
  | _ => none }
def WireFieldsWrongFalsely : Prop := wireFieldsRow.holds Try.pinned (OpenSpec.ofChange wireFieldsWrong)

/-- 'reliquarylaw04.CurveFirst': WHATEVER THE INPUT: true; the input reads as it did. -/
def curveFirstSpec : ChangeSpec := { name := "curveFirst", fn := fun _ => fun
  | [d1, d2, d3] => { results := [.lit (.bool true)], args := [d1, d2, d3] }
  | _ => none }
def curveFirstRow : OpenClaim := { program := "ytdbcjiggimppdaa", sum := "7ac31d72c5933bfa8b3790c68b4feddaeaf6c5f8a725cc666512d6e3e0c00a75", func := "reliquary/reliquarylaw04.CurveFirst", spec := "curveFirst", inPlace := ["math/bits.Add64", "math/bits.Sub64", "internal/bytealg.IndexByteString"], unfollowed := true, recurses := true, apart := false }
def CurveFirstSaid : Prop := curveFirstRow.holds Try.pinned (OpenSpec.ofChange curveFirstSpec)

/-- ITS FALSE NEIGHBOUR: 'it returns false'. Refute it at one input. -/
def curveFirstWrong : ChangeSpec := { name := "curveFirst", fn := fun _ => fun
  | [d1, d2, d3] => { results := [.lit (.bool false)], args := [d1, d2, d3] }
  | _ => none }
def CurveFirstWrongFalsely : Prop := curveFirstRow.holds Try.pinned (OpenSpec.ofChange curveFirstWrong)

/-- 'reliquarylaw04.CurveSecond': WHATEVER THE INPUT: true; the input reads as it did. -/
def curveSecondSpec : ChangeSpec := { name := "curveSecond", fn := fun _ => fun
  | [d1, d2, d3] => { results := [.lit (.bool true)], args := [d1, d2, d3] }
  | _ => none }
def curveSecondRow : OpenClaim := { program := "ytdbcjiggimppdaa", sum := "7ac31d72c5933bfa8b3790c68b4feddaeaf6c5f8a725cc666512d6e3e0c00a75", func := "reliquary/reliquarylaw04.CurveSecond", spec := "curveSecond", inPlace := ["math/bits.Add64", "math/bits.Sub64", "internal/bytealg.IndexByteString"], unfollowed := true, recurses := true, apart := false }
def CurveSecondSaid : Prop := curveSecondRow.holds Try.pinned (OpenSpec.ofChange curveSecondSpec)

/-- ITS FALSE NEIGHBOUR: 'it returns false'. Refute it at one input. -/
def curveSecondWrong : ChangeSpec := { name := "curveSecond", fn := fun _ => fun
  | [d1, d2, d3] => { results := [.lit (.bool false)], args := [d1, d2, d3] }
  | _ => none }
def CurveSecondWrongFalsely : Prop := curveSecondRow.holds Try.pinned (OpenSpec.ofChange curveSecondWrong)

/-- 'reliquarylaw04.CurveGroup1': WHATEVER THE INPUT: true; the input reads as it did. -/
def curveGroup1Spec : ChangeSpec := { name := "curveGroup1", fn := fun _ => fun
  | [d1, d2, d3] => { results := [.lit (.bool true)], args := [d1, d2, d3] }
  | _ => none }
def curveGroup1Row : OpenClaim := { program := "ytdbcjiggimppdaa", sum := "7ac31d72c5933bfa8b3790c68b4feddaeaf6c5f8a725cc666512d6e3e0c00a75", func := "reliquary/reliquarylaw04.CurveGroup1", spec := "curveGroup1", inPlace := ["internal/bytealg.IndexByteString", "math/bits.Add64", "math/bits.Sub64"], unfollowed := true, recurses := true, apart := false }
def CurveGroup1Said : Prop := curveGroup1Row.holds Try.pinned (OpenSpec.ofChange curveGroup1Spec)

/-- ITS FALSE NEIGHBOUR: 'it returns false'. Refute it at one input. -/
def curveGroup1Wrong : ChangeSpec := { name := "curveGroup1", fn := fun _ => fun
  | [d1, d2, d3] => { results := [.lit (.bool false)], args := [d1, d2, d3] }
  | _ => none }
def CurveGroup1WrongFalsely : Prop := curveGroup1Row.holds Try.pinned (OpenSpec.ofChange curveGroup1Wrong)

/-- 'reliquarylaw04.CurveSums': WHATEVER THE INPUT: true; the input reads as it did. -/
def curveSumsSpec : ChangeSpec := { name := "curveSums", fn := fun _ => fun
  | [d1, d2, d3] => { results := [.lit (.bool true)], args := [d1, d2, d3] }
  | _ => none }
def curveSumsRow : OpenClaim := { program := "ytdbcjiggimppdaa", sum := "7ac31d72c5933bfa8b3790c68b4feddaeaf6c5f8a725cc666512d6e3e0c00a75", func := "reliquary/reliquarylaw04.CurveSums", spec := "curveSums", inPlace := ["internal/bytealg.IndexByteString", "math/bits.Add64", "math/bits.Sub64"], unfollowed := true, recurses := true, apart := false }
def CurveSumsSaid : Prop := curveSumsRow.holds Try.pinned (OpenSpec.ofChange curveSumsSpec)

/-- ITS FALSE NEIGHBOUR: 'it returns false'. Refute it at one input. -/
def curveSumsWrong : ChangeSpec := { name := "curveSums", fn := fun _ => fun
  | [d1, d2, d3] => { results := [.lit (.bool false)], args := [d1, d2, d3] }
  | _ => none }
def CurveSumsWrongFalsely : Prop := curveSumsRow.holds Try.pinned (OpenSpec.ofChange curveSumsWrong)

/-- 'reliquarylaw04.CurveGroup2': WHATEVER THE INPUT: true; the input reads as it did. -/
def curveGroup2Spec : ChangeSpec := { name := "curveGroup2", fn := fun _ => fun
  | [d1, d2, d3] => { results := [.lit (.bool true)], args := [d1, d2, d3] }
  | _ => none }
def curveGroup2Row : OpenClaim := { program := "ytdbcjiggimppdaa", sum := "7ac31d72c5933bfa8b3790c68b4feddaeaf6c5f8a725cc666512d6e3e0c00a75", func := "reliquary/reliquarylaw04.CurveGroup2", spec := "curveGroup2", inPlace := ["internal/bytealg.IndexByteString", "math/bits.Add64", "math/bits.Sub64"], unfollowed := true, recurses := true, apart := false }
def CurveGroup2Said : Prop := curveGroup2Row.holds Try.pinned (OpenSpec.ofChange curveGroup2Spec)

/-- ITS FALSE NEIGHBOUR: 'it returns false'. Refute it at one input. -/
def curveGroup2Wrong : ChangeSpec := { name := "curveGroup2", fn := fun _ => fun
  | [d1, d2, d3] => { results := [.lit (.bool false)], args := [d1, d2, d3] }
  | _ => none }
def CurveGroup2WrongFalsely : Prop := curveGroup2Row.holds Try.pinned (OpenSpec.ofChange curveGroup2Wrong)

/-- 'reliquarylaw04.CurveTimes': WHATEVER THE INPUT: true; the input reads as it did. -/
def curveTimesSpec : ChangeSpec := { name := "curveTimes", fn := fun _ => fun
  | [d1, d2, d3, d4] => { results := [.lit (.bool true)], args := [d1, d2, d3, d4] }
  | _ => none }
def curveTimesRow : OpenClaim := { program := "ytdbcjiggimppdaa", sum := "7ac31d72c5933bfa8b3790c68b4feddaeaf6c5f8a725cc666512d6e3e0c00a75", func := "reliquary/reliquarylaw04.CurveTimes", spec := "curveTimes", inPlace := ["internal/bytealg.IndexByteString", "math/bits.Add64", "math/bits.Sub64"], unfollowed := true, recurses := true, apart := false }
def CurveTimesSaid : Prop := curveTimesRow.holds Try.pinned (OpenSpec.ofChange curveTimesSpec)

/-- ITS FALSE NEIGHBOUR: 'it returns false'. Refute it at one input. -/
def curveTimesWrong : ChangeSpec := { name := "curveTimes", fn := fun _ => fun
  | [d1, d2, d3, d4] => { results := [.lit (.bool false)], args := [d1, d2, d3, d4] }
  | _ => none }
def CurveTimesWrongFalsely : Prop := curveTimesRow.holds Try.pinned (OpenSpec.ofChange curveTimesWrong)

/-- 'reliquarylaw04.CurveKnown': WHATEVER THE INPUT: true; the input reads as it did. -/
def curveKnownSpec : ChangeSpec := { name := "curveKnown", fn := fun _ => fun
  | [] => { results := [.lit (.bool true)], args := [] }
  | _ => none }
def curveKnownRow : OpenClaim := { program := "ytdbcjiggimppdaa", sum := "7ac31d72c5933bfa8b3790c68b4feddaeaf6c5f8a725cc666512d6e3e0c00a75", func := "reliquary/reliquarylaw04.CurveKnown", spec := "curveKnown", inPlace := ["internal/bytealg.IndexByteString", "math/bits.Add64", "math/bits.Sub64"], unfollowed := true, recurses := true, apart := false }
def CurveKnownSaid : Prop := curveKnownRow.holds Try.pinned (OpenSpec.ofChange curveKnownSpec)

/-- ITS FALSE NEIGHBOUR: 'it returns false'. Refute it at one input. -/
def curveKnownWrong : ChangeSpec := { name := "curveKnown", fn := fun _ => fun
  | [] => { results := [.lit (.bool false)], args := [] }
  | _ => none }
def CurveKnownWrongFalsely : Prop := curveKnownRow.holds Try.pinned (OpenSpec.ofChange curveKnownWrong)

/-- 'reliquarylaw04.CurveOrders': WHATEVER THE INPUT: true; the input reads as it did. -/
def curveOrdersSpec : ChangeSpec := { name := "curveOrders", fn := fun _ => fun
  | [d] => { results := [.lit (.bool true)], args := [d] }
  | _ => none }
def curveOrdersRow : OpenClaim := { program := "ytdbcjiggimppdaa", sum := "7ac31d72c5933bfa8b3790c68b4feddaeaf6c5f8a725cc666512d6e3e0c00a75", func := "reliquary/reliquarylaw04.CurveOrders", spec := "curveOrders", inPlace := ["internal/bytealg.IndexByteString", "math/bits.Add64", "math/bits.Sub64"], unfollowed := true, recurses := true, apart := false }
def CurveOrdersSaid : Prop := curveOrdersRow.holds Try.pinned (OpenSpec.ofChange curveOrdersSpec)

/-- ITS FALSE NEIGHBOUR: 'it returns false'. Refute it at one input. -/
def curveOrdersWrong : ChangeSpec := { name := "curveOrders", fn := fun _ => fun
  | [d] => { results := [.lit (.bool false)], args := [d] }
  | _ => none }
def CurveOrdersWrongFalsely : Prop := curveOrdersRow.holds Try.pinned (OpenSpec.ofChange curveOrdersWrong)

/-- 'reliquarylaw05.PointSigns': WHATEVER THE INPUT: true; the input reads as it did. -/
def pointSignsSpec : ChangeSpec := { name := "pointSigns", fn := fun _ => fun
  | [d1, d2] => { results := [.lit (.bool true)], args := [d1, d2] }
  | _ => none }
def pointSignsRow : OpenClaim := { program := "ytdbcjiggimppdaa", sum := "7ac31d72c5933bfa8b3790c68b4feddaeaf6c5f8a725cc666512d6e3e0c00a75", func := "reliquary/reliquarylaw05.PointSigns", spec := "pointSigns", inPlace := ["internal/bytealg.IndexByteString", "math/bits.Add64", "math/bits.Sub64"], unfollowed := true, recurses := true, apart := false }
def PointSignsSaid : Prop := pointSignsRow.holds Try.pinned (OpenSpec.ofChange pointSignsSpec)

/-- ITS FALSE NEIGHBOUR: 'it returns false'. Refute it at one input. -/
def pointSignsWrong : ChangeSpec := { name := "pointSigns", fn := fun _ => fun
  | [d1, d2] => { results := [.lit (.bool false)], args := [d1, d2] }
  | _ => none }
def PointSignsWrongFalsely : Prop := pointSignsRow.holds Try.pinned (OpenSpec.ofChange pointSignsWrong)

/- THE SECOND FORM. 'bulk': how many values and letters a reading holds, each counted each time it is reached (what is shared counts as often as it is met; a slice's spare places count too). A statement '..UptoSaid' is the law's where the arguments, and the package variables that the reading takes, are together of bulk at most 1048576: NARROWER than '..Said'. Prove '..Said' where nothing that the law and all that it calls make is longer than what came in: it says more and counts as full. Else prove '..UptoSaid'. A law counts once. -/
mutual
def uptoBulk {H : Type} : DataW H → Nat
  | .lit (.string bytes) => bytes.length + 1
  | .lit _ => 1
  | .nil => 1
  | .ptr d => uptoBulk d + 1
  | .slice elems spare => uptoBulkAll elems + uptoBulkAll spare + 1
  | .agg parts => uptoBulkAll parts + 1
  | .iface _ d => uptoBulk d + 1
  | .map entries => uptoBulkEntries entries + 1
  | .held _ => 1
def uptoBulkAll {H : Type} : List (DataW H) → Nat
  | [] => 0
  | d :: r => uptoBulk d + uptoBulkAll r
def uptoBulkEntries {H : Type} : List (Lit × DataW H) → Nat
  | [] => 0
  | x :: r => uptoBulkEntry x + uptoBulkEntries r
def uptoBulkEntry {H : Type} : Lit × DataW H → Nat
  | (.string bytes, d) => bytes.length + uptoBulk d + 1
  | (_, d) => uptoBulk d + 1
 end
def uptoSmall : (H : Type) → List (DataW H) → Bool := fun _ ds => decide (uptoBulkAll ds ≤ 1048576)
def OpenSpec.upto (s : _root_.Go.ChangeSpec) : _root_.Go.OpenSpec := { _root_.Go.OpenSpec.ofChange s with cond := some uptoSmall }

/-- 'reliquarylaw12.WireFields', WHERE WHAT IT READS IS OF BULK AT MOST 1048576: true; the input reads as it did. -/
def wireFieldsUptoRow : OpenClaim := { program := "ytdbcjiggimppdaa", sum := "7ac31d72c5933bfa8b3790c68b4feddaeaf6c5f8a725cc666512d6e3e0c00a75", func := "reliquary/reliquarylaw12.WireFields", spec := "wireFields", apart := false, narrowed := true }
def WireFieldsUptoSaid : Prop := wireFieldsUptoRow.holds Try.pinned (OpenSpec.upto wireFieldsSpec)

/-- 'reliquarylaw04.CurveFirst', WHERE WHAT IT READS IS OF BULK AT MOST 1048576: true; the input reads as it did. -/
def curveFirstUptoRow : OpenClaim := { program := "ytdbcjiggimppdaa", sum := "7ac31d72c5933bfa8b3790c68b4feddaeaf6c5f8a725cc666512d6e3e0c00a75", func := "reliquary/reliquarylaw04.CurveFirst", spec := "curveFirst", inPlace := ["math/bits.Add64", "math/bits.Sub64", "internal/bytealg.IndexByteString"], unfollowed := true, recurses := true, apart := false, narrowed := true }
def CurveFirstUptoSaid : Prop := curveFirstUptoRow.holds Try.pinned (OpenSpec.upto curveFirstSpec)

/-- 'reliquarylaw04.CurveSecond', WHERE WHAT IT READS IS OF BULK AT MOST 1048576: true; the input reads as it did. -/
def curveSecondUptoRow : OpenClaim := { program := "ytdbcjiggimppdaa", sum := "7ac31d72c5933bfa8b3790c68b4feddaeaf6c5f8a725cc666512d6e3e0c00a75", func := "reliquary/reliquarylaw04.CurveSecond", spec := "curveSecond", inPlace := ["math/bits.Add64", "math/bits.Sub64", "internal/bytealg.IndexByteString"], unfollowed := true, recurses := true, apart := false, narrowed := true }
def CurveSecondUptoSaid : Prop := curveSecondUptoRow.holds Try.pinned (OpenSpec.upto curveSecondSpec)

/-- 'reliquarylaw04.CurveGroup1', WHERE WHAT IT READS IS OF BULK AT MOST 1048576: true; the input reads as it did. -/
def curveGroup1UptoRow : OpenClaim := { program := "ytdbcjiggimppdaa", sum := "7ac31d72c5933bfa8b3790c68b4feddaeaf6c5f8a725cc666512d6e3e0c00a75", func := "reliquary/reliquarylaw04.CurveGroup1", spec := "curveGroup1", inPlace := ["internal/bytealg.IndexByteString", "math/bits.Add64", "math/bits.Sub64"], unfollowed := true, recurses := true, apart := false, narrowed := true }
def CurveGroup1UptoSaid : Prop := curveGroup1UptoRow.holds Try.pinned (OpenSpec.upto curveGroup1Spec)

/-- 'reliquarylaw04.CurveSums', WHERE WHAT IT READS IS OF BULK AT MOST 1048576: true; the input reads as it did. -/
def curveSumsUptoRow : OpenClaim := { program := "ytdbcjiggimppdaa", sum := "7ac31d72c5933bfa8b3790c68b4feddaeaf6c5f8a725cc666512d6e3e0c00a75", func := "reliquary/reliquarylaw04.CurveSums", spec := "curveSums", inPlace := ["internal/bytealg.IndexByteString", "math/bits.Add64", "math/bits.Sub64"], unfollowed := true, recurses := true, apart := false, narrowed := true }
def CurveSumsUptoSaid : Prop := curveSumsUptoRow.holds Try.pinned (OpenSpec.upto curveSumsSpec)

/-- 'reliquarylaw04.CurveGroup2', WHERE WHAT IT READS IS OF BULK AT MOST 1048576: true; the input reads as it did. -/
def curveGroup2UptoRow : OpenClaim := { program := "ytdbcjiggimppdaa", sum := "7ac31d72c5933bfa8b3790c68b4feddaeaf6c5f8a725cc666512d6e3e0c00a75", func := "reliquary/reliquarylaw04.CurveGroup2", spec := "curveGroup2", inPlace := ["internal/bytealg.IndexByteString", "math/bits.Add64", "math/bits.Sub64"], unfollowed := true, recurses := true, apart := false, narrowed := true }
def CurveGroup2UptoSaid : Prop := curveGroup2UptoRow.holds Try.pinned (OpenSpec.upto curveGroup2Spec)

/-- 'reliquarylaw04.CurveTimes', WHERE WHAT IT READS IS OF BULK AT MOST 1048576: true; the input reads as it did. -/
def curveTimesUptoRow : OpenClaim := { program := "ytdbcjiggimppdaa", sum := "7ac31d72c5933bfa8b3790c68b4feddaeaf6c5f8a725cc666512d6e3e0c00a75", func := "reliquary/reliquarylaw04.CurveTimes", spec := "curveTimes", inPlace := ["internal/bytealg.IndexByteString", "math/bits.Add64", "math/bits.Sub64"], unfollowed := true, recurses := true, apart := false, narrowed := true }
def CurveTimesUptoSaid : Prop := curveTimesUptoRow.holds Try.pinned (OpenSpec.upto curveTimesSpec)

/-- 'reliquarylaw04.CurveKnown', WHERE WHAT IT READS IS OF BULK AT MOST 1048576: true; the input reads as it did. -/
def curveKnownUptoRow : OpenClaim := { program := "ytdbcjiggimppdaa", sum := "7ac31d72c5933bfa8b3790c68b4feddaeaf6c5f8a725cc666512d6e3e0c00a75", func := "reliquary/reliquarylaw04.CurveKnown", spec := "curveKnown", inPlace := ["internal/bytealg.IndexByteString", "math/bits.Add64", "math/bits.Sub64"], unfollowed := true, recurses := true, apart := false, narrowed := true }
def CurveKnownUptoSaid : Prop := curveKnownUptoRow.holds Try.pinned (OpenSpec.upto curveKnownSpec)

/-- 'reliquarylaw04.CurveOrders', WHERE WHAT IT READS IS OF BULK AT MOST 1048576: true; the input reads as it did. -/
def curveOrdersUptoRow : OpenClaim := { program := "ytdbcjiggimppdaa", sum := "7ac31d72c5933bfa8b3790c68b4feddaeaf6c5f8a725cc666512d6e3e0c00a75", func := "reliquary/reliquarylaw04.CurveOrders", spec := "curveOrders", inPlace := ["internal/bytealg.IndexByteString", "math/bits.Add64", "math/bits.Sub64"], unfollowed := true, recurses := true, apart := false, narrowed := true }
def CurveOrdersUptoSaid : Prop := curveOrdersUptoRow.holds Try.pinned (OpenSpec.upto curveOrdersSpec)

/-- 'reliquarylaw05.PointSigns', WHERE WHAT IT READS IS OF BULK AT MOST 1048576: true; the input reads as it did. -/
def pointSignsUptoRow : OpenClaim := { program := "ytdbcjiggimppdaa", sum := "7ac31d72c5933bfa8b3790c68b4feddaeaf6c5f8a725cc666512d6e3e0c00a75", func := "reliquary/reliquarylaw05.PointSigns", spec := "pointSigns", inPlace := ["internal/bytealg.IndexByteString", "math/bits.Add64", "math/bits.Sub64"], unfollowed := true, recurses := true, apart := false, narrowed := true }
def PointSignsUptoSaid : Prop := pointSignsUptoRow.holds Try.pinned (OpenSpec.upto pointSignsSpec)

end Rows
end Go.Proofs.Ytdbcjiggimppdaa
