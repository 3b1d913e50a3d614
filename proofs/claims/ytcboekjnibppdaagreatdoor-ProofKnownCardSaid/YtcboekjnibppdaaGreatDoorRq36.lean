/- Closed facts of a row. Written by a program of ours. -/
import Derived.Test.YtcboekjnibppdaaGreatDoorRows
import Derived.JoinedOf
import Derived.OpenShut
import Derived.Stop.Joined
import Derived.Test.YtcboekjnibppdaaGreatDoorRq00
namespace Go.Proofs.YtcboekjnibppdaaGreatDoor
open Go Go.Rq Go.RowKit
set_option maxRecDepth 100000 in
theorem proofKnown_j6 : ((Tryz.prog.stops == [])) = true := by kernel_rfl
set_option maxRecDepth 100000 in
theorem proofKnown_j11 : ((Rows.proofKnownRow.recurses == Tryz.prog.recurses 4)) = true := by kernel_rfl
set_option maxRecDepth 100000 in
theorem proofKnown_j25 : (Tryz.prog.mayEnter) = true := by kernel_rfl
set_option maxRecDepth 100000 in
theorem proofKnown_j0 : (Rows.proofKnownRow.wf (OpenSpec.ofChange Rows.proofKnownSpec)) = true := by kernel_rfl
set_option maxRecDepth 100000 in
theorem proofKnown_j3 : (Tryz.f4.params.all (Tryz.prog.readableRec ·)) = true := by kernel_rfl
set_option maxRecDepth 100000 in
theorem proofKnown_j4 : (namedTie Tryz.prog Rows.proofKnownRow.named Rows.proofKnownSpec.vars) = true := by kernel_rfl
set_option maxRecDepth 100000 in
theorem proofKnown_j7 : ((Rows.proofKnownRow.knobs == [])) = true := by kernel_rfl
set_option maxRecDepth 100000 in
theorem proofKnown_j13 : ((Rows.proofKnownRow.maps == (Tryz.f4.params.toList ++ Rows.proofKnownSpec.plain.varTypes Tryz.prog).any (Tryz.prog.mapsRec ·))) = true := by kernel_rfl
set_option maxRecDepth 100000 in
theorem proofKnown_j14 : ((Rows.proofKnownRow.ifaces == (Tryz.f4.params.toList ++ Rows.proofKnownSpec.plain.varTypes Tryz.prog).any (Tryz.prog.ifacesRec ·))) = true := by kernel_rfl
set_option maxRecDepth 100000 in
theorem proofKnown_j15 : ((Rows.proofKnownRow.mapsOut == Tryz.prog.mapsAmong Tryz.f4.resultTypes.toList)) = true := by kernel_rfl
set_option maxRecDepth 100000 in
theorem proofKnown_j16 : ((Rows.proofKnownRow.loops == (Tryz.f4.params.toList ++ Rows.proofKnownSpec.plain.varTypes Tryz.prog).any (Tryz.prog.loopsFrom ·))) = true := by kernel_rfl
set_option maxRecDepth 100000 in
theorem proofKnown_j17 : ((Rows.proofKnownRow.wideKeys == (Tryz.f4.params.toList ++ Rows.proofKnownSpec.plain.varTypes Tryz.prog ++ Tryz.f4.resultTypes.toList).any (Tryz.prog.wideKeysFrom ·))) = true := by kernel_rfl
set_option maxRecDepth 100000 in
theorem proofKnown_j18 : (Rows.proofKnownSpec.vars.all (Tryz.prog.varReadable ·)) = true := by kernel_rfl
set_option maxRecDepth 100000 in
theorem proofKnown_j19 : (Tryz.f4.resultTypes.all (fun t => Tryz.prog.readableRec t && decide (t < Tryz.prog.types.size))) = true := by kernel_rfl
set_option maxRecDepth 100000 in
theorem proofKnown_j20 : ((Rows.proofKnownRow.ifacesOut == Tryz.f4.resultTypes.toList.any (Tryz.prog.ifacesRec ·))) = true := by kernel_rfl
set_option maxRecDepth 100000 in
theorem proofKnown_j21 : ((Rows.proofKnownRow.loopsOut == Tryz.f4.resultTypes.toList.any (Tryz.prog.loopsFrom ·))) = true := by kernel_rfl
set_option maxRecDepth 100000 in
theorem proofKnown_j23 : (Rows.proofKnownRow.shortTexts.isNone) = true := by kernel_rfl
set_option maxRecDepth 100000 in
theorem proofKnown_j28 : ((Rows.proofKnownRow.kinds == (if Rows.proofKnownRow.domain.isEmpty then [] else Tryz.f4.params.toList.map fun t => match Tryz.prog.underlying t with | some (.int k) => some k | _ => none))) = true := by kernel_rfl
set_option maxRecDepth 100000 in
theorem proofKnown_j29 : ((Rows.proofKnownRow.pinned == Rows.proofKnownRow.pinnedBy)) = true := by kernel_rfl
set_option maxRecDepth 100000 in
theorem proofKnown_j30 : ((Rows.proofKnownRow.veiled == (Tryz.f4.params.toList ++ Rows.proofKnownSpec.plain.varTypes Tryz.prog ++ Tryz.f4.resultTypes.toList).any (Tryz.prog.veiledRec ·))) = true := by kernel_rfl
set_option maxRecDepth 100000 in
theorem proofKnown_j31 : (Rows.proofKnownRow.veiledFits Tryz.prog Tryz.f4.params.toList (Tryz.f4.params.toList ++ Rows.proofKnownSpec.plain.varTypes Tryz.prog ++ Tryz.f4.resultTypes.toList)) = true := by kernel_rfl
end Go.Proofs.YtcboekjnibppdaaGreatDoor
