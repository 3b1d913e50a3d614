/- Closed facts of a row. Written by a program of ours. -/
import Derived.Test.YtcboekjnibppdaaGreatDoorRows
import Derived.JoinedOf
import Derived.OpenShut
import Derived.Stop.Joined
import Derived.Test.YtcboekjnibppdaaGreatDoorRq00
namespace Go.Proofs.YtcboekjnibppdaaGreatDoor
open Go Go.Rq Go.RowKit
set_option maxRecDepth 100000 in
theorem pledgeKnown_j6 : ((Tryz.prog.stops == [])) = true := by kernel_rfl
set_option maxRecDepth 100000 in
theorem pledgeKnown_j11 : ((Rows.pledgeKnownRow.recurses == Tryz.prog.recurses 3)) = true := by kernel_rfl
set_option maxRecDepth 100000 in
theorem pledgeKnown_j25 : (Tryz.prog.mayEnter) = true := by kernel_rfl
set_option maxRecDepth 100000 in
theorem pledgeKnown_j0 : (Rows.pledgeKnownRow.wf (OpenSpec.ofChange Rows.pledgeKnownSpec)) = true := by kernel_rfl
set_option maxRecDepth 100000 in
theorem pledgeKnown_j3 : (Tryz.f3.params.all (Tryz.prog.readableRec ·)) = true := by kernel_rfl
set_option maxRecDepth 100000 in
theorem pledgeKnown_j4 : (namedTie Tryz.prog Rows.pledgeKnownRow.named Rows.pledgeKnownSpec.vars) = true := by kernel_rfl
set_option maxRecDepth 100000 in
theorem pledgeKnown_j7 : ((Rows.pledgeKnownRow.knobs == [])) = true := by kernel_rfl
set_option maxRecDepth 100000 in
theorem pledgeKnown_j13 : ((Rows.pledgeKnownRow.maps == (Tryz.f3.params.toList ++ Rows.pledgeKnownSpec.plain.varTypes Tryz.prog).any (Tryz.prog.mapsRec ·))) = true := by kernel_rfl
set_option maxRecDepth 100000 in
theorem pledgeKnown_j14 : ((Rows.pledgeKnownRow.ifaces == (Tryz.f3.params.toList ++ Rows.pledgeKnownSpec.plain.varTypes Tryz.prog).any (Tryz.prog.ifacesRec ·))) = true := by kernel_rfl
set_option maxRecDepth 100000 in
theorem pledgeKnown_j15 : ((Rows.pledgeKnownRow.mapsOut == Tryz.prog.mapsAmong Tryz.f3.resultTypes.toList)) = true := by kernel_rfl
set_option maxRecDepth 100000 in
theorem pledgeKnown_j16 : ((Rows.pledgeKnownRow.loops == (Tryz.f3.params.toList ++ Rows.pledgeKnownSpec.plain.varTypes Tryz.prog).any (Tryz.prog.loopsFrom ·))) = true := by kernel_rfl
set_option maxRecDepth 100000 in
theorem pledgeKnown_j17 : ((Rows.pledgeKnownRow.wideKeys == (Tryz.f3.params.toList ++ Rows.pledgeKnownSpec.plain.varTypes Tryz.prog ++ Tryz.f3.resultTypes.toList).any (Tryz.prog.wideKeysFrom ·))) = true := by kernel_rfl
set_option maxRecDepth 100000 in
theorem pledgeKnown_j18 : (Rows.pledgeKnownSpec.vars.all (Tryz.prog.varReadable ·)) = true := by kernel_rfl
set_option maxRecDepth 100000 in
theorem pledgeKnown_j19 : (Tryz.f3.resultTypes.all (fun t => Tryz.prog.readableRec t && decide (t < Tryz.prog.types.size))) = true := by kernel_rfl
set_option maxRecDepth 100000 in
theorem pledgeKnown_j20 : ((Rows.pledgeKnownRow.ifacesOut == Tryz.f3.resultTypes.toList.any (Tryz.prog.ifacesRec ·))) = true := by kernel_rfl
set_option maxRecDepth 100000 in
theorem pledgeKnown_j21 : ((Rows.pledgeKnownRow.loopsOut == Tryz.f3.resultTypes.toList.any (Tryz.prog.loopsFrom ·))) = true := by kernel_rfl
set_option maxRecDepth 100000 in
theorem pledgeKnown_j23 : (Rows.pledgeKnownRow.shortTexts.isNone) = true := by kernel_rfl
set_option maxRecDepth 100000 in
theorem pledgeKnown_j28 : ((Rows.pledgeKnownRow.kinds == (if Rows.pledgeKnownRow.domain.isEmpty then [] else Tryz.f3.params.toList.map fun t => match Tryz.prog.underlying t with | some (.int k) => some k | _ => none))) = true := by kernel_rfl
set_option maxRecDepth 100000 in
theorem pledgeKnown_j29 : ((Rows.pledgeKnownRow.pinned == Rows.pledgeKnownRow.pinnedBy)) = true := by kernel_rfl
set_option maxRecDepth 100000 in
theorem pledgeKnown_j30 : ((Rows.pledgeKnownRow.veiled == (Tryz.f3.params.toList ++ Rows.pledgeKnownSpec.plain.varTypes Tryz.prog ++ Tryz.f3.resultTypes.toList).any (Tryz.prog.veiledRec ·))) = true := by kernel_rfl
set_option maxRecDepth 100000 in
theorem pledgeKnown_j31 : (Rows.pledgeKnownRow.veiledFits Tryz.prog Tryz.f3.params.toList (Tryz.f3.params.toList ++ Rows.pledgeKnownSpec.plain.varTypes Tryz.prog ++ Tryz.f3.resultTypes.toList)) = true := by kernel_rfl
end Go.Proofs.YtcboekjnibppdaaGreatDoor
