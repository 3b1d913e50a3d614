/- Closed facts of a row. Written by a program of ours. -/
import Derived.Test.YtbamkkbefjgeoaaGreatDoorRows
import Derived.JoinedOf
import Derived.OpenShut
import Derived.Stop.Joined
import Derived.Test.YtbamkkbefjgeoaaGreatDoorRq00
namespace Go.Proofs.YtbamkkbefjgeoaaGreatDoor
open Go Go.Rq Go.RowKit
set_option maxRecDepth 100000 in
theorem channelKnown_j6 : ((Tryz.prog.stops == [])) = true := by kernel_rfl
set_option maxRecDepth 100000 in
theorem channelKnown_j11 : ((Rows.channelKnownRow.recurses == Tryz.prog.recurses 5)) = true := by kernel_rfl
set_option maxRecDepth 100000 in
theorem channelKnown_j25 : (Tryz.prog.mayEnter) = true := by kernel_rfl
set_option maxRecDepth 100000 in
theorem channelKnown_j0 : (Rows.channelKnownRow.wf (OpenSpec.ofChange Rows.channelKnownSpec)) = true := by kernel_rfl
set_option maxRecDepth 100000 in
theorem channelKnown_j3 : (Tryz.f5.params.all (Tryz.prog.readableRec ·)) = true := by kernel_rfl
set_option maxRecDepth 100000 in
theorem channelKnown_j4 : (namedTie Tryz.prog Rows.channelKnownRow.named Rows.channelKnownSpec.vars) = true := by kernel_rfl
set_option maxRecDepth 100000 in
theorem channelKnown_j7 : ((Rows.channelKnownRow.knobs == [])) = true := by kernel_rfl
set_option maxRecDepth 100000 in
theorem channelKnown_j13 : ((Rows.channelKnownRow.maps == (Tryz.f5.params.toList ++ Rows.channelKnownSpec.plain.varTypes Tryz.prog).any (Tryz.prog.mapsRec ·))) = true := by kernel_rfl
set_option maxRecDepth 100000 in
theorem channelKnown_j14 : ((Rows.channelKnownRow.ifaces == (Tryz.f5.params.toList ++ Rows.channelKnownSpec.plain.varTypes Tryz.prog).any (Tryz.prog.ifacesRec ·))) = true := by kernel_rfl
set_option maxRecDepth 100000 in
theorem channelKnown_j15 : ((Rows.channelKnownRow.mapsOut == Tryz.prog.mapsAmong Tryz.f5.resultTypes.toList)) = true := by kernel_rfl
set_option maxRecDepth 100000 in
theorem channelKnown_j16 : ((Rows.channelKnownRow.loops == (Tryz.f5.params.toList ++ Rows.channelKnownSpec.plain.varTypes Tryz.prog).any (Tryz.prog.loopsFrom ·))) = true := by kernel_rfl
set_option maxRecDepth 100000 in
theorem channelKnown_j17 : ((Rows.channelKnownRow.wideKeys == (Tryz.f5.params.toList ++ Rows.channelKnownSpec.plain.varTypes Tryz.prog ++ Tryz.f5.resultTypes.toList).any (Tryz.prog.wideKeysFrom ·))) = true := by kernel_rfl
set_option maxRecDepth 100000 in
theorem channelKnown_j18 : (Rows.channelKnownSpec.vars.all (Tryz.prog.varReadable ·)) = true := by kernel_rfl
set_option maxRecDepth 100000 in
theorem channelKnown_j19 : (Tryz.f5.resultTypes.all (fun t => Tryz.prog.readableRec t && decide (t < Tryz.prog.types.size))) = true := by kernel_rfl
set_option maxRecDepth 100000 in
theorem channelKnown_j20 : ((Rows.channelKnownRow.ifacesOut == Tryz.f5.resultTypes.toList.any (Tryz.prog.ifacesRec ·))) = true := by kernel_rfl
set_option maxRecDepth 100000 in
theorem channelKnown_j21 : ((Rows.channelKnownRow.loopsOut == Tryz.f5.resultTypes.toList.any (Tryz.prog.loopsFrom ·))) = true := by kernel_rfl
set_option maxRecDepth 100000 in
theorem channelKnown_j23 : (Rows.channelKnownRow.shortTexts.isNone) = true := by kernel_rfl
set_option maxRecDepth 100000 in
theorem channelKnown_j28 : ((Rows.channelKnownRow.kinds == (if Rows.channelKnownRow.domain.isEmpty then [] else Tryz.f5.params.toList.map fun t => match Tryz.prog.underlying t with | some (.int k) => some k | _ => none))) = true := by kernel_rfl
set_option maxRecDepth 100000 in
theorem channelKnown_j29 : ((Rows.channelKnownRow.pinned == Rows.channelKnownRow.pinnedBy)) = true := by kernel_rfl
set_option maxRecDepth 100000 in
theorem channelKnown_j30 : ((Rows.channelKnownRow.veiled == (Tryz.f5.params.toList ++ Rows.channelKnownSpec.plain.varTypes Tryz.prog ++ Tryz.f5.resultTypes.toList).any (Tryz.prog.veiledRec ·))) = true := by kernel_rfl
set_option maxRecDepth 100000 in
theorem channelKnown_j31 : (Rows.channelKnownRow.veiledFits Tryz.prog Tryz.f5.params.toList (Tryz.f5.params.toList ++ Rows.channelKnownSpec.plain.varTypes Tryz.prog ++ Tryz.f5.resultTypes.toList)) = true := by kernel_rfl
end Go.Proofs.YtbamkkbefjgeoaaGreatDoor
