/- Closed facts of a row. Written by a program of ours. -/
import Derived.Test.YtcboekjnibppdaaGreatDoorRows
import Derived.JoinedOf
import Derived.OpenShut
import Derived.Stop.Joined
import Derived.Test.YtcboekjnibppdaaGreatDoorRq00
namespace Go.Proofs.YtcboekjnibppdaaGreatDoor
open Go Go.Rq Go.RowKit
set_option maxRecDepth 100000 in
theorem refreshKnown_j6 : ((Tryz.prog.stops == [])) = true := by kernel_rfl
set_option maxRecDepth 100000 in
theorem refreshKnown_j11 : ((Rows.refreshKnownRow.recurses == Tryz.prog.recurses 9)) = true := by kernel_rfl
set_option maxRecDepth 100000 in
theorem refreshKnown_j25 : (Tryz.prog.mayEnter) = true := by kernel_rfl
set_option maxRecDepth 100000 in
theorem refreshKnown_j0 : (Rows.refreshKnownRow.wf (OpenSpec.ofChange Rows.refreshKnownSpec)) = true := by kernel_rfl
set_option maxRecDepth 100000 in
theorem refreshKnown_j3 : (Tryz.f9.params.all (Tryz.prog.readableRec ·)) = true := by kernel_rfl
set_option maxRecDepth 100000 in
theorem refreshKnown_j4 : (namedTie Tryz.prog Rows.refreshKnownRow.named Rows.refreshKnownSpec.vars) = true := by kernel_rfl
set_option maxRecDepth 100000 in
theorem refreshKnown_j7 : ((Rows.refreshKnownRow.knobs == [])) = true := by kernel_rfl
set_option maxRecDepth 100000 in
theorem refreshKnown_j13 : ((Rows.refreshKnownRow.maps == (Tryz.f9.params.toList ++ Rows.refreshKnownSpec.plain.varTypes Tryz.prog).any (Tryz.prog.mapsRec ·))) = true := by kernel_rfl
set_option maxRecDepth 100000 in
theorem refreshKnown_j14 : ((Rows.refreshKnownRow.ifaces == (Tryz.f9.params.toList ++ Rows.refreshKnownSpec.plain.varTypes Tryz.prog).any (Tryz.prog.ifacesRec ·))) = true := by kernel_rfl
set_option maxRecDepth 100000 in
theorem refreshKnown_j15 : ((Rows.refreshKnownRow.mapsOut == Tryz.prog.mapsAmong Tryz.f9.resultTypes.toList)) = true := by kernel_rfl
set_option maxRecDepth 100000 in
theorem refreshKnown_j16 : ((Rows.refreshKnownRow.loops == (Tryz.f9.params.toList ++ Rows.refreshKnownSpec.plain.varTypes Tryz.prog).any (Tryz.prog.loopsFrom ·))) = true := by kernel_rfl
set_option maxRecDepth 100000 in
theorem refreshKnown_j17 : ((Rows.refreshKnownRow.wideKeys == (Tryz.f9.params.toList ++ Rows.refreshKnownSpec.plain.varTypes Tryz.prog ++ Tryz.f9.resultTypes.toList).any (Tryz.prog.wideKeysFrom ·))) = true := by kernel_rfl
set_option maxRecDepth 100000 in
theorem refreshKnown_j18 : (Rows.refreshKnownSpec.vars.all (Tryz.prog.varReadable ·)) = true := by kernel_rfl
set_option maxRecDepth 100000 in
theorem refreshKnown_j19 : (Tryz.f9.resultTypes.all (fun t => Tryz.prog.readableRec t && decide (t < Tryz.prog.types.size))) = true := by kernel_rfl
set_option maxRecDepth 100000 in
theorem refreshKnown_j20 : ((Rows.refreshKnownRow.ifacesOut == Tryz.f9.resultTypes.toList.any (Tryz.prog.ifacesRec ·))) = true := by kernel_rfl
set_option maxRecDepth 100000 in
theorem refreshKnown_j21 : ((Rows.refreshKnownRow.loopsOut == Tryz.f9.resultTypes.toList.any (Tryz.prog.loopsFrom ·))) = true := by kernel_rfl
set_option maxRecDepth 100000 in
theorem refreshKnown_j23 : (Rows.refreshKnownRow.shortTexts.isNone) = true := by kernel_rfl
set_option maxRecDepth 100000 in
theorem refreshKnown_j28 : ((Rows.refreshKnownRow.kinds == (if Rows.refreshKnownRow.domain.isEmpty then [] else Tryz.f9.params.toList.map fun t => match Tryz.prog.underlying t with | some (.int k) => some k | _ => none))) = true := by kernel_rfl
set_option maxRecDepth 100000 in
theorem refreshKnown_j29 : ((Rows.refreshKnownRow.pinned == Rows.refreshKnownRow.pinnedBy)) = true := by kernel_rfl
set_option maxRecDepth 100000 in
theorem refreshKnown_j30 : ((Rows.refreshKnownRow.veiled == (Tryz.f9.params.toList ++ Rows.refreshKnownSpec.plain.varTypes Tryz.prog ++ Tryz.f9.resultTypes.toList).any (Tryz.prog.veiledRec ·))) = true := by kernel_rfl
set_option maxRecDepth 100000 in
theorem refreshKnown_j31 : (Rows.refreshKnownRow.veiledFits Tryz.prog Tryz.f9.params.toList (Tryz.f9.params.toList ++ Rows.refreshKnownSpec.plain.varTypes Tryz.prog ++ Tryz.f9.resultTypes.toList)) = true := by kernel_rfl
end Go.Proofs.YtcboekjnibppdaaGreatDoor
