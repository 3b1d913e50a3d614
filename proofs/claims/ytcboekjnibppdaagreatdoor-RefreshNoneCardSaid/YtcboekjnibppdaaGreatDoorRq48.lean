/- Closed facts of a row. Written by a program of ours. -/
import Derived.Test.YtcboekjnibppdaaGreatDoorRows
import Derived.JoinedOf
import Derived.OpenShut
import Derived.Stop.Joined
import Derived.Test.YtcboekjnibppdaaGreatDoorRq00
namespace Go.Proofs.YtcboekjnibppdaaGreatDoor
open Go Go.Rq Go.RowKit
set_option maxRecDepth 100000 in
theorem refreshNone_j6 : ((Tryz.prog.stops == [])) = true := by kernel_rfl
set_option maxRecDepth 100000 in
theorem refreshNone_j11 : ((Rows.refreshNoneRow.recurses == Tryz.prog.recurses 12)) = true := by kernel_rfl
set_option maxRecDepth 100000 in
theorem refreshNone_j25 : (Tryz.prog.mayEnter) = true := by kernel_rfl
set_option maxRecDepth 100000 in
theorem refreshNone_j0 : (Rows.refreshNoneRow.wf (OpenSpec.ofChange Rows.refreshNoneSpec)) = true := by kernel_rfl
set_option maxRecDepth 100000 in
theorem refreshNone_j3 : (Tryz.f12.params.all (Tryz.prog.readableRec ·)) = true := by kernel_rfl
set_option maxRecDepth 100000 in
theorem refreshNone_j4 : (namedTie Tryz.prog Rows.refreshNoneRow.named Rows.refreshNoneSpec.vars) = true := by kernel_rfl
set_option maxRecDepth 100000 in
theorem refreshNone_j7 : ((Rows.refreshNoneRow.knobs == [])) = true := by kernel_rfl
set_option maxRecDepth 100000 in
theorem refreshNone_j13 : ((Rows.refreshNoneRow.maps == (Tryz.f12.params.toList ++ Rows.refreshNoneSpec.plain.varTypes Tryz.prog).any (Tryz.prog.mapsRec ·))) = true := by kernel_rfl
set_option maxRecDepth 100000 in
theorem refreshNone_j14 : ((Rows.refreshNoneRow.ifaces == (Tryz.f12.params.toList ++ Rows.refreshNoneSpec.plain.varTypes Tryz.prog).any (Tryz.prog.ifacesRec ·))) = true := by kernel_rfl
set_option maxRecDepth 100000 in
theorem refreshNone_j15 : ((Rows.refreshNoneRow.mapsOut == Tryz.prog.mapsAmong Tryz.f12.resultTypes.toList)) = true := by kernel_rfl
set_option maxRecDepth 100000 in
theorem refreshNone_j16 : ((Rows.refreshNoneRow.loops == (Tryz.f12.params.toList ++ Rows.refreshNoneSpec.plain.varTypes Tryz.prog).any (Tryz.prog.loopsFrom ·))) = true := by kernel_rfl
set_option maxRecDepth 100000 in
theorem refreshNone_j17 : ((Rows.refreshNoneRow.wideKeys == (Tryz.f12.params.toList ++ Rows.refreshNoneSpec.plain.varTypes Tryz.prog ++ Tryz.f12.resultTypes.toList).any (Tryz.prog.wideKeysFrom ·))) = true := by kernel_rfl
set_option maxRecDepth 100000 in
theorem refreshNone_j18 : (Rows.refreshNoneSpec.vars.all (Tryz.prog.varReadable ·)) = true := by kernel_rfl
set_option maxRecDepth 100000 in
theorem refreshNone_j19 : (Tryz.f12.resultTypes.all (fun t => Tryz.prog.readableRec t && decide (t < Tryz.prog.types.size))) = true := by kernel_rfl
set_option maxRecDepth 100000 in
theorem refreshNone_j20 : ((Rows.refreshNoneRow.ifacesOut == Tryz.f12.resultTypes.toList.any (Tryz.prog.ifacesRec ·))) = true := by kernel_rfl
set_option maxRecDepth 100000 in
theorem refreshNone_j21 : ((Rows.refreshNoneRow.loopsOut == Tryz.f12.resultTypes.toList.any (Tryz.prog.loopsFrom ·))) = true := by kernel_rfl
set_option maxRecDepth 100000 in
theorem refreshNone_j23 : (Rows.refreshNoneRow.shortTexts.isNone) = true := by kernel_rfl
set_option maxRecDepth 100000 in
theorem refreshNone_j28 : ((Rows.refreshNoneRow.kinds == (if Rows.refreshNoneRow.domain.isEmpty then [] else Tryz.f12.params.toList.map fun t => match Tryz.prog.underlying t with | some (.int k) => some k | _ => none))) = true := by kernel_rfl
set_option maxRecDepth 100000 in
theorem refreshNone_j29 : ((Rows.refreshNoneRow.pinned == Rows.refreshNoneRow.pinnedBy)) = true := by kernel_rfl
set_option maxRecDepth 100000 in
theorem refreshNone_j30 : ((Rows.refreshNoneRow.veiled == (Tryz.f12.params.toList ++ Rows.refreshNoneSpec.plain.varTypes Tryz.prog ++ Tryz.f12.resultTypes.toList).any (Tryz.prog.veiledRec ·))) = true := by kernel_rfl
set_option maxRecDepth 100000 in
theorem refreshNone_j31 : (Rows.refreshNoneRow.veiledFits Tryz.prog Tryz.f12.params.toList (Tryz.f12.params.toList ++ Rows.refreshNoneSpec.plain.varTypes Tryz.prog ++ Tryz.f12.resultTypes.toList)) = true := by kernel_rfl
end Go.Proofs.YtcboekjnibppdaaGreatDoor
