/- Closed facts of a row. Written by a program of ours. -/
import Derived.Test.YtcboekjnibppdaaGreatDoorRows
import Derived.JoinedOf
import Derived.OpenShut
import Derived.Stop.Joined
import Derived.Test.YtcboekjnibppdaaGreatDoorRq00
namespace Go.Proofs.YtcboekjnibppdaaGreatDoor
open Go Go.Rq Go.RowKit
set_option maxRecDepth 100000 in
theorem dkgNone_j6 : ((Tryz.prog.stops == [])) = true := by kernel_rfl
set_option maxRecDepth 100000 in
theorem dkgNone_j11 : ((Rows.dkgNoneRow.recurses == Tryz.prog.recurses 11)) = true := by kernel_rfl
set_option maxRecDepth 100000 in
theorem dkgNone_j25 : (Tryz.prog.mayEnter) = true := by kernel_rfl
set_option maxRecDepth 100000 in
theorem dkgNone_j0 : (Rows.dkgNoneRow.wf (OpenSpec.ofChange Rows.dkgNoneSpec)) = true := by kernel_rfl
set_option maxRecDepth 100000 in
theorem dkgNone_j3 : (Tryz.f11.params.all (Tryz.prog.readableRec ·)) = true := by kernel_rfl
set_option maxRecDepth 100000 in
theorem dkgNone_j4 : (namedTie Tryz.prog Rows.dkgNoneRow.named Rows.dkgNoneSpec.vars) = true := by kernel_rfl
set_option maxRecDepth 100000 in
theorem dkgNone_j7 : ((Rows.dkgNoneRow.knobs == [])) = true := by kernel_rfl
set_option maxRecDepth 100000 in
theorem dkgNone_j13 : ((Rows.dkgNoneRow.maps == (Tryz.f11.params.toList ++ Rows.dkgNoneSpec.plain.varTypes Tryz.prog).any (Tryz.prog.mapsRec ·))) = true := by kernel_rfl
set_option maxRecDepth 100000 in
theorem dkgNone_j14 : ((Rows.dkgNoneRow.ifaces == (Tryz.f11.params.toList ++ Rows.dkgNoneSpec.plain.varTypes Tryz.prog).any (Tryz.prog.ifacesRec ·))) = true := by kernel_rfl
set_option maxRecDepth 100000 in
theorem dkgNone_j15 : ((Rows.dkgNoneRow.mapsOut == Tryz.prog.mapsAmong Tryz.f11.resultTypes.toList)) = true := by kernel_rfl
set_option maxRecDepth 100000 in
theorem dkgNone_j16 : ((Rows.dkgNoneRow.loops == (Tryz.f11.params.toList ++ Rows.dkgNoneSpec.plain.varTypes Tryz.prog).any (Tryz.prog.loopsFrom ·))) = true := by kernel_rfl
set_option maxRecDepth 100000 in
theorem dkgNone_j17 : ((Rows.dkgNoneRow.wideKeys == (Tryz.f11.params.toList ++ Rows.dkgNoneSpec.plain.varTypes Tryz.prog ++ Tryz.f11.resultTypes.toList).any (Tryz.prog.wideKeysFrom ·))) = true := by kernel_rfl
set_option maxRecDepth 100000 in
theorem dkgNone_j18 : (Rows.dkgNoneSpec.vars.all (Tryz.prog.varReadable ·)) = true := by kernel_rfl
set_option maxRecDepth 100000 in
theorem dkgNone_j19 : (Tryz.f11.resultTypes.all (fun t => Tryz.prog.readableRec t && decide (t < Tryz.prog.types.size))) = true := by kernel_rfl
set_option maxRecDepth 100000 in
theorem dkgNone_j20 : ((Rows.dkgNoneRow.ifacesOut == Tryz.f11.resultTypes.toList.any (Tryz.prog.ifacesRec ·))) = true := by kernel_rfl
set_option maxRecDepth 100000 in
theorem dkgNone_j21 : ((Rows.dkgNoneRow.loopsOut == Tryz.f11.resultTypes.toList.any (Tryz.prog.loopsFrom ·))) = true := by kernel_rfl
set_option maxRecDepth 100000 in
theorem dkgNone_j23 : (Rows.dkgNoneRow.shortTexts.isNone) = true := by kernel_rfl
set_option maxRecDepth 100000 in
theorem dkgNone_j28 : ((Rows.dkgNoneRow.kinds == (if Rows.dkgNoneRow.domain.isEmpty then [] else Tryz.f11.params.toList.map fun t => match Tryz.prog.underlying t with | some (.int k) => some k | _ => none))) = true := by kernel_rfl
set_option maxRecDepth 100000 in
theorem dkgNone_j29 : ((Rows.dkgNoneRow.pinned == Rows.dkgNoneRow.pinnedBy)) = true := by kernel_rfl
set_option maxRecDepth 100000 in
theorem dkgNone_j30 : ((Rows.dkgNoneRow.veiled == (Tryz.f11.params.toList ++ Rows.dkgNoneSpec.plain.varTypes Tryz.prog ++ Tryz.f11.resultTypes.toList).any (Tryz.prog.veiledRec ·))) = true := by kernel_rfl
set_option maxRecDepth 100000 in
theorem dkgNone_j31 : (Rows.dkgNoneRow.veiledFits Tryz.prog Tryz.f11.params.toList (Tryz.f11.params.toList ++ Rows.dkgNoneSpec.plain.varTypes Tryz.prog ++ Tryz.f11.resultTypes.toList)) = true := by kernel_rfl
end Go.Proofs.YtcboekjnibppdaaGreatDoor
