/- Closed facts of a row. Written by a program of ours. -/
import Derived.Test.YtcboekjnibppdaaGreatDoorRows
import Derived.JoinedOf
import Derived.OpenShut
import Derived.Stop.Joined
import Derived.Test.YtcboekjnibppdaaGreatDoorRq00
namespace Go.Proofs.YtcboekjnibppdaaGreatDoor
open Go Go.Rq Go.RowKit
set_option maxRecDepth 100000 in
theorem schnorrNone_j6 : ((Tryz.prog.stops == [])) = true := by kernel_rfl
set_option maxRecDepth 100000 in
theorem schnorrNone_j11 : ((Rows.schnorrNoneRow.recurses == Tryz.prog.recurses 5)) = true := by kernel_rfl
set_option maxRecDepth 100000 in
theorem schnorrNone_j25 : (Tryz.prog.mayEnter) = true := by kernel_rfl
set_option maxRecDepth 100000 in
theorem schnorrNone_j0 : (Rows.schnorrNoneRow.wf (OpenSpec.ofChange Rows.schnorrNoneSpec)) = true := by kernel_rfl
set_option maxRecDepth 100000 in
theorem schnorrNone_j3 : (Tryz.f5.params.all (Tryz.prog.readableRec ·)) = true := by kernel_rfl
set_option maxRecDepth 100000 in
theorem schnorrNone_j4 : (namedTie Tryz.prog Rows.schnorrNoneRow.named Rows.schnorrNoneSpec.vars) = true := by kernel_rfl
set_option maxRecDepth 100000 in
theorem schnorrNone_j7 : ((Rows.schnorrNoneRow.knobs == [])) = true := by kernel_rfl
set_option maxRecDepth 100000 in
theorem schnorrNone_j13 : ((Rows.schnorrNoneRow.maps == (Tryz.f5.params.toList ++ Rows.schnorrNoneSpec.plain.varTypes Tryz.prog).any (Tryz.prog.mapsRec ·))) = true := by kernel_rfl
set_option maxRecDepth 100000 in
theorem schnorrNone_j14 : ((Rows.schnorrNoneRow.ifaces == (Tryz.f5.params.toList ++ Rows.schnorrNoneSpec.plain.varTypes Tryz.prog).any (Tryz.prog.ifacesRec ·))) = true := by kernel_rfl
set_option maxRecDepth 100000 in
theorem schnorrNone_j15 : ((Rows.schnorrNoneRow.mapsOut == Tryz.prog.mapsAmong Tryz.f5.resultTypes.toList)) = true := by kernel_rfl
set_option maxRecDepth 100000 in
theorem schnorrNone_j16 : ((Rows.schnorrNoneRow.loops == (Tryz.f5.params.toList ++ Rows.schnorrNoneSpec.plain.varTypes Tryz.prog).any (Tryz.prog.loopsFrom ·))) = true := by kernel_rfl
set_option maxRecDepth 100000 in
theorem schnorrNone_j17 : ((Rows.schnorrNoneRow.wideKeys == (Tryz.f5.params.toList ++ Rows.schnorrNoneSpec.plain.varTypes Tryz.prog ++ Tryz.f5.resultTypes.toList).any (Tryz.prog.wideKeysFrom ·))) = true := by kernel_rfl
set_option maxRecDepth 100000 in
theorem schnorrNone_j18 : (Rows.schnorrNoneSpec.vars.all (Tryz.prog.varReadable ·)) = true := by kernel_rfl
set_option maxRecDepth 100000 in
theorem schnorrNone_j19 : (Tryz.f5.resultTypes.all (fun t => Tryz.prog.readableRec t && decide (t < Tryz.prog.types.size))) = true := by kernel_rfl
set_option maxRecDepth 100000 in
theorem schnorrNone_j20 : ((Rows.schnorrNoneRow.ifacesOut == Tryz.f5.resultTypes.toList.any (Tryz.prog.ifacesRec ·))) = true := by kernel_rfl
set_option maxRecDepth 100000 in
theorem schnorrNone_j21 : ((Rows.schnorrNoneRow.loopsOut == Tryz.f5.resultTypes.toList.any (Tryz.prog.loopsFrom ·))) = true := by kernel_rfl
set_option maxRecDepth 100000 in
theorem schnorrNone_j23 : (Rows.schnorrNoneRow.shortTexts.isNone) = true := by kernel_rfl
set_option maxRecDepth 100000 in
theorem schnorrNone_j28 : ((Rows.schnorrNoneRow.kinds == (if Rows.schnorrNoneRow.domain.isEmpty then [] else Tryz.f5.params.toList.map fun t => match Tryz.prog.underlying t with | some (.int k) => some k | _ => none))) = true := by kernel_rfl
set_option maxRecDepth 100000 in
theorem schnorrNone_j29 : ((Rows.schnorrNoneRow.pinned == Rows.schnorrNoneRow.pinnedBy)) = true := by kernel_rfl
set_option maxRecDepth 100000 in
theorem schnorrNone_j30 : ((Rows.schnorrNoneRow.veiled == (Tryz.f5.params.toList ++ Rows.schnorrNoneSpec.plain.varTypes Tryz.prog ++ Tryz.f5.resultTypes.toList).any (Tryz.prog.veiledRec ·))) = true := by kernel_rfl
set_option maxRecDepth 100000 in
theorem schnorrNone_j31 : (Rows.schnorrNoneRow.veiledFits Tryz.prog Tryz.f5.params.toList (Tryz.f5.params.toList ++ Rows.schnorrNoneSpec.plain.varTypes Tryz.prog ++ Tryz.f5.resultTypes.toList)) = true := by kernel_rfl
end Go.Proofs.YtcboekjnibppdaaGreatDoor
