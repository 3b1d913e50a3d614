/- Closed facts of a row. Written by a program of ours. -/
import Derived.Test.YtcboekjnibppdaaGreatDoorRows
import Derived.JoinedOf
import Derived.OpenShut
import Derived.Stop.Joined
import Derived.Test.YtcboekjnibppdaaGreatDoorRq00
namespace Go.Proofs.YtcboekjnibppdaaGreatDoor
open Go Go.Rq Go.RowKit
set_option maxRecDepth 100000 in
theorem elgamalNone_j6 : ((Tryz.prog.stops == [])) = true := by kernel_rfl
set_option maxRecDepth 100000 in
theorem elgamalNone_j11 : ((Rows.elgamalNoneRow.recurses == Tryz.prog.recurses 7)) = true := by kernel_rfl
set_option maxRecDepth 100000 in
theorem elgamalNone_j25 : (Tryz.prog.mayEnter) = true := by kernel_rfl
set_option maxRecDepth 100000 in
theorem elgamalNone_j0 : (Rows.elgamalNoneRow.wf (OpenSpec.ofChange Rows.elgamalNoneSpec)) = true := by kernel_rfl
set_option maxRecDepth 100000 in
theorem elgamalNone_j3 : (Tryz.f7.params.all (Tryz.prog.readableRec ·)) = true := by kernel_rfl
set_option maxRecDepth 100000 in
theorem elgamalNone_j4 : (namedTie Tryz.prog Rows.elgamalNoneRow.named Rows.elgamalNoneSpec.vars) = true := by kernel_rfl
set_option maxRecDepth 100000 in
theorem elgamalNone_j7 : ((Rows.elgamalNoneRow.knobs == [])) = true := by kernel_rfl
set_option maxRecDepth 100000 in
theorem elgamalNone_j13 : ((Rows.elgamalNoneRow.maps == (Tryz.f7.params.toList ++ Rows.elgamalNoneSpec.plain.varTypes Tryz.prog).any (Tryz.prog.mapsRec ·))) = true := by kernel_rfl
set_option maxRecDepth 100000 in
theorem elgamalNone_j14 : ((Rows.elgamalNoneRow.ifaces == (Tryz.f7.params.toList ++ Rows.elgamalNoneSpec.plain.varTypes Tryz.prog).any (Tryz.prog.ifacesRec ·))) = true := by kernel_rfl
set_option maxRecDepth 100000 in
theorem elgamalNone_j15 : ((Rows.elgamalNoneRow.mapsOut == Tryz.prog.mapsAmong Tryz.f7.resultTypes.toList)) = true := by kernel_rfl
set_option maxRecDepth 100000 in
theorem elgamalNone_j16 : ((Rows.elgamalNoneRow.loops == (Tryz.f7.params.toList ++ Rows.elgamalNoneSpec.plain.varTypes Tryz.prog).any (Tryz.prog.loopsFrom ·))) = true := by kernel_rfl
set_option maxRecDepth 100000 in
theorem elgamalNone_j17 : ((Rows.elgamalNoneRow.wideKeys == (Tryz.f7.params.toList ++ Rows.elgamalNoneSpec.plain.varTypes Tryz.prog ++ Tryz.f7.resultTypes.toList).any (Tryz.prog.wideKeysFrom ·))) = true := by kernel_rfl
set_option maxRecDepth 100000 in
theorem elgamalNone_j18 : (Rows.elgamalNoneSpec.vars.all (Tryz.prog.varReadable ·)) = true := by kernel_rfl
set_option maxRecDepth 100000 in
theorem elgamalNone_j19 : (Tryz.f7.resultTypes.all (fun t => Tryz.prog.readableRec t && decide (t < Tryz.prog.types.size))) = true := by kernel_rfl
set_option maxRecDepth 100000 in
theorem elgamalNone_j20 : ((Rows.elgamalNoneRow.ifacesOut == Tryz.f7.resultTypes.toList.any (Tryz.prog.ifacesRec ·))) = true := by kernel_rfl
set_option maxRecDepth 100000 in
theorem elgamalNone_j21 : ((Rows.elgamalNoneRow.loopsOut == Tryz.f7.resultTypes.toList.any (Tryz.prog.loopsFrom ·))) = true := by kernel_rfl
set_option maxRecDepth 100000 in
theorem elgamalNone_j23 : (Rows.elgamalNoneRow.shortTexts.isNone) = true := by kernel_rfl
set_option maxRecDepth 100000 in
theorem elgamalNone_j28 : ((Rows.elgamalNoneRow.kinds == (if Rows.elgamalNoneRow.domain.isEmpty then [] else Tryz.f7.params.toList.map fun t => match Tryz.prog.underlying t with | some (.int k) => some k | _ => none))) = true := by kernel_rfl
set_option maxRecDepth 100000 in
theorem elgamalNone_j29 : ((Rows.elgamalNoneRow.pinned == Rows.elgamalNoneRow.pinnedBy)) = true := by kernel_rfl
set_option maxRecDepth 100000 in
theorem elgamalNone_j30 : ((Rows.elgamalNoneRow.veiled == (Tryz.f7.params.toList ++ Rows.elgamalNoneSpec.plain.varTypes Tryz.prog ++ Tryz.f7.resultTypes.toList).any (Tryz.prog.veiledRec ·))) = true := by kernel_rfl
set_option maxRecDepth 100000 in
theorem elgamalNone_j31 : (Rows.elgamalNoneRow.veiledFits Tryz.prog Tryz.f7.params.toList (Tryz.f7.params.toList ++ Rows.elgamalNoneSpec.plain.varTypes Tryz.prog ++ Tryz.f7.resultTypes.toList)) = true := by kernel_rfl
end Go.Proofs.YtcboekjnibppdaaGreatDoor
