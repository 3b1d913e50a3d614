/- Closed facts of a row. Written by a program of ours. -/
import Derived.Test.YtcboekjnibppdaaGreatDoorRows
import Derived.JoinedOf
import Derived.OpenShut
import Derived.Stop.Joined
import Derived.Test.YtcboekjnibppdaaGreatDoorRq00
namespace Go.Proofs.YtcboekjnibppdaaGreatDoor
open Go Go.Rq Go.RowKit
set_option maxRecDepth 100000 in
theorem schnorrKnown_j6 : ((Tryz.prog.stops == [])) = true := by kernel_rfl
set_option maxRecDepth 100000 in
theorem schnorrKnown_j11 : ((Rows.schnorrKnownRow.recurses == Tryz.prog.recurses 6)) = true := by kernel_rfl
set_option maxRecDepth 100000 in
theorem schnorrKnown_j25 : (Tryz.prog.mayEnter) = true := by kernel_rfl
set_option maxRecDepth 100000 in
theorem schnorrKnown_j0 : (Rows.schnorrKnownRow.wf (OpenSpec.ofChange Rows.schnorrKnownSpec)) = true := by kernel_rfl
set_option maxRecDepth 100000 in
theorem schnorrKnown_j3 : (Tryz.f6.params.all (Tryz.prog.readableRec ·)) = true := by kernel_rfl
set_option maxRecDepth 100000 in
theorem schnorrKnown_j4 : (namedTie Tryz.prog Rows.schnorrKnownRow.named Rows.schnorrKnownSpec.vars) = true := by kernel_rfl
set_option maxRecDepth 100000 in
theorem schnorrKnown_j7 : ((Rows.schnorrKnownRow.knobs == [])) = true := by kernel_rfl
set_option maxRecDepth 100000 in
theorem schnorrKnown_j13 : ((Rows.schnorrKnownRow.maps == (Tryz.f6.params.toList ++ Rows.schnorrKnownSpec.plain.varTypes Tryz.prog).any (Tryz.prog.mapsRec ·))) = true := by kernel_rfl
set_option maxRecDepth 100000 in
theorem schnorrKnown_j14 : ((Rows.schnorrKnownRow.ifaces == (Tryz.f6.params.toList ++ Rows.schnorrKnownSpec.plain.varTypes Tryz.prog).any (Tryz.prog.ifacesRec ·))) = true := by kernel_rfl
set_option maxRecDepth 100000 in
theorem schnorrKnown_j15 : ((Rows.schnorrKnownRow.mapsOut == Tryz.prog.mapsAmong Tryz.f6.resultTypes.toList)) = true := by kernel_rfl
set_option maxRecDepth 100000 in
theorem schnorrKnown_j16 : ((Rows.schnorrKnownRow.loops == (Tryz.f6.params.toList ++ Rows.schnorrKnownSpec.plain.varTypes Tryz.prog).any (Tryz.prog.loopsFrom ·))) = true := by kernel_rfl
set_option maxRecDepth 100000 in
theorem schnorrKnown_j17 : ((Rows.schnorrKnownRow.wideKeys == (Tryz.f6.params.toList ++ Rows.schnorrKnownSpec.plain.varTypes Tryz.prog ++ Tryz.f6.resultTypes.toList).any (Tryz.prog.wideKeysFrom ·))) = true := by kernel_rfl
set_option maxRecDepth 100000 in
theorem schnorrKnown_j18 : (Rows.schnorrKnownSpec.vars.all (Tryz.prog.varReadable ·)) = true := by kernel_rfl
set_option maxRecDepth 100000 in
theorem schnorrKnown_j19 : (Tryz.f6.resultTypes.all (fun t => Tryz.prog.readableRec t && decide (t < Tryz.prog.types.size))) = true := by kernel_rfl
set_option maxRecDepth 100000 in
theorem schnorrKnown_j20 : ((Rows.schnorrKnownRow.ifacesOut == Tryz.f6.resultTypes.toList.any (Tryz.prog.ifacesRec ·))) = true := by kernel_rfl
set_option maxRecDepth 100000 in
theorem schnorrKnown_j21 : ((Rows.schnorrKnownRow.loopsOut == Tryz.f6.resultTypes.toList.any (Tryz.prog.loopsFrom ·))) = true := by kernel_rfl
set_option maxRecDepth 100000 in
theorem schnorrKnown_j23 : (Rows.schnorrKnownRow.shortTexts.isNone) = true := by kernel_rfl
set_option maxRecDepth 100000 in
theorem schnorrKnown_j28 : ((Rows.schnorrKnownRow.kinds == (if Rows.schnorrKnownRow.domain.isEmpty then [] else Tryz.f6.params.toList.map fun t => match Tryz.prog.underlying t with | some (.int k) => some k | _ => none))) = true := by kernel_rfl
set_option maxRecDepth 100000 in
theorem schnorrKnown_j29 : ((Rows.schnorrKnownRow.pinned == Rows.schnorrKnownRow.pinnedBy)) = true := by kernel_rfl
set_option maxRecDepth 100000 in
theorem schnorrKnown_j30 : ((Rows.schnorrKnownRow.veiled == (Tryz.f6.params.toList ++ Rows.schnorrKnownSpec.plain.varTypes Tryz.prog ++ Tryz.f6.resultTypes.toList).any (Tryz.prog.veiledRec ·))) = true := by kernel_rfl
set_option maxRecDepth 100000 in
theorem schnorrKnown_j31 : (Rows.schnorrKnownRow.veiledFits Tryz.prog Tryz.f6.params.toList (Tryz.f6.params.toList ++ Rows.schnorrKnownSpec.plain.varTypes Tryz.prog ++ Tryz.f6.resultTypes.toList)) = true := by kernel_rfl
end Go.Proofs.YtcboekjnibppdaaGreatDoor
