/- Closed facts of a row. Written by a program of ours. -/
import Derived.Test.YtcboekjnibppdaaGreatDoorRows
import Derived.JoinedOf
import Derived.OpenShut
import Derived.Stop.Joined
import Derived.Test.YtcboekjnibppdaaGreatDoorRq00
namespace Go.Proofs.YtcboekjnibppdaaGreatDoor
open Go Go.Rq Go.RowKit
set_option maxRecDepth 100000 in
theorem dkgKnown_j6 : ((Tryz.prog.stops == [])) = true := by kernel_rfl
set_option maxRecDepth 100000 in
theorem dkgKnown_j11 : ((Rows.dkgKnownRow.recurses == Tryz.prog.recurses 10)) = true := by kernel_rfl
set_option maxRecDepth 100000 in
theorem dkgKnown_j25 : (Tryz.prog.mayEnter) = true := by kernel_rfl
set_option maxRecDepth 100000 in
theorem dkgKnown_j0 : (Rows.dkgKnownRow.wf (OpenSpec.ofChange Rows.dkgKnownSpec)) = true := by kernel_rfl
set_option maxRecDepth 100000 in
theorem dkgKnown_j3 : (Tryz.f10.params.all (Tryz.prog.readableRec ·)) = true := by kernel_rfl
set_option maxRecDepth 100000 in
theorem dkgKnown_j4 : (namedTie Tryz.prog Rows.dkgKnownRow.named Rows.dkgKnownSpec.vars) = true := by kernel_rfl
set_option maxRecDepth 100000 in
theorem dkgKnown_j7 : ((Rows.dkgKnownRow.knobs == [])) = true := by kernel_rfl
set_option maxRecDepth 100000 in
theorem dkgKnown_j13 : ((Rows.dkgKnownRow.maps == (Tryz.f10.params.toList ++ Rows.dkgKnownSpec.plain.varTypes Tryz.prog).any (Tryz.prog.mapsRec ·))) = true := by kernel_rfl
set_option maxRecDepth 100000 in
theorem dkgKnown_j14 : ((Rows.dkgKnownRow.ifaces == (Tryz.f10.params.toList ++ Rows.dkgKnownSpec.plain.varTypes Tryz.prog).any (Tryz.prog.ifacesRec ·))) = true := by kernel_rfl
set_option maxRecDepth 100000 in
theorem dkgKnown_j15 : ((Rows.dkgKnownRow.mapsOut == Tryz.prog.mapsAmong Tryz.f10.resultTypes.toList)) = true := by kernel_rfl
set_option maxRecDepth 100000 in
theorem dkgKnown_j16 : ((Rows.dkgKnownRow.loops == (Tryz.f10.params.toList ++ Rows.dkgKnownSpec.plain.varTypes Tryz.prog).any (Tryz.prog.loopsFrom ·))) = true := by kernel_rfl
set_option maxRecDepth 100000 in
theorem dkgKnown_j17 : ((Rows.dkgKnownRow.wideKeys == (Tryz.f10.params.toList ++ Rows.dkgKnownSpec.plain.varTypes Tryz.prog ++ Tryz.f10.resultTypes.toList).any (Tryz.prog.wideKeysFrom ·))) = true := by kernel_rfl
set_option maxRecDepth 100000 in
theorem dkgKnown_j18 : (Rows.dkgKnownSpec.vars.all (Tryz.prog.varReadable ·)) = true := by kernel_rfl
set_option maxRecDepth 100000 in
theorem dkgKnown_j19 : (Tryz.f10.resultTypes.all (fun t => Tryz.prog.readableRec t && decide (t < Tryz.prog.types.size))) = true := by kernel_rfl
set_option maxRecDepth 100000 in
theorem dkgKnown_j20 : ((Rows.dkgKnownRow.ifacesOut == Tryz.f10.resultTypes.toList.any (Tryz.prog.ifacesRec ·))) = true := by kernel_rfl
set_option maxRecDepth 100000 in
theorem dkgKnown_j21 : ((Rows.dkgKnownRow.loopsOut == Tryz.f10.resultTypes.toList.any (Tryz.prog.loopsFrom ·))) = true := by kernel_rfl
set_option maxRecDepth 100000 in
theorem dkgKnown_j23 : (Rows.dkgKnownRow.shortTexts.isNone) = true := by kernel_rfl
set_option maxRecDepth 100000 in
theorem dkgKnown_j28 : ((Rows.dkgKnownRow.kinds == (if Rows.dkgKnownRow.domain.isEmpty then [] else Tryz.f10.params.toList.map fun t => match Tryz.prog.underlying t with | some (.int k) => some k | _ => none))) = true := by kernel_rfl
set_option maxRecDepth 100000 in
theorem dkgKnown_j29 : ((Rows.dkgKnownRow.pinned == Rows.dkgKnownRow.pinnedBy)) = true := by kernel_rfl
set_option maxRecDepth 100000 in
theorem dkgKnown_j30 : ((Rows.dkgKnownRow.veiled == (Tryz.f10.params.toList ++ Rows.dkgKnownSpec.plain.varTypes Tryz.prog ++ Tryz.f10.resultTypes.toList).any (Tryz.prog.veiledRec ·))) = true := by kernel_rfl
set_option maxRecDepth 100000 in
theorem dkgKnown_j31 : (Rows.dkgKnownRow.veiledFits Tryz.prog Tryz.f10.params.toList (Tryz.f10.params.toList ++ Rows.dkgKnownSpec.plain.varTypes Tryz.prog ++ Tryz.f10.resultTypes.toList)) = true := by kernel_rfl
end Go.Proofs.YtcboekjnibppdaaGreatDoor
