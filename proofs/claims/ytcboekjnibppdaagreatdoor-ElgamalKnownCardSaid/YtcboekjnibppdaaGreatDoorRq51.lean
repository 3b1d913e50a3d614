/- Closed facts of a row. Written by a program of ours. -/
import Derived.Test.YtcboekjnibppdaaGreatDoorRows
import Derived.JoinedOf
import Derived.OpenShut
import Derived.Stop.Joined
import Derived.Test.YtcboekjnibppdaaGreatDoorRq00
namespace Go.Proofs.YtcboekjnibppdaaGreatDoor
open Go Go.Rq Go.RowKit
set_option maxRecDepth 100000 in
theorem elgamalKnown_j6 : ((Tryz.prog.stops == [])) = true := by kernel_rfl
set_option maxRecDepth 100000 in
theorem elgamalKnown_j11 : ((Rows.elgamalKnownRow.recurses == Tryz.prog.recurses 8)) = true := by kernel_rfl
set_option maxRecDepth 100000 in
theorem elgamalKnown_j25 : (Tryz.prog.mayEnter) = true := by kernel_rfl
set_option maxRecDepth 100000 in
theorem elgamalKnown_j0 : (Rows.elgamalKnownRow.wf (OpenSpec.ofChange Rows.elgamalKnownSpec)) = true := by kernel_rfl
set_option maxRecDepth 100000 in
theorem elgamalKnown_j3 : (Tryz.f8.params.all (Tryz.prog.readableRec ·)) = true := by kernel_rfl
set_option maxRecDepth 100000 in
theorem elgamalKnown_j4 : (namedTie Tryz.prog Rows.elgamalKnownRow.named Rows.elgamalKnownSpec.vars) = true := by kernel_rfl
set_option maxRecDepth 100000 in
theorem elgamalKnown_j7 : ((Rows.elgamalKnownRow.knobs == [])) = true := by kernel_rfl
set_option maxRecDepth 100000 in
theorem elgamalKnown_j13 : ((Rows.elgamalKnownRow.maps == (Tryz.f8.params.toList ++ Rows.elgamalKnownSpec.plain.varTypes Tryz.prog).any (Tryz.prog.mapsRec ·))) = true := by kernel_rfl
set_option maxRecDepth 100000 in
theorem elgamalKnown_j14 : ((Rows.elgamalKnownRow.ifaces == (Tryz.f8.params.toList ++ Rows.elgamalKnownSpec.plain.varTypes Tryz.prog).any (Tryz.prog.ifacesRec ·))) = true := by kernel_rfl
set_option maxRecDepth 100000 in
theorem elgamalKnown_j15 : ((Rows.elgamalKnownRow.mapsOut == Tryz.prog.mapsAmong Tryz.f8.resultTypes.toList)) = true := by kernel_rfl
set_option maxRecDepth 100000 in
theorem elgamalKnown_j16 : ((Rows.elgamalKnownRow.loops == (Tryz.f8.params.toList ++ Rows.elgamalKnownSpec.plain.varTypes Tryz.prog).any (Tryz.prog.loopsFrom ·))) = true := by kernel_rfl
set_option maxRecDepth 100000 in
theorem elgamalKnown_j17 : ((Rows.elgamalKnownRow.wideKeys == (Tryz.f8.params.toList ++ Rows.elgamalKnownSpec.plain.varTypes Tryz.prog ++ Tryz.f8.resultTypes.toList).any (Tryz.prog.wideKeysFrom ·))) = true := by kernel_rfl
set_option maxRecDepth 100000 in
theorem elgamalKnown_j18 : (Rows.elgamalKnownSpec.vars.all (Tryz.prog.varReadable ·)) = true := by kernel_rfl
set_option maxRecDepth 100000 in
theorem elgamalKnown_j19 : (Tryz.f8.resultTypes.all (fun t => Tryz.prog.readableRec t && decide (t < Tryz.prog.types.size))) = true := by kernel_rfl
set_option maxRecDepth 100000 in
theorem elgamalKnown_j20 : ((Rows.elgamalKnownRow.ifacesOut == Tryz.f8.resultTypes.toList.any (Tryz.prog.ifacesRec ·))) = true := by kernel_rfl
set_option maxRecDepth 100000 in
theorem elgamalKnown_j21 : ((Rows.elgamalKnownRow.loopsOut == Tryz.f8.resultTypes.toList.any (Tryz.prog.loopsFrom ·))) = true := by kernel_rfl
set_option maxRecDepth 100000 in
theorem elgamalKnown_j23 : (Rows.elgamalKnownRow.shortTexts.isNone) = true := by kernel_rfl
set_option maxRecDepth 100000 in
theorem elgamalKnown_j28 : ((Rows.elgamalKnownRow.kinds == (if Rows.elgamalKnownRow.domain.isEmpty then [] else Tryz.f8.params.toList.map fun t => match Tryz.prog.underlying t with | some (.int k) => some k | _ => none))) = true := by kernel_rfl
set_option maxRecDepth 100000 in
theorem elgamalKnown_j29 : ((Rows.elgamalKnownRow.pinned == Rows.elgamalKnownRow.pinnedBy)) = true := by kernel_rfl
set_option maxRecDepth 100000 in
theorem elgamalKnown_j30 : ((Rows.elgamalKnownRow.veiled == (Tryz.f8.params.toList ++ Rows.elgamalKnownSpec.plain.varTypes Tryz.prog ++ Tryz.f8.resultTypes.toList).any (Tryz.prog.veiledRec ·))) = true := by kernel_rfl
set_option maxRecDepth 100000 in
theorem elgamalKnown_j31 : (Rows.elgamalKnownRow.veiledFits Tryz.prog Tryz.f8.params.toList (Tryz.f8.params.toList ++ Rows.elgamalKnownSpec.plain.varTypes Tryz.prog ++ Tryz.f8.resultTypes.toList)) = true := by kernel_rfl
end Go.Proofs.YtcboekjnibppdaaGreatDoor
