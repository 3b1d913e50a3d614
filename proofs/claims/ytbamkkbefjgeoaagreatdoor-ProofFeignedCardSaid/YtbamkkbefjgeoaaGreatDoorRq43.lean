/- Closed facts of a row. Written by a program of ours. -/
import Derived.Test.YtbamkkbefjgeoaaGreatDoorRows
import Derived.JoinedOf
import Derived.OpenShut
import Derived.Stop.Joined
import Derived.Test.YtbamkkbefjgeoaaGreatDoorRq00
namespace Go.Proofs.YtbamkkbefjgeoaaGreatDoor
open Go Go.Rq Go.RowKit
set_option maxRecDepth 100000 in
theorem proofFeigned_j6 : ((Tryz.prog.stops == [])) = true := by kernel_rfl
set_option maxRecDepth 100000 in
theorem proofFeigned_j11 : ((Rows.proofFeignedRow.recurses == Tryz.prog.recurses 4)) = true := by kernel_rfl
set_option maxRecDepth 100000 in
theorem proofFeigned_j25 : (Tryz.prog.mayEnter) = true := by kernel_rfl
set_option maxRecDepth 100000 in
theorem proofFeigned_j0 : (Rows.proofFeignedRow.wf (OpenSpec.ofChange Rows.proofFeignedSpec)) = true := by kernel_rfl
set_option maxRecDepth 100000 in
theorem proofFeigned_j3 : (Tryz.f4.params.all (Tryz.prog.readableRec ·)) = true := by kernel_rfl
set_option maxRecDepth 100000 in
theorem proofFeigned_j4 : (namedTie Tryz.prog Rows.proofFeignedRow.named Rows.proofFeignedSpec.vars) = true := by kernel_rfl
set_option maxRecDepth 100000 in
theorem proofFeigned_j7 : ((Rows.proofFeignedRow.knobs == [])) = true := by kernel_rfl
set_option maxRecDepth 100000 in
theorem proofFeigned_j13 : ((Rows.proofFeignedRow.maps == (Tryz.f4.params.toList ++ Rows.proofFeignedSpec.plain.varTypes Tryz.prog).any (Tryz.prog.mapsRec ·))) = true := by kernel_rfl
set_option maxRecDepth 100000 in
theorem proofFeigned_j14 : ((Rows.proofFeignedRow.ifaces == (Tryz.f4.params.toList ++ Rows.proofFeignedSpec.plain.varTypes Tryz.prog).any (Tryz.prog.ifacesRec ·))) = true := by kernel_rfl
set_option maxRecDepth 100000 in
theorem proofFeigned_j15 : ((Rows.proofFeignedRow.mapsOut == Tryz.prog.mapsAmong Tryz.f4.resultTypes.toList)) = true := by kernel_rfl
set_option maxRecDepth 100000 in
theorem proofFeigned_j16 : ((Rows.proofFeignedRow.loops == (Tryz.f4.params.toList ++ Rows.proofFeignedSpec.plain.varTypes Tryz.prog).any (Tryz.prog.loopsFrom ·))) = true := by kernel_rfl
set_option maxRecDepth 100000 in
theorem proofFeigned_j17 : ((Rows.proofFeignedRow.wideKeys == (Tryz.f4.params.toList ++ Rows.proofFeignedSpec.plain.varTypes Tryz.prog ++ Tryz.f4.resultTypes.toList).any (Tryz.prog.wideKeysFrom ·))) = true := by kernel_rfl
set_option maxRecDepth 100000 in
theorem proofFeigned_j18 : (Rows.proofFeignedSpec.vars.all (Tryz.prog.varReadable ·)) = true := by kernel_rfl
set_option maxRecDepth 100000 in
theorem proofFeigned_j19 : (Tryz.f4.resultTypes.all (fun t => Tryz.prog.readableRec t && decide (t < Tryz.prog.types.size))) = true := by kernel_rfl
set_option maxRecDepth 100000 in
theorem proofFeigned_j20 : ((Rows.proofFeignedRow.ifacesOut == Tryz.f4.resultTypes.toList.any (Tryz.prog.ifacesRec ·))) = true := by kernel_rfl
set_option maxRecDepth 100000 in
theorem proofFeigned_j21 : ((Rows.proofFeignedRow.loopsOut == Tryz.f4.resultTypes.toList.any (Tryz.prog.loopsFrom ·))) = true := by kernel_rfl
set_option maxRecDepth 100000 in
theorem proofFeigned_j23 : (Rows.proofFeignedRow.shortTexts.isNone) = true := by kernel_rfl
set_option maxRecDepth 100000 in
theorem proofFeigned_j28 : ((Rows.proofFeignedRow.kinds == (if Rows.proofFeignedRow.domain.isEmpty then [] else Tryz.f4.params.toList.map fun t => match Tryz.prog.underlying t with | some (.int k) => some k | _ => none))) = true := by kernel_rfl
set_option maxRecDepth 100000 in
theorem proofFeigned_j29 : ((Rows.proofFeignedRow.pinned == Rows.proofFeignedRow.pinnedBy)) = true := by kernel_rfl
set_option maxRecDepth 100000 in
theorem proofFeigned_j30 : ((Rows.proofFeignedRow.veiled == (Tryz.f4.params.toList ++ Rows.proofFeignedSpec.plain.varTypes Tryz.prog ++ Tryz.f4.resultTypes.toList).any (Tryz.prog.veiledRec ·))) = true := by kernel_rfl
set_option maxRecDepth 100000 in
theorem proofFeigned_j31 : (Rows.proofFeignedRow.veiledFits Tryz.prog Tryz.f4.params.toList (Tryz.f4.params.toList ++ Rows.proofFeignedSpec.plain.varTypes Tryz.prog ++ Tryz.f4.resultTypes.toList)) = true := by kernel_rfl
end Go.Proofs.YtbamkkbefjgeoaaGreatDoor
