import Derived.Test.YtbamkkbefjgeoaaGreatRows
import Derived.JoinedOf
import Derived.OpenShut
import Derived.Stop.Joined
import Derived.Test.YtbamkkbefjgeoaaGreatRq00
namespace Go.Proofs.YtbamkkbefjgeoaaGreat
open Go Go.Rq Go.RowKit
set_option maxRecDepth 100000 in
theorem proofFits_j6 : ((Tryz.prog.stops == [])) = true := by kernel_rfl
set_option maxRecDepth 100000 in
theorem proofFits_j11 : ((Rows.proofFitsRow.recurses == Tryz.prog.recurses 4)) = true := by kernel_rfl
set_option maxRecDepth 100000 in
theorem proofFits_j25 : (Tryz.prog.mayEnter) = true := by kernel_rfl
set_option maxRecDepth 100000 in
theorem proofFits_j0 : (Rows.proofFitsRow.wf (OpenSpec.ofChange Rows.proofFitsSpec)) = true := by kernel_rfl
set_option maxRecDepth 100000 in
theorem proofFits_j3 : (Tryz.f4.params.all (Tryz.prog.readableRec ·)) = true := by kernel_rfl
set_option maxRecDepth 100000 in
theorem proofFits_j4 : (namedTie Tryz.prog Rows.proofFitsRow.named Rows.proofFitsSpec.vars) = true := by kernel_rfl
set_option maxRecDepth 100000 in
theorem proofFits_j7 : ((Rows.proofFitsRow.knobs == [])) = true := by kernel_rfl
set_option maxRecDepth 100000 in
theorem proofFits_j13 : ((Rows.proofFitsRow.maps == (Tryz.f4.params.toList ++ Rows.proofFitsSpec.plain.varTypes Tryz.prog).any (Tryz.prog.mapsRec ·))) = true := by kernel_rfl
set_option maxRecDepth 100000 in
theorem proofFits_j14 : ((Rows.proofFitsRow.ifaces == (Tryz.f4.params.toList ++ Rows.proofFitsSpec.plain.varTypes Tryz.prog).any (Tryz.prog.ifacesRec ·))) = true := by kernel_rfl
set_option maxRecDepth 100000 in
theorem proofFits_j15 : ((Rows.proofFitsRow.mapsOut == Tryz.prog.mapsAmong Tryz.f4.resultTypes.toList)) = true := by kernel_rfl
set_option maxRecDepth 100000 in
theorem proofFits_j16 : ((Rows.proofFitsRow.loops == (Tryz.f4.params.toList ++ Rows.proofFitsSpec.plain.varTypes Tryz.prog).any (Tryz.prog.loopsFrom ·))) = true := by kernel_rfl
set_option maxRecDepth 100000 in
theorem proofFits_j17 : ((Rows.proofFitsRow.wideKeys == (Tryz.f4.params.toList ++ Rows.proofFitsSpec.plain.varTypes Tryz.prog ++ Tryz.f4.resultTypes.toList).any (Tryz.prog.wideKeysFrom ·))) = true := by kernel_rfl
set_option maxRecDepth 100000 in
theorem proofFits_j18 : (Rows.proofFitsSpec.vars.all (Tryz.prog.varReadable ·)) = true := by kernel_rfl
set_option maxRecDepth 100000 in
theorem proofFits_j19 : (Tryz.f4.resultTypes.all (fun t => Tryz.prog.readableRec t && decide (t < Tryz.prog.types.size))) = true := by kernel_rfl
set_option maxRecDepth 100000 in
theorem proofFits_j20 : ((Rows.proofFitsRow.ifacesOut == Tryz.f4.resultTypes.toList.any (Tryz.prog.ifacesRec ·))) = true := by kernel_rfl
set_option maxRecDepth 100000 in
theorem proofFits_j21 : ((Rows.proofFitsRow.loopsOut == Tryz.f4.resultTypes.toList.any (Tryz.prog.loopsFrom ·))) = true := by kernel_rfl
set_option maxRecDepth 100000 in
theorem proofFits_j23 : (Rows.proofFitsRow.shortTexts.isNone) = true := by kernel_rfl
set_option maxRecDepth 100000 in
theorem proofFits_j28 : ((Rows.proofFitsRow.kinds == (if Rows.proofFitsRow.domain.isEmpty then [] else Tryz.f4.params.toList.map fun t => match Tryz.prog.underlying t with | some (.int k) => some k | _ => none))) = true := by kernel_rfl
set_option maxRecDepth 100000 in
theorem proofFits_j29 : ((Rows.proofFitsRow.pinned == Rows.proofFitsRow.pinnedBy)) = true := by kernel_rfl
set_option maxRecDepth 100000 in
theorem proofFits_j30 : ((Rows.proofFitsRow.veiled == (Tryz.f4.params.toList ++ Rows.proofFitsSpec.plain.varTypes Tryz.prog ++ Tryz.f4.resultTypes.toList).any (Tryz.prog.veiledRec ·))) = true := by kernel_rfl
set_option maxRecDepth 100000 in
theorem proofFits_j31 : (Rows.proofFitsRow.veiledFits Tryz.prog Tryz.f4.params.toList (Tryz.f4.params.toList ++ Rows.proofFitsSpec.plain.varTypes Tryz.prog ++ Tryz.f4.resultTypes.toList)) = true := by kernel_rfl
end Go.Proofs.YtbamkkbefjgeoaaGreat
