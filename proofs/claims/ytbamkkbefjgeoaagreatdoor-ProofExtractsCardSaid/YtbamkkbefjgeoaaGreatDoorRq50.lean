import Derived.Test.YtbamkkbefjgeoaaGreatDoorRows
import Derived.JoinedOf
import Derived.OpenShut
import Derived.Stop.Joined
import Derived.Test.YtbamkkbefjgeoaaGreatDoorRq00
namespace Go.Proofs.YtbamkkbefjgeoaaGreatDoor
open Go Go.Rq Go.RowKit
set_option maxRecDepth 100000 in
theorem proofExtracts_j6 : ((Tryz.prog.stops == [])) = true := by kernel_rfl
set_option maxRecDepth 100000 in
theorem proofExtracts_j11 : ((Rows.proofExtractsRow.recurses == Tryz.prog.recurses 3)) = true := by kernel_rfl
set_option maxRecDepth 100000 in
theorem proofExtracts_j25 : (Tryz.prog.mayEnter) = true := by kernel_rfl
set_option maxRecDepth 100000 in
theorem proofExtracts_j0 : (Rows.proofExtractsRow.wf (OpenSpec.ofChange Rows.proofExtractsSpec)) = true := by kernel_rfl
set_option maxRecDepth 100000 in
theorem proofExtracts_j3 : (Tryz.f3.params.all (Tryz.prog.readableRec ·)) = true := by kernel_rfl
set_option maxRecDepth 100000 in
theorem proofExtracts_j4 : (namedTie Tryz.prog Rows.proofExtractsRow.named Rows.proofExtractsSpec.vars) = true := by kernel_rfl
set_option maxRecDepth 100000 in
theorem proofExtracts_j7 : ((Rows.proofExtractsRow.knobs == [])) = true := by kernel_rfl
set_option maxRecDepth 100000 in
theorem proofExtracts_j13 : ((Rows.proofExtractsRow.maps == (Tryz.f3.params.toList ++ Rows.proofExtractsSpec.plain.varTypes Tryz.prog).any (Tryz.prog.mapsRec ·))) = true := by kernel_rfl
set_option maxRecDepth 100000 in
theorem proofExtracts_j14 : ((Rows.proofExtractsRow.ifaces == (Tryz.f3.params.toList ++ Rows.proofExtractsSpec.plain.varTypes Tryz.prog).any (Tryz.prog.ifacesRec ·))) = true := by kernel_rfl
set_option maxRecDepth 100000 in
theorem proofExtracts_j15 : ((Rows.proofExtractsRow.mapsOut == Tryz.prog.mapsAmong Tryz.f3.resultTypes.toList)) = true := by kernel_rfl
set_option maxRecDepth 100000 in
theorem proofExtracts_j16 : ((Rows.proofExtractsRow.loops == (Tryz.f3.params.toList ++ Rows.proofExtractsSpec.plain.varTypes Tryz.prog).any (Tryz.prog.loopsFrom ·))) = true := by kernel_rfl
set_option maxRecDepth 100000 in
theorem proofExtracts_j17 : ((Rows.proofExtractsRow.wideKeys == (Tryz.f3.params.toList ++ Rows.proofExtractsSpec.plain.varTypes Tryz.prog ++ Tryz.f3.resultTypes.toList).any (Tryz.prog.wideKeysFrom ·))) = true := by kernel_rfl
set_option maxRecDepth 100000 in
theorem proofExtracts_j18 : (Rows.proofExtractsSpec.vars.all (Tryz.prog.varReadable ·)) = true := by kernel_rfl
set_option maxRecDepth 100000 in
theorem proofExtracts_j19 : (Tryz.f3.resultTypes.all (fun t => Tryz.prog.readableRec t && decide (t < Tryz.prog.types.size))) = true := by kernel_rfl
set_option maxRecDepth 100000 in
theorem proofExtracts_j20 : ((Rows.proofExtractsRow.ifacesOut == Tryz.f3.resultTypes.toList.any (Tryz.prog.ifacesRec ·))) = true := by kernel_rfl
set_option maxRecDepth 100000 in
theorem proofExtracts_j21 : ((Rows.proofExtractsRow.loopsOut == Tryz.f3.resultTypes.toList.any (Tryz.prog.loopsFrom ·))) = true := by kernel_rfl
set_option maxRecDepth 100000 in
theorem proofExtracts_j23 : (Rows.proofExtractsRow.shortTexts.isNone) = true := by kernel_rfl
set_option maxRecDepth 100000 in
theorem proofExtracts_j28 : ((Rows.proofExtractsRow.kinds == (if Rows.proofExtractsRow.domain.isEmpty then [] else Tryz.f3.params.toList.map fun t => match Tryz.prog.underlying t with | some (.int k) => some k | _ => none))) = true := by kernel_rfl
set_option maxRecDepth 100000 in
theorem proofExtracts_j29 : ((Rows.proofExtractsRow.pinned == Rows.proofExtractsRow.pinnedBy)) = true := by kernel_rfl
set_option maxRecDepth 100000 in
theorem proofExtracts_j30 : ((Rows.proofExtractsRow.veiled == (Tryz.f3.params.toList ++ Rows.proofExtractsSpec.plain.varTypes Tryz.prog ++ Tryz.f3.resultTypes.toList).any (Tryz.prog.veiledRec ·))) = true := by kernel_rfl
set_option maxRecDepth 100000 in
theorem proofExtracts_j31 : (Rows.proofExtractsRow.veiledFits Tryz.prog Tryz.f3.params.toList (Tryz.f3.params.toList ++ Rows.proofExtractsSpec.plain.varTypes Tryz.prog ++ Tryz.f3.resultTypes.toList)) = true := by kernel_rfl
end Go.Proofs.YtbamkkbefjgeoaaGreatDoor
