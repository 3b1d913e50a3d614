import Derived.Test.YtedplhdabefnkaaGreatDoorRows
import Derived.JoinedOf
import Derived.OpenShut
import Derived.Stop.Joined
import Derived.Test.YtedplhdabefnkaaGreatDoorRq00
namespace Go.Proofs.YtedplhdabefnkaaGreatDoor
open Go Go.Rq Go.RowKit
set_option maxRecDepth 100000 in
theorem pledgeBinds_j6 : ((Tryz.prog.stops == [])) = true := by kernel_rfl
set_option maxRecDepth 100000 in
theorem pledgeBinds_j11 : ((Rows.pledgeBindsRow.recurses == Tryz.prog.recurses 5)) = true := by kernel_rfl
set_option maxRecDepth 100000 in
theorem pledgeBinds_j25 : (Tryz.prog.mayEnter) = true := by kernel_rfl
set_option maxRecDepth 100000 in
theorem pledgeBinds_j0 : (Rows.pledgeBindsRow.wf (OpenSpec.ofChange Rows.pledgeBindsSpec)) = true := by kernel_rfl
set_option maxRecDepth 100000 in
theorem pledgeBinds_j3 : (Tryz.f5.params.all (Tryz.prog.readableRec ·)) = true := by kernel_rfl
set_option maxRecDepth 100000 in
theorem pledgeBinds_j4 : (namedTie Tryz.prog Rows.pledgeBindsRow.named Rows.pledgeBindsSpec.vars) = true := by kernel_rfl
set_option maxRecDepth 100000 in
theorem pledgeBinds_j7 : ((Rows.pledgeBindsRow.knobs == [])) = true := by kernel_rfl
set_option maxRecDepth 100000 in
theorem pledgeBinds_j13 : ((Rows.pledgeBindsRow.maps == (Tryz.f5.params.toList ++ Rows.pledgeBindsSpec.plain.varTypes Tryz.prog).any (Tryz.prog.mapsRec ·))) = true := by kernel_rfl
set_option maxRecDepth 100000 in
theorem pledgeBinds_j14 : ((Rows.pledgeBindsRow.ifaces == (Tryz.f5.params.toList ++ Rows.pledgeBindsSpec.plain.varTypes Tryz.prog).any (Tryz.prog.ifacesRec ·))) = true := by kernel_rfl
set_option maxRecDepth 100000 in
theorem pledgeBinds_j15 : ((Rows.pledgeBindsRow.mapsOut == Tryz.prog.mapsAmong Tryz.f5.resultTypes.toList)) = true := by kernel_rfl
set_option maxRecDepth 100000 in
theorem pledgeBinds_j16 : ((Rows.pledgeBindsRow.loops == (Tryz.f5.params.toList ++ Rows.pledgeBindsSpec.plain.varTypes Tryz.prog).any (Tryz.prog.loopsFrom ·))) = true := by kernel_rfl
set_option maxRecDepth 100000 in
theorem pledgeBinds_j17 : ((Rows.pledgeBindsRow.wideKeys == (Tryz.f5.params.toList ++ Rows.pledgeBindsSpec.plain.varTypes Tryz.prog ++ Tryz.f5.resultTypes.toList).any (Tryz.prog.wideKeysFrom ·))) = true := by kernel_rfl
set_option maxRecDepth 100000 in
theorem pledgeBinds_j18 : (Rows.pledgeBindsSpec.vars.all (Tryz.prog.varReadable ·)) = true := by kernel_rfl
set_option maxRecDepth 100000 in
theorem pledgeBinds_j19 : (Tryz.f5.resultTypes.all (fun t => Tryz.prog.readableRec t && decide (t < Tryz.prog.types.size))) = true := by kernel_rfl
set_option maxRecDepth 100000 in
theorem pledgeBinds_j20 : ((Rows.pledgeBindsRow.ifacesOut == Tryz.f5.resultTypes.toList.any (Tryz.prog.ifacesRec ·))) = true := by kernel_rfl
set_option maxRecDepth 100000 in
theorem pledgeBinds_j21 : ((Rows.pledgeBindsRow.loopsOut == Tryz.f5.resultTypes.toList.any (Tryz.prog.loopsFrom ·))) = true := by kernel_rfl
set_option maxRecDepth 100000 in
theorem pledgeBinds_j23 : (Rows.pledgeBindsRow.shortTexts.isNone) = true := by kernel_rfl
set_option maxRecDepth 100000 in
theorem pledgeBinds_j28 : ((Rows.pledgeBindsRow.kinds == (if Rows.pledgeBindsRow.domain.isEmpty then [] else Tryz.f5.params.toList.map fun t => match Tryz.prog.underlying t with | some (.int k) => some k | _ => none))) = true := by kernel_rfl
set_option maxRecDepth 100000 in
theorem pledgeBinds_j29 : ((Rows.pledgeBindsRow.pinned == Rows.pledgeBindsRow.pinnedBy)) = true := by kernel_rfl
set_option maxRecDepth 100000 in
theorem pledgeBinds_j30 : ((Rows.pledgeBindsRow.veiled == (Tryz.f5.params.toList ++ Rows.pledgeBindsSpec.plain.varTypes Tryz.prog ++ Tryz.f5.resultTypes.toList).any (Tryz.prog.veiledRec ·))) = true := by kernel_rfl
set_option maxRecDepth 100000 in
theorem pledgeBinds_j31 : (Rows.pledgeBindsRow.veiledFits Tryz.prog Tryz.f5.params.toList (Tryz.f5.params.toList ++ Rows.pledgeBindsSpec.plain.varTypes Tryz.prog ++ Tryz.f5.resultTypes.toList)) = true := by kernel_rfl
end Go.Proofs.YtedplhdabefnkaaGreatDoor
