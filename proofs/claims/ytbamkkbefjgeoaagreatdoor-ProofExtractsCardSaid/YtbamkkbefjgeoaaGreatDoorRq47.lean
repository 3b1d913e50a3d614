import Derived.Test.YtbamkkbefjgeoaaGreatDoorRows
import Derived.JoinedOf
import Derived.OpenShut
import Derived.Stop.Joined
import Derived.Test.YtbamkkbefjgeoaaGreatDoorRq00
namespace Go.Proofs.YtbamkkbefjgeoaaGreatDoor
open Go Go.Rq Go.RowKit
set_option maxRecDepth 100000 in
theorem proofExtracts_j1 : (laidOutB Tryz.prog) = true := by kernel_rfl
set_option maxRecDepth 100000 in
theorem proofExtracts_j8 : ((Tryz.prog.stopKnobs == [])) = true := by kernel_rfl
set_option maxRecDepth 100000 in
theorem proofExtracts_j12 : ((Rows.proofExtractsRow.named == Tryz.prog.varsNamed 3)) = true := by kernel_rfl
set_option maxRecDepth 100000 in
theorem proofExtracts_j26 : ((Rows.proofExtractsRow.lifted == Tryz.prog.liftsFinal)) = true := by kernel_rfl
end Go.Proofs.YtbamkkbefjgeoaaGreatDoor
