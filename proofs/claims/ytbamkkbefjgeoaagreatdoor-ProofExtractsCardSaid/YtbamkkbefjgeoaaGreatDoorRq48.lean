import Derived.Test.YtbamkkbefjgeoaaGreatDoorRows
import Derived.JoinedOf
import Derived.OpenShut
import Derived.Stop.Joined
import Derived.Test.YtbamkkbefjgeoaaGreatDoorRq00
namespace Go.Proofs.YtbamkkbefjgeoaaGreatDoor
open Go Go.Rq Go.RowKit
set_option maxRecDepth 100000 in
theorem proofExtracts_j2 : (mapsRowed Tryz.prog) = true := by kernel_rfl
set_option maxRecDepth 100000 in
theorem proofExtracts_j9 : ((Rows.proofExtractsRow.inPlace == Tryz.prog.inPlace 3)) = true := by kernel_rfl
set_option maxRecDepth 100000 in
theorem proofExtracts_j22 : ((Rows.proofExtractsRow.plainKeys == Tryz.prog.plainKeys)) = true := by kernel_rfl
set_option maxRecDepth 100000 in
theorem proofExtracts_j27 : ((Tryz.prog.make == some Rows.proofExtractsRow.make)) = true := by kernel_rfl
end Go.Proofs.YtbamkkbefjgeoaaGreatDoor
