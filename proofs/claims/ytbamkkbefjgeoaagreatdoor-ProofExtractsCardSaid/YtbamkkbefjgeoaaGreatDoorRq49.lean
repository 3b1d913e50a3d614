import Derived.Test.YtbamkkbefjgeoaaGreatDoorRows
import Derived.JoinedOf
import Derived.OpenShut
import Derived.Stop.Joined
import Derived.Test.YtbamkkbefjgeoaaGreatDoorRq00
namespace Go.Proofs.YtbamkkbefjgeoaaGreatDoor
open Go Go.Rq Go.RowKit
set_option maxRecDepth 100000 in
theorem proofExtracts_j5 : ((Rows.proofExtractsRow.stops == [])) = true := by kernel_rfl
set_option maxRecDepth 100000 in
theorem proofExtracts_j10 : ((Rows.proofExtractsRow.unfollowed == Tryz.prog.unfollowed 3)) = true := by kernel_rfl
set_option maxRecDepth 100000 in
theorem proofExtracts_j24 : (Tryz.prog.stopsHeard) = true := by kernel_rfl
end Go.Proofs.YtbamkkbefjgeoaaGreatDoor
