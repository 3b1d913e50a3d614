/- Closed facts of a row. Written by a program of ours. -/
import Derived.Test.YtbamkkbefjgeoaaGreatDoorRows
import Derived.JoinedOf
import Derived.OpenShut
import Derived.Stop.Joined
import Derived.Test.YtbamkkbefjgeoaaGreatDoorRq00
namespace Go.Proofs.YtbamkkbefjgeoaaGreatDoor
open Go Go.Rq Go.RowKit
set_option maxRecDepth 100000 in
theorem proofFeigned_j5 : ((Rows.proofFeignedRow.stops == [])) = true := by kernel_rfl
set_option maxRecDepth 100000 in
theorem proofFeigned_j10 : ((Rows.proofFeignedRow.unfollowed == Tryz.prog.unfollowed 4)) = true := by kernel_rfl
set_option maxRecDepth 100000 in
theorem proofFeigned_j24 : (Tryz.prog.stopsHeard) = true := by kernel_rfl
end Go.Proofs.YtbamkkbefjgeoaaGreatDoor
