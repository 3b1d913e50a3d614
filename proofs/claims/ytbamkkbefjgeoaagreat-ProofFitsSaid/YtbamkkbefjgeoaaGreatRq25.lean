import Derived.Test.YtbamkkbefjgeoaaGreatRows
import Derived.JoinedOf
import Derived.OpenShut
import Derived.Stop.Joined
import Derived.Test.YtbamkkbefjgeoaaGreatRq00
namespace Go.Proofs.YtbamkkbefjgeoaaGreat
open Go Go.Rq Go.RowKit
set_option maxRecDepth 100000 in
theorem proofFits_j5 : ((Rows.proofFitsRow.stops == [])) = true := by kernel_rfl
set_option maxRecDepth 100000 in
theorem proofFits_j10 : ((Rows.proofFitsRow.unfollowed == Tryz.prog.unfollowed 4)) = true := by kernel_rfl
set_option maxRecDepth 100000 in
theorem proofFits_j24 : (Tryz.prog.stopsHeard) = true := by kernel_rfl
end Go.Proofs.YtbamkkbefjgeoaaGreat
