/- Closed facts of a row. Written by a program of ours. -/
import Derived.Test.YtbamkkbefjgeoaaGreatRows
import Derived.JoinedOf
import Derived.OpenShut
import Derived.Stop.Joined
import Derived.Test.YtbamkkbefjgeoaaGreatRq00
namespace Go.Proofs.YtbamkkbefjgeoaaGreat
open Go Go.Rq Go.RowKit
set_option maxRecDepth 100000 in
theorem wireKnown_j5 : ((Rows.wireKnownRow.stops == [])) = true := by kernel_rfl
set_option maxRecDepth 100000 in
theorem wireKnown_j10 : ((Rows.wireKnownRow.unfollowed == Tryz.prog.unfollowed 5)) = true := by kernel_rfl
set_option maxRecDepth 100000 in
theorem wireKnown_j24 : (Tryz.prog.stopsHeard) = true := by kernel_rfl
end Go.Proofs.YtbamkkbefjgeoaaGreat
