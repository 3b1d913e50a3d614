/- Closed facts of a row. Written by a program of ours. -/
import Derived.Test.YtbamkkbefjgeoaaGreatDoorRows
import Derived.JoinedOf
import Derived.OpenShut
import Derived.Stop.Joined
import Derived.Test.YtbamkkbefjgeoaaGreatDoorRq00
namespace Go.Proofs.YtbamkkbefjgeoaaGreatDoor
open Go Go.Rq Go.RowKit
set_option maxRecDepth 100000 in
theorem channelKnown_j5 : ((Rows.channelKnownRow.stops == [])) = true := by kernel_rfl
set_option maxRecDepth 100000 in
theorem channelKnown_j10 : ((Rows.channelKnownRow.unfollowed == Tryz.prog.unfollowed 5)) = true := by kernel_rfl
set_option maxRecDepth 100000 in
theorem channelKnown_j24 : (Tryz.prog.stopsHeard) = true := by kernel_rfl
end Go.Proofs.YtbamkkbefjgeoaaGreatDoor
