/- Closed facts of a row. Written by a program of ours. -/
import Derived.Test.YtcboekjnibppdaaGreatDoorRows
import Derived.JoinedOf
import Derived.OpenShut
import Derived.Stop.Joined
import Derived.Test.YtcboekjnibppdaaGreatDoorRq00
namespace Go.Proofs.YtcboekjnibppdaaGreatDoor
open Go Go.Rq Go.RowKit
set_option maxRecDepth 100000 in
theorem schnorrNone_j5 : ((Rows.schnorrNoneRow.stops == [])) = true := by kernel_rfl
set_option maxRecDepth 100000 in
theorem schnorrNone_j10 : ((Rows.schnorrNoneRow.unfollowed == Tryz.prog.unfollowed 5)) = true := by kernel_rfl
set_option maxRecDepth 100000 in
theorem schnorrNone_j24 : (Tryz.prog.stopsHeard) = true := by kernel_rfl
end Go.Proofs.YtcboekjnibppdaaGreatDoor
