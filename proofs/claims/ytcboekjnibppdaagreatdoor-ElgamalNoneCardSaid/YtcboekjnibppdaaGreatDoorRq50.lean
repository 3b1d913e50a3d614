/- Closed facts of a row. Written by a program of ours. -/
import Derived.Test.YtcboekjnibppdaaGreatDoorRows
import Derived.JoinedOf
import Derived.OpenShut
import Derived.Stop.Joined
import Derived.Test.YtcboekjnibppdaaGreatDoorRq00
namespace Go.Proofs.YtcboekjnibppdaaGreatDoor
open Go Go.Rq Go.RowKit
set_option maxRecDepth 100000 in
theorem elgamalNone_j5 : ((Rows.elgamalNoneRow.stops == [])) = true := by kernel_rfl
set_option maxRecDepth 100000 in
theorem elgamalNone_j10 : ((Rows.elgamalNoneRow.unfollowed == Tryz.prog.unfollowed 7)) = true := by kernel_rfl
set_option maxRecDepth 100000 in
theorem elgamalNone_j24 : (Tryz.prog.stopsHeard) = true := by kernel_rfl
end Go.Proofs.YtcboekjnibppdaaGreatDoor
