import Derived.Test.YtedplhdabefnkaaGreatDoorRows
import Derived.JoinedOf
import Derived.OpenShut
import Derived.Stop.Joined
import Derived.Test.YtedplhdabefnkaaGreatDoorRq00
namespace Go.Proofs.YtedplhdabefnkaaGreatDoor
open Go Go.Rq Go.RowKit
set_option maxRecDepth 100000 in
theorem pledgeAdds_j5:((Rows.pledgeAddsRow.stops == []))=true:=by kernel_rfl
set_option maxRecDepth 100000 in
theorem pledgeAdds_j10:((Rows.pledgeAddsRow.unfollowed == Tryz.prog.unfollowed 7))=true:=by kernel_rfl
set_option maxRecDepth 100000 in
theorem pledgeAdds_j24:(Tryz.prog.stopsHeard)=true:=by kernel_rfl
end Go.Proofs.YtedplhdabefnkaaGreatDoor
