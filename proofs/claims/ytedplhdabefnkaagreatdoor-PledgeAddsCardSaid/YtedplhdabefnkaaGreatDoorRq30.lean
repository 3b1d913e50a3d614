import Derived.Test.YtedplhdabefnkaaGreatDoorRows
import Derived.JoinedOf
import Derived.OpenShut
import Derived.Stop.Joined
import Derived.Test.YtedplhdabefnkaaGreatDoorRq00
namespace Go.Proofs.YtedplhdabefnkaaGreatDoor
open Go Go.Rq Go.RowKit
set_option maxRecDepth 100000 in
theorem pledgeAdds_j2:(mapsRowed Tryz.prog)=true:=by kernel_rfl
set_option maxRecDepth 100000 in
theorem pledgeAdds_j9:((Rows.pledgeAddsRow.inPlace == Tryz.prog.inPlace 7))=true:=by kernel_rfl
set_option maxRecDepth 100000 in
theorem pledgeAdds_j22:((Rows.pledgeAddsRow.plainKeys == Tryz.prog.plainKeys))=true:=by kernel_rfl
set_option maxRecDepth 100000 in
theorem pledgeAdds_j27:((Tryz.prog.make == some Rows.pledgeAddsRow.make))=true:=by kernel_rfl
end Go.Proofs.YtedplhdabefnkaaGreatDoor
