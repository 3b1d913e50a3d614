import Derived.Test.YtedplhdabefnkaaGreatDoorRows
import Derived.JoinedOf
import Derived.OpenShut
import Derived.Stop.Joined
import Derived.Test.YtedplhdabefnkaaGreatDoorRq00
namespace Go.Proofs.YtedplhdabefnkaaGreatDoor
open Go Go.Rq Go.RowKit
set_option maxRecDepth 100000 in
theorem pledgeAdds_j1:(laidOutB Tryz.prog)=true:=by kernel_rfl
set_option maxRecDepth 100000 in
theorem pledgeAdds_j8:((Tryz.prog.stopKnobs == []))=true:=by kernel_rfl
set_option maxRecDepth 100000 in
theorem pledgeAdds_j12:((Rows.pledgeAddsRow.named == Tryz.prog.varsNamed 7))=true:=by kernel_rfl
set_option maxRecDepth 100000 in
theorem pledgeAdds_j26:((Rows.pledgeAddsRow.lifted == Tryz.prog.liftsFinal))=true:=by kernel_rfl
end Go.Proofs.YtedplhdabefnkaaGreatDoor
