import Derived.Test.YtedplhdabefnkaaGreatDoorRows
import Derived.JoinedOf
import Derived.OpenShut
import Derived.Stop.Joined
import Derived.Test.YtedplhdabefnkaaGreatDoorRq00
namespace Go.Proofs.YtedplhdabefnkaaGreatDoor
open Go Go.Rq Go.RowKit
set_option maxRecDepth 100000 in
theorem pledgeHolds_j1:(laidOutB Tryz.prog)=true:=by kernel_rfl
set_option maxRecDepth 100000 in
theorem pledgeHolds_j8:((Tryz.prog.stopKnobs == []))=true:=by kernel_rfl
set_option maxRecDepth 100000 in
theorem pledgeHolds_j12:((Rows.pledgeHoldsRow.named == Tryz.prog.varsNamed 6))=true:=by kernel_rfl
set_option maxRecDepth 100000 in
theorem pledgeHolds_j26:((Rows.pledgeHoldsRow.lifted == Tryz.prog.liftsFinal))=true:=by kernel_rfl
end Go.Proofs.YtedplhdabefnkaaGreatDoor
