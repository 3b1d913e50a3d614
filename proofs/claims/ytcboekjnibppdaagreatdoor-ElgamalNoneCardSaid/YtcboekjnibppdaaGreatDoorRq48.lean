/- Closed facts of a row. Written by a program of ours. -/
import Derived.Test.YtcboekjnibppdaaGreatDoorRows
import Derived.JoinedOf
import Derived.OpenShut
import Derived.Stop.Joined
import Derived.Test.YtcboekjnibppdaaGreatDoorRq00
namespace Go.Proofs.YtcboekjnibppdaaGreatDoor
open Go Go.Rq Go.RowKit
set_option maxRecDepth 100000 in
theorem elgamalNone_j1 : (laidOutB Tryz.prog) = true := by kernel_rfl
set_option maxRecDepth 100000 in
theorem elgamalNone_j8 : ((Tryz.prog.stopKnobs == [])) = true := by kernel_rfl
set_option maxRecDepth 100000 in
theorem elgamalNone_j12 : ((Rows.elgamalNoneRow.named == Tryz.prog.varsNamed 7)) = true := by kernel_rfl
set_option maxRecDepth 100000 in
theorem elgamalNone_j26 : ((Rows.elgamalNoneRow.lifted == Tryz.prog.liftsFinal)) = true := by kernel_rfl
end Go.Proofs.YtcboekjnibppdaaGreatDoor
