/- Closed facts of a row. Written by a program of ours. -/
import Derived.Test.YtcboekjnibppdaaGreatDoorRows
import Derived.JoinedOf
import Derived.OpenShut
import Derived.Stop.Joined
import Derived.Test.YtcboekjnibppdaaGreatDoorRq00
namespace Go.Proofs.YtcboekjnibppdaaGreatDoor
open Go Go.Rq Go.RowKit
set_option maxRecDepth 100000 in
theorem elgamalNone_j2 : (mapsRowed Tryz.prog) = true := by kernel_rfl
set_option maxRecDepth 100000 in
theorem elgamalNone_j9 : ((Rows.elgamalNoneRow.inPlace == Tryz.prog.inPlace 7)) = true := by kernel_rfl
set_option maxRecDepth 100000 in
theorem elgamalNone_j22 : ((Rows.elgamalNoneRow.plainKeys == Tryz.prog.plainKeys)) = true := by kernel_rfl
set_option maxRecDepth 100000 in
theorem elgamalNone_j27 : ((Tryz.prog.make == some Rows.elgamalNoneRow.make)) = true := by kernel_rfl
end Go.Proofs.YtcboekjnibppdaaGreatDoor
