/- Closed facts of a row. Written by a program of ours. -/
import Derived.Test.YtcboekjnibppdaaGreatDoorRows
import Derived.JoinedOf
import Derived.OpenShut
import Derived.Stop.Joined
import Derived.Test.YtcboekjnibppdaaGreatDoorRq00
namespace Go.Proofs.YtcboekjnibppdaaGreatDoor
open Go Go.Rq Go.RowKit
set_option maxRecDepth 100000 in
theorem elgamalKnown_j2 : (mapsRowed Tryz.prog) = true := by kernel_rfl
set_option maxRecDepth 100000 in
theorem elgamalKnown_j9 : ((Rows.elgamalKnownRow.inPlace == Tryz.prog.inPlace 8)) = true := by kernel_rfl
set_option maxRecDepth 100000 in
theorem elgamalKnown_j22 : ((Rows.elgamalKnownRow.plainKeys == Tryz.prog.plainKeys)) = true := by kernel_rfl
set_option maxRecDepth 100000 in
theorem elgamalKnown_j27 : ((Tryz.prog.make == some Rows.elgamalKnownRow.make)) = true := by kernel_rfl
end Go.Proofs.YtcboekjnibppdaaGreatDoor
