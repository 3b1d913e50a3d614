/- Closed facts of a row. Written by a program of ours. -/
import Derived.Test.YtbamkkbefjgeoaaGreatDoorRows
import Derived.JoinedOf
import Derived.OpenShut
import Derived.Stop.Joined
import Derived.Test.YtbamkkbefjgeoaaGreatDoorRq00
namespace Go.Proofs.YtbamkkbefjgeoaaGreatDoor
open Go Go.Rq Go.RowKit
set_option maxRecDepth 100000 in
theorem proofFeigned_j2 : (mapsRowed Tryz.prog) = true := by kernel_rfl
set_option maxRecDepth 100000 in
theorem proofFeigned_j9 : ((Rows.proofFeignedRow.inPlace == Tryz.prog.inPlace 4)) = true := by kernel_rfl
set_option maxRecDepth 100000 in
theorem proofFeigned_j22 : ((Rows.proofFeignedRow.plainKeys == Tryz.prog.plainKeys)) = true := by kernel_rfl
set_option maxRecDepth 100000 in
theorem proofFeigned_j27 : ((Tryz.prog.make == some Rows.proofFeignedRow.make)) = true := by kernel_rfl
end Go.Proofs.YtbamkkbefjgeoaaGreatDoor
