import Derived.Test.YtbamkkbefjgeoaaGreatRows
import Derived.JoinedOf
import Derived.OpenShut
import Derived.Stop.Joined
import Derived.Test.YtbamkkbefjgeoaaGreatRq00
namespace Go.Proofs.YtbamkkbefjgeoaaGreat
open Go Go.Rq Go.RowKit
set_option maxRecDepth 100000 in
theorem proofFits_j2 : (mapsRowed Tryz.prog) = true := by kernel_rfl
set_option maxRecDepth 100000 in
theorem proofFits_j9 : ((Rows.proofFitsRow.inPlace == Tryz.prog.inPlace 4)) = true := by kernel_rfl
set_option maxRecDepth 100000 in
theorem proofFits_j22 : ((Rows.proofFitsRow.plainKeys == Tryz.prog.plainKeys)) = true := by kernel_rfl
set_option maxRecDepth 100000 in
theorem proofFits_j27 : ((Tryz.prog.make == some Rows.proofFitsRow.make)) = true := by kernel_rfl
end Go.Proofs.YtbamkkbefjgeoaaGreat
