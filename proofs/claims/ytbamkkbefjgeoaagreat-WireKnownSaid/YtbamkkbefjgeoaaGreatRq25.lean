/- Closed facts of a row. Written by a program of ours. -/
import Derived.Test.YtbamkkbefjgeoaaGreatRows
import Derived.JoinedOf
import Derived.OpenShut
import Derived.Stop.Joined
import Derived.Test.YtbamkkbefjgeoaaGreatRq00
namespace Go.Proofs.YtbamkkbefjgeoaaGreat
open Go Go.Rq Go.RowKit
set_option maxRecDepth 100000 in
theorem wireKnown_j2 : (mapsRowed Tryz.prog) = true := by kernel_rfl
set_option maxRecDepth 100000 in
theorem wireKnown_j9 : ((Rows.wireKnownRow.inPlace == Tryz.prog.inPlace 5)) = true := by kernel_rfl
set_option maxRecDepth 100000 in
theorem wireKnown_j22 : ((Rows.wireKnownRow.plainKeys == Tryz.prog.plainKeys)) = true := by kernel_rfl
set_option maxRecDepth 100000 in
theorem wireKnown_j27 : ((Tryz.prog.make == some Rows.wireKnownRow.make)) = true := by kernel_rfl
end Go.Proofs.YtbamkkbefjgeoaaGreat
