/- Closed facts of a row. Written by a program of ours. -/
import Derived.Test.YtbamkkbefjgeoaaGreatRows
import Derived.JoinedOf
import Derived.OpenShut
import Derived.Stop.Joined
import Derived.Test.YtbamkkbefjgeoaaGreatRq00
namespace Go.Proofs.YtbamkkbefjgeoaaGreat
open Go Go.Rq Go.RowKit
set_option maxRecDepth 100000 in
theorem wireKnown_j6 : ((Tryz.prog.stops == [])) = true := by kernel_rfl
set_option maxRecDepth 100000 in
theorem wireKnown_j11 : ((Rows.wireKnownRow.recurses == Tryz.prog.recurses 5)) = true := by kernel_rfl
set_option maxRecDepth 100000 in
theorem wireKnown_j25 : (Tryz.prog.mayEnter) = true := by kernel_rfl
set_option maxRecDepth 100000 in
theorem wireKnown_j0 : (Rows.wireKnownRow.wf (OpenSpec.ofChange Rows.wireKnownSpec)) = true := by kernel_rfl
set_option maxRecDepth 100000 in
theorem wireKnown_j3 : (Tryz.f5.params.all (Tryz.prog.readableRec ·)) = true := by kernel_rfl
set_option maxRecDepth 100000 in
theorem wireKnown_j4 : (namedTie Tryz.prog Rows.wireKnownRow.named Rows.wireKnownSpec.vars) = true := by kernel_rfl
set_option maxRecDepth 100000 in
theorem wireKnown_j7 : ((Rows.wireKnownRow.knobs == [])) = true := by kernel_rfl
set_option maxRecDepth 100000 in
theorem wireKnown_j13 : ((Rows.wireKnownRow.maps == (Tryz.f5.params.toList ++ Rows.wireKnownSpec.plain.varTypes Tryz.prog).any (Tryz.prog.mapsRec ·))) = true := by kernel_rfl
set_option maxRecDepth 100000 in
theorem wireKnown_j14 : ((Rows.wireKnownRow.ifaces == (Tryz.f5.params.toList ++ Rows.wireKnownSpec.plain.varTypes Tryz.prog).any (Tryz.prog.ifacesRec ·))) = true := by kernel_rfl
set_option maxRecDepth 100000 in
theorem wireKnown_j15 : ((Rows.wireKnownRow.mapsOut == Tryz.prog.mapsAmong Tryz.f5.resultTypes.toList)) = true := by kernel_rfl
set_option maxRecDepth 100000 in
theorem wireKnown_j16 : ((Rows.wireKnownRow.loops == (Tryz.f5.params.toList ++ Rows.wireKnownSpec.plain.varTypes Tryz.prog).any (Tryz.prog.loopsFrom ·))) = true := by kernel_rfl
set_option maxRecDepth 100000 in
theorem wireKnown_j17 : ((Rows.wireKnownRow.wideKeys == (Tryz.f5.params.toList ++ Rows.wireKnownSpec.plain.varTypes Tryz.prog ++ Tryz.f5.resultTypes.toList).any (Tryz.prog.wideKeysFrom ·))) = true := by kernel_rfl
set_option maxRecDepth 100000 in
theorem wireKnown_j18 : (Rows.wireKnownSpec.vars.all (Tryz.prog.varReadable ·)) = true := by kernel_rfl
set_option maxRecDepth 100000 in
theorem wireKnown_j19 : (Tryz.f5.resultTypes.all (fun t => Tryz.prog.readableRec t && decide (t < Tryz.prog.types.size))) = true := by kernel_rfl
set_option maxRecDepth 100000 in
theorem wireKnown_j20 : ((Rows.wireKnownRow.ifacesOut == Tryz.f5.resultTypes.toList.any (Tryz.prog.ifacesRec ·))) = true := by kernel_rfl
set_option maxRecDepth 100000 in
theorem wireKnown_j21 : ((Rows.wireKnownRow.loopsOut == Tryz.f5.resultTypes.toList.any (Tryz.prog.loopsFrom ·))) = true := by kernel_rfl
set_option maxRecDepth 100000 in
theorem wireKnown_j23 : (Rows.wireKnownRow.shortTexts.isNone) = true := by kernel_rfl
set_option maxRecDepth 100000 in
theorem wireKnown_j28 : ((Rows.wireKnownRow.kinds == (if Rows.wireKnownRow.domain.isEmpty then [] else Tryz.f5.params.toList.map fun t => match Tryz.prog.underlying t with | some (.int k) => some k | _ => none))) = true := by kernel_rfl
set_option maxRecDepth 100000 in
theorem wireKnown_j29 : ((Rows.wireKnownRow.pinned == Rows.wireKnownRow.pinnedBy)) = true := by kernel_rfl
set_option maxRecDepth 100000 in
theorem wireKnown_j30 : ((Rows.wireKnownRow.veiled == (Tryz.f5.params.toList ++ Rows.wireKnownSpec.plain.varTypes Tryz.prog ++ Tryz.f5.resultTypes.toList).any (Tryz.prog.veiledRec ·))) = true := by kernel_rfl
set_option maxRecDepth 100000 in
theorem wireKnown_j31 : (Rows.wireKnownRow.veiledFits Tryz.prog Tryz.f5.params.toList (Tryz.f5.params.toList ++ Rows.wireKnownSpec.plain.varTypes Tryz.prog ++ Tryz.f5.resultTypes.toList)) = true := by kernel_rfl
end Go.Proofs.YtbamkkbefjgeoaaGreat
