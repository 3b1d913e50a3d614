import Derived.Test.YtedplhdabefnkaaGreatDoorRows
import Derived.JoinedOf
import Derived.OpenShut
import Derived.Stop.Joined
import Derived.Test.YtedplhdabefnkaaGreatDoorRq00
namespace Go.Proofs.YtedplhdabefnkaaGreatDoor
open Go Go.Rq Go.RowKit
set_option maxRecDepth 100000 in
theorem pledgeHolds_j6:((Tryz.prog.stops == []))=true:=by kernel_rfl
set_option maxRecDepth 100000 in
theorem pledgeHolds_j11:((Rows.pledgeHoldsRow.recurses == Tryz.prog.recurses 6))=true:=by kernel_rfl
set_option maxRecDepth 100000 in
theorem pledgeHolds_j25:(Tryz.prog.mayEnter)=true:=by kernel_rfl
set_option maxRecDepth 100000 in
theorem pledgeHolds_j0:(Rows.pledgeHoldsRow.wf (OpenSpec.ofChange Rows.pledgeHoldsSpec))=true:=by kernel_rfl
set_option maxRecDepth 100000 in
theorem pledgeHolds_j3:(Tryz.f6.params.all (Tryz.prog.readableRec ·))=true:=by kernel_rfl
set_option maxRecDepth 100000 in
theorem pledgeHolds_j4:(namedTie Tryz.prog Rows.pledgeHoldsRow.named Rows.pledgeHoldsSpec.vars)=true:=by kernel_rfl
set_option maxRecDepth 100000 in
theorem pledgeHolds_j7:((Rows.pledgeHoldsRow.knobs == []))=true:=by kernel_rfl
set_option maxRecDepth 100000 in
theorem pledgeHolds_j13:((Rows.pledgeHoldsRow.maps == (Tryz.f6.params.toList ++ Rows.pledgeHoldsSpec.plain.varTypes Tryz.prog).any (Tryz.prog.mapsRec ·)))=true:=by kernel_rfl
set_option maxRecDepth 100000 in
theorem pledgeHolds_j14:((Rows.pledgeHoldsRow.ifaces == (Tryz.f6.params.toList ++ Rows.pledgeHoldsSpec.plain.varTypes Tryz.prog).any (Tryz.prog.ifacesRec ·)))=true:=by kernel_rfl
set_option maxRecDepth 100000 in
theorem pledgeHolds_j15:((Rows.pledgeHoldsRow.mapsOut == Tryz.prog.mapsAmong Tryz.f6.resultTypes.toList))=true:=by kernel_rfl
set_option maxRecDepth 100000 in
theorem pledgeHolds_j16:((Rows.pledgeHoldsRow.loops == (Tryz.f6.params.toList ++ Rows.pledgeHoldsSpec.plain.varTypes Tryz.prog).any (Tryz.prog.loopsFrom ·)))=true:=by kernel_rfl
set_option maxRecDepth 100000 in
theorem pledgeHolds_j17:((Rows.pledgeHoldsRow.wideKeys == (Tryz.f6.params.toList ++ Rows.pledgeHoldsSpec.plain.varTypes Tryz.prog ++ Tryz.f6.resultTypes.toList).any (Tryz.prog.wideKeysFrom ·)))=true:=by kernel_rfl
set_option maxRecDepth 100000 in
theorem pledgeHolds_j18:(Rows.pledgeHoldsSpec.vars.all (Tryz.prog.varReadable ·))=true:=by kernel_rfl
set_option maxRecDepth 100000 in
theorem pledgeHolds_j19:(Tryz.f6.resultTypes.all (fun t=>Tryz.prog.readableRec t && decide (t < Tryz.prog.types.size)))=true:=by kernel_rfl
set_option maxRecDepth 100000 in
theorem pledgeHolds_j20:((Rows.pledgeHoldsRow.ifacesOut == Tryz.f6.resultTypes.toList.any (Tryz.prog.ifacesRec ·)))=true:=by kernel_rfl
set_option maxRecDepth 100000 in
theorem pledgeHolds_j21:((Rows.pledgeHoldsRow.loopsOut == Tryz.f6.resultTypes.toList.any (Tryz.prog.loopsFrom ·)))=true:=by kernel_rfl
set_option maxRecDepth 100000 in
theorem pledgeHolds_j23:(Rows.pledgeHoldsRow.shortTexts.isNone)=true:=by kernel_rfl
set_option maxRecDepth 100000 in
theorem pledgeHolds_j28:((Rows.pledgeHoldsRow.kinds == (if Rows.pledgeHoldsRow.domain.isEmpty then [] else Tryz.f6.params.toList.map fun t=>match Tryz.prog.underlying t with | some (.int k)=>some k | _=>none)))=true:=by kernel_rfl
set_option maxRecDepth 100000 in
theorem pledgeHolds_j29:((Rows.pledgeHoldsRow.pinned == Rows.pledgeHoldsRow.pinnedBy))=true:=by kernel_rfl
set_option maxRecDepth 100000 in
theorem pledgeHolds_j30:((Rows.pledgeHoldsRow.veiled == (Tryz.f6.params.toList ++ Rows.pledgeHoldsSpec.plain.varTypes Tryz.prog ++ Tryz.f6.resultTypes.toList).any (Tryz.prog.veiledRec ·)))=true:=by kernel_rfl
set_option maxRecDepth 100000 in
theorem pledgeHolds_j31:(Rows.pledgeHoldsRow.veiledFits Tryz.prog Tryz.f6.params.toList (Tryz.f6.params.toList ++ Rows.pledgeHoldsSpec.plain.varTypes Tryz.prog ++ Tryz.f6.resultTypes.toList))=true:=by kernel_rfl
end Go.Proofs.YtedplhdabefnkaaGreatDoor
