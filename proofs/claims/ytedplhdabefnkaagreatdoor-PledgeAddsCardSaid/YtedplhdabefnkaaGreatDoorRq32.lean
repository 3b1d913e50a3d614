import Derived.Test.YtedplhdabefnkaaGreatDoorRows
import Derived.JoinedOf
import Derived.OpenShut
import Derived.Stop.Joined
import Derived.Test.YtedplhdabefnkaaGreatDoorRq00
namespace Go.Proofs.YtedplhdabefnkaaGreatDoor
open Go Go.Rq Go.RowKit
set_option maxRecDepth 100000 in
theorem pledgeAdds_j6:((Tryz.prog.stops == []))=true:=by kernel_rfl
set_option maxRecDepth 100000 in
theorem pledgeAdds_j11:((Rows.pledgeAddsRow.recurses == Tryz.prog.recurses 7))=true:=by kernel_rfl
set_option maxRecDepth 100000 in
theorem pledgeAdds_j25:(Tryz.prog.mayEnter)=true:=by kernel_rfl
set_option maxRecDepth 100000 in
theorem pledgeAdds_j0:(Rows.pledgeAddsRow.wf (OpenSpec.ofChange Rows.pledgeAddsSpec))=true:=by kernel_rfl
set_option maxRecDepth 100000 in
theorem pledgeAdds_j3:(Tryz.f7.params.all (Tryz.prog.readableRec ·))=true:=by kernel_rfl
set_option maxRecDepth 100000 in
theorem pledgeAdds_j4:(namedTie Tryz.prog Rows.pledgeAddsRow.named Rows.pledgeAddsSpec.vars)=true:=by kernel_rfl
set_option maxRecDepth 100000 in
theorem pledgeAdds_j7:((Rows.pledgeAddsRow.knobs == []))=true:=by kernel_rfl
set_option maxRecDepth 100000 in
theorem pledgeAdds_j13:((Rows.pledgeAddsRow.maps == (Tryz.f7.params.toList ++ Rows.pledgeAddsSpec.plain.varTypes Tryz.prog).any (Tryz.prog.mapsRec ·)))=true:=by kernel_rfl
set_option maxRecDepth 100000 in
theorem pledgeAdds_j14:((Rows.pledgeAddsRow.ifaces == (Tryz.f7.params.toList ++ Rows.pledgeAddsSpec.plain.varTypes Tryz.prog).any (Tryz.prog.ifacesRec ·)))=true:=by kernel_rfl
set_option maxRecDepth 100000 in
theorem pledgeAdds_j15:((Rows.pledgeAddsRow.mapsOut == Tryz.prog.mapsAmong Tryz.f7.resultTypes.toList))=true:=by kernel_rfl
set_option maxRecDepth 100000 in
theorem pledgeAdds_j16:((Rows.pledgeAddsRow.loops == (Tryz.f7.params.toList ++ Rows.pledgeAddsSpec.plain.varTypes Tryz.prog).any (Tryz.prog.loopsFrom ·)))=true:=by kernel_rfl
set_option maxRecDepth 100000 in
theorem pledgeAdds_j17:((Rows.pledgeAddsRow.wideKeys == (Tryz.f7.params.toList ++ Rows.pledgeAddsSpec.plain.varTypes Tryz.prog ++ Tryz.f7.resultTypes.toList).any (Tryz.prog.wideKeysFrom ·)))=true:=by kernel_rfl
set_option maxRecDepth 100000 in
theorem pledgeAdds_j18:(Rows.pledgeAddsSpec.vars.all (Tryz.prog.varReadable ·))=true:=by kernel_rfl
set_option maxRecDepth 100000 in
theorem pledgeAdds_j19:(Tryz.f7.resultTypes.all (fun t=>Tryz.prog.readableRec t && decide (t < Tryz.prog.types.size)))=true:=by kernel_rfl
set_option maxRecDepth 100000 in
theorem pledgeAdds_j20:((Rows.pledgeAddsRow.ifacesOut == Tryz.f7.resultTypes.toList.any (Tryz.prog.ifacesRec ·)))=true:=by kernel_rfl
set_option maxRecDepth 100000 in
theorem pledgeAdds_j21:((Rows.pledgeAddsRow.loopsOut == Tryz.f7.resultTypes.toList.any (Tryz.prog.loopsFrom ·)))=true:=by kernel_rfl
set_option maxRecDepth 100000 in
theorem pledgeAdds_j23:(Rows.pledgeAddsRow.shortTexts.isNone)=true:=by kernel_rfl
set_option maxRecDepth 100000 in
theorem pledgeAdds_j28:((Rows.pledgeAddsRow.kinds == (if Rows.pledgeAddsRow.domain.isEmpty then [] else Tryz.f7.params.toList.map fun t=>match Tryz.prog.underlying t with | some (.int k)=>some k | _=>none)))=true:=by kernel_rfl
set_option maxRecDepth 100000 in
theorem pledgeAdds_j29:((Rows.pledgeAddsRow.pinned == Rows.pledgeAddsRow.pinnedBy))=true:=by kernel_rfl
set_option maxRecDepth 100000 in
theorem pledgeAdds_j30:((Rows.pledgeAddsRow.veiled == (Tryz.f7.params.toList ++ Rows.pledgeAddsSpec.plain.varTypes Tryz.prog ++ Tryz.f7.resultTypes.toList).any (Tryz.prog.veiledRec ·)))=true:=by kernel_rfl
set_option maxRecDepth 100000 in
theorem pledgeAdds_j31:(Rows.pledgeAddsRow.veiledFits Tryz.prog Tryz.f7.params.toList (Tryz.f7.params.toList ++ Rows.pledgeAddsSpec.plain.varTypes Tryz.prog ++ Tryz.f7.resultTypes.toList))=true:=by kernel_rfl
end Go.Proofs.YtedplhdabefnkaaGreatDoor
