import Derived.Test.YtedplhdabefnkaaGreatDoorRq29
import Derived.Test.YtedplhdabefnkaaGreatDoorRq30
import Derived.Test.YtedplhdabefnkaaGreatDoorRq31
import Derived.Test.YtedplhdabefnkaaGreatDoorRq32
import Derived.Test.YtedplhdabefnkaaGreatDoorRq11
import Derived.Test.YtedplhdabefnkaaGreatDoorRq09
namespace Go.Proofs.YtedplhdabefnkaaGreatDoor
open Go Go.Rq Go.RowKit
theorem pledgeAdds_and_tt {a b:Bool} (h:a=true) (k:b=true):(a && b)=true:=by rw [h,k];rfl
set_option maxRecDepth 100000 in
theorem pledgeAdds_joined:joinedFacts Tryz.prog 7 Tryz.f7 Rows.pledgeAddsSpec Rows.pledgeAddsRow=true:=by
 unfold joinedFacts
 exact pledgeAdds_and_tt (pledgeAdds_and_tt (pledgeAdds_and_tt (pledgeAdds_and_tt (pledgeAdds_and_tt (pledgeAdds_and_tt (pledgeAdds_and_tt (pledgeAdds_and_tt (pledgeAdds_and_tt (pledgeAdds_and_tt (pledgeAdds_and_tt (pledgeAdds_and_tt (pledgeAdds_and_tt (pledgeAdds_and_tt (pledgeAdds_and_tt (pledgeAdds_and_tt (pledgeAdds_and_tt (pledgeAdds_and_tt (pledgeAdds_and_tt (pledgeAdds_and_tt (pledgeAdds_and_tt (pledgeAdds_and_tt (pledgeAdds_and_tt (pledgeAdds_and_tt (pledgeAdds_and_tt (pledgeAdds_and_tt (pledgeAdds_and_tt (pledgeAdds_and_tt (pledgeAdds_and_tt (pledgeAdds_and_tt (pledgeAdds_and_tt pledgeAdds_j0 pledgeAdds_j1) pledgeAdds_j2) pledgeAdds_j3) pledgeAdds_j4) pledgeAdds_j5) pledgeAdds_j6) pledgeAdds_j7) pledgeAdds_j8) pledgeAdds_j9) pledgeAdds_j10) pledgeAdds_j11) pledgeAdds_j12) pledgeAdds_j13) pledgeAdds_j14) pledgeAdds_j15) pledgeAdds_j16) pledgeAdds_j17) pledgeAdds_j18) pledgeAdds_j19) pledgeAdds_j20) pledgeAdds_j21) pledgeAdds_j22) pledgeAdds_j23) pledgeAdds_j24) pledgeAdds_j25) pledgeAdds_j26) pledgeAdds_j27) pledgeAdds_j28) pledgeAdds_j29) pledgeAdds_j30) pledgeAdds_j31
end Go.Proofs.YtedplhdabefnkaaGreatDoor

namespace Go.Rq.Sm
open Go Go.Proofs Go.Rq Go.RowKit
section
variable {H:Type} {enc:TypeId × Value->H} {w:World} {base:Nat} {spare:Nat->Bool} {held:Bool}
theorem tell_num:Tells enc PR w base spare held 38 c6:=tells_num Tryz.underlying38 Tryz.underlying36 (by kernel_rfl) (by kernel_rfl)
end
end Go.Rq.Sm
