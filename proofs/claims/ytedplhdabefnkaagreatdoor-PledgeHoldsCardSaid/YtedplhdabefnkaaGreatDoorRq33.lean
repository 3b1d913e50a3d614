import Derived.Test.YtedplhdabefnkaaGreatDoorRq29
import Derived.Test.YtedplhdabefnkaaGreatDoorRq30
import Derived.Test.YtedplhdabefnkaaGreatDoorRq31
import Derived.Test.YtedplhdabefnkaaGreatDoorRq32
import Derived.Test.YtedplhdabefnkaaGreatDoorRq11
import Derived.Test.YtedplhdabefnkaaGreatDoorRq09
namespace Go.Proofs.YtedplhdabefnkaaGreatDoor
open Go Go.Rq Go.RowKit
theorem pledgeHolds_and_tt {a b:Bool} (h:a=true) (k:b=true):(a && b)=true:=by rw [h,k];rfl
set_option maxRecDepth 100000 in
theorem pledgeHolds_joined:joinedFacts Tryz.prog 6 Tryz.f6 Rows.pledgeHoldsSpec Rows.pledgeHoldsRow=true:=by
 unfold joinedFacts
 exact pledgeHolds_and_tt (pledgeHolds_and_tt (pledgeHolds_and_tt (pledgeHolds_and_tt (pledgeHolds_and_tt (pledgeHolds_and_tt (pledgeHolds_and_tt (pledgeHolds_and_tt (pledgeHolds_and_tt (pledgeHolds_and_tt (pledgeHolds_and_tt (pledgeHolds_and_tt (pledgeHolds_and_tt (pledgeHolds_and_tt (pledgeHolds_and_tt (pledgeHolds_and_tt (pledgeHolds_and_tt (pledgeHolds_and_tt (pledgeHolds_and_tt (pledgeHolds_and_tt (pledgeHolds_and_tt (pledgeHolds_and_tt (pledgeHolds_and_tt (pledgeHolds_and_tt (pledgeHolds_and_tt (pledgeHolds_and_tt (pledgeHolds_and_tt (pledgeHolds_and_tt (pledgeHolds_and_tt (pledgeHolds_and_tt (pledgeHolds_and_tt pledgeHolds_j0 pledgeHolds_j1) pledgeHolds_j2) pledgeHolds_j3) pledgeHolds_j4) pledgeHolds_j5) pledgeHolds_j6) pledgeHolds_j7) pledgeHolds_j8) pledgeHolds_j9) pledgeHolds_j10) pledgeHolds_j11) pledgeHolds_j12) pledgeHolds_j13) pledgeHolds_j14) pledgeHolds_j15) pledgeHolds_j16) pledgeHolds_j17) pledgeHolds_j18) pledgeHolds_j19) pledgeHolds_j20) pledgeHolds_j21) pledgeHolds_j22) pledgeHolds_j23) pledgeHolds_j24) pledgeHolds_j25) pledgeHolds_j26) pledgeHolds_j27) pledgeHolds_j28) pledgeHolds_j29) pledgeHolds_j30) pledgeHolds_j31
end Go.Proofs.YtedplhdabefnkaaGreatDoor

namespace Go.Rq.Sm
open Go Go.Proofs Go.Rq Go.RowKit
section
variable {H:Type} {enc:TypeId × Value->H} {w:World} {base:Nat} {spare:Nat->Bool} {held:Bool}
theorem tell_num:Tells enc PR w base spare held 38 c6:=tells_num Tryz.underlying38 Tryz.underlying36 (by kernel_rfl) (by kernel_rfl)
end
end Go.Rq.Sm
