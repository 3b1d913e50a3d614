import Derived.Test.YtedplhdabefnkaaGreatDoorRq29
import Derived.Test.YtedplhdabefnkaaGreatDoorRq30
import Derived.Test.YtedplhdabefnkaaGreatDoorRq31
import Derived.Test.YtedplhdabefnkaaGreatDoorRq32
namespace Go.Proofs.YtedplhdabefnkaaGreatDoor
open Go Go.Rq Go.RowKit
theorem pledgeBinds_and_tt {a b : Bool} (h : a = true) (k : b = true) : (a && b) = true := by rw [h, k]; rfl
set_option maxRecDepth 100000 in
theorem pledgeBinds_joined : joinedFacts Tryz.prog 5 Tryz.f5 Rows.pledgeBindsSpec Rows.pledgeBindsRow = true := by
 unfold joinedFacts
 exact pledgeBinds_and_tt (pledgeBinds_and_tt (pledgeBinds_and_tt (pledgeBinds_and_tt (pledgeBinds_and_tt (pledgeBinds_and_tt (pledgeBinds_and_tt (pledgeBinds_and_tt (pledgeBinds_and_tt (pledgeBinds_and_tt (pledgeBinds_and_tt (pledgeBinds_and_tt (pledgeBinds_and_tt (pledgeBinds_and_tt (pledgeBinds_and_tt (pledgeBinds_and_tt (pledgeBinds_and_tt (pledgeBinds_and_tt (pledgeBinds_and_tt (pledgeBinds_and_tt (pledgeBinds_and_tt (pledgeBinds_and_tt (pledgeBinds_and_tt (pledgeBinds_and_tt (pledgeBinds_and_tt (pledgeBinds_and_tt (pledgeBinds_and_tt (pledgeBinds_and_tt (pledgeBinds_and_tt (pledgeBinds_and_tt (pledgeBinds_and_tt pledgeBinds_j0 pledgeBinds_j1) pledgeBinds_j2) pledgeBinds_j3) pledgeBinds_j4) pledgeBinds_j5) pledgeBinds_j6) pledgeBinds_j7) pledgeBinds_j8) pledgeBinds_j9) pledgeBinds_j10) pledgeBinds_j11) pledgeBinds_j12) pledgeBinds_j13) pledgeBinds_j14) pledgeBinds_j15) pledgeBinds_j16) pledgeBinds_j17) pledgeBinds_j18) pledgeBinds_j19) pledgeBinds_j20) pledgeBinds_j21) pledgeBinds_j22) pledgeBinds_j23) pledgeBinds_j24) pledgeBinds_j25) pledgeBinds_j26) pledgeBinds_j27) pledgeBinds_j28) pledgeBinds_j29) pledgeBinds_j30) pledgeBinds_j31
end Go.Proofs.YtedplhdabefnkaaGreatDoor
