/- Closed facts of a row, together. Written by a program of ours. -/
import Derived.Test.YtcboekjnibppdaaGreatDoorRq40
import Derived.Test.YtcboekjnibppdaaGreatDoorRq41
import Derived.Test.YtcboekjnibppdaaGreatDoorRq42
import Derived.Test.YtcboekjnibppdaaGreatDoorRq43
namespace Go.Proofs.YtcboekjnibppdaaGreatDoor
open Go Go.Rq Go.RowKit
theorem pledgeKnown_and_tt {a b : Bool} (h : a = true) (k : b = true) : (a && b) = true := by rw [h, k]; rfl
set_option maxRecDepth 100000 in
theorem pledgeKnown_joined : joinedFacts Tryz.prog 3 Tryz.f3 Rows.pledgeKnownSpec Rows.pledgeKnownRow = true := by
  unfold joinedFacts
  exact pledgeKnown_and_tt (pledgeKnown_and_tt (pledgeKnown_and_tt (pledgeKnown_and_tt (pledgeKnown_and_tt (pledgeKnown_and_tt (pledgeKnown_and_tt (pledgeKnown_and_tt (pledgeKnown_and_tt (pledgeKnown_and_tt (pledgeKnown_and_tt (pledgeKnown_and_tt (pledgeKnown_and_tt (pledgeKnown_and_tt (pledgeKnown_and_tt (pledgeKnown_and_tt (pledgeKnown_and_tt (pledgeKnown_and_tt (pledgeKnown_and_tt (pledgeKnown_and_tt (pledgeKnown_and_tt (pledgeKnown_and_tt (pledgeKnown_and_tt (pledgeKnown_and_tt (pledgeKnown_and_tt (pledgeKnown_and_tt (pledgeKnown_and_tt (pledgeKnown_and_tt (pledgeKnown_and_tt (pledgeKnown_and_tt (pledgeKnown_and_tt pledgeKnown_j0 pledgeKnown_j1) pledgeKnown_j2) pledgeKnown_j3) pledgeKnown_j4) pledgeKnown_j5) pledgeKnown_j6) pledgeKnown_j7) pledgeKnown_j8) pledgeKnown_j9) pledgeKnown_j10) pledgeKnown_j11) pledgeKnown_j12) pledgeKnown_j13) pledgeKnown_j14) pledgeKnown_j15) pledgeKnown_j16) pledgeKnown_j17) pledgeKnown_j18) pledgeKnown_j19) pledgeKnown_j20) pledgeKnown_j21) pledgeKnown_j22) pledgeKnown_j23) pledgeKnown_j24) pledgeKnown_j25) pledgeKnown_j26) pledgeKnown_j27) pledgeKnown_j28) pledgeKnown_j29) pledgeKnown_j30) pledgeKnown_j31
end Go.Proofs.YtcboekjnibppdaaGreatDoor
