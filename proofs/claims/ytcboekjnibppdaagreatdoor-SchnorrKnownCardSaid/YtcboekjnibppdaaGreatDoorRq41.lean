/- Closed facts of a row, together. Written by a program of ours. -/
import Derived.Test.YtcboekjnibppdaaGreatDoorRq37
import Derived.Test.YtcboekjnibppdaaGreatDoorRq38
import Derived.Test.YtcboekjnibppdaaGreatDoorRq39
import Derived.Test.YtcboekjnibppdaaGreatDoorRq40
namespace Go.Proofs.YtcboekjnibppdaaGreatDoor
open Go Go.Rq Go.RowKit
theorem schnorrKnown_and_tt {a b : Bool} (h : a = true) (k : b = true) : (a && b) = true := by rw [h, k]; rfl
set_option maxRecDepth 100000 in
theorem schnorrKnown_joined : joinedFacts Tryz.prog 6 Tryz.f6 Rows.schnorrKnownSpec Rows.schnorrKnownRow = true := by
  unfold joinedFacts
  exact schnorrKnown_and_tt (schnorrKnown_and_tt (schnorrKnown_and_tt (schnorrKnown_and_tt (schnorrKnown_and_tt (schnorrKnown_and_tt (schnorrKnown_and_tt (schnorrKnown_and_tt (schnorrKnown_and_tt (schnorrKnown_and_tt (schnorrKnown_and_tt (schnorrKnown_and_tt (schnorrKnown_and_tt (schnorrKnown_and_tt (schnorrKnown_and_tt (schnorrKnown_and_tt (schnorrKnown_and_tt (schnorrKnown_and_tt (schnorrKnown_and_tt (schnorrKnown_and_tt (schnorrKnown_and_tt (schnorrKnown_and_tt (schnorrKnown_and_tt (schnorrKnown_and_tt (schnorrKnown_and_tt (schnorrKnown_and_tt (schnorrKnown_and_tt (schnorrKnown_and_tt (schnorrKnown_and_tt (schnorrKnown_and_tt (schnorrKnown_and_tt schnorrKnown_j0 schnorrKnown_j1) schnorrKnown_j2) schnorrKnown_j3) schnorrKnown_j4) schnorrKnown_j5) schnorrKnown_j6) schnorrKnown_j7) schnorrKnown_j8) schnorrKnown_j9) schnorrKnown_j10) schnorrKnown_j11) schnorrKnown_j12) schnorrKnown_j13) schnorrKnown_j14) schnorrKnown_j15) schnorrKnown_j16) schnorrKnown_j17) schnorrKnown_j18) schnorrKnown_j19) schnorrKnown_j20) schnorrKnown_j21) schnorrKnown_j22) schnorrKnown_j23) schnorrKnown_j24) schnorrKnown_j25) schnorrKnown_j26) schnorrKnown_j27) schnorrKnown_j28) schnorrKnown_j29) schnorrKnown_j30) schnorrKnown_j31
end Go.Proofs.YtcboekjnibppdaaGreatDoor
