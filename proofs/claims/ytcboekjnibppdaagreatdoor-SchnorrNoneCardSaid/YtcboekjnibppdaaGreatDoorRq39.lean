/- Closed facts of a row, together. Written by a program of ours. -/
import Derived.Test.YtcboekjnibppdaaGreatDoorRq35
import Derived.Test.YtcboekjnibppdaaGreatDoorRq36
import Derived.Test.YtcboekjnibppdaaGreatDoorRq37
import Derived.Test.YtcboekjnibppdaaGreatDoorRq38
namespace Go.Proofs.YtcboekjnibppdaaGreatDoor
open Go Go.Rq Go.RowKit
theorem schnorrNone_and_tt {a b : Bool} (h : a = true) (k : b = true) : (a && b) = true := by rw [h, k]; rfl
set_option maxRecDepth 100000 in
theorem schnorrNone_joined : joinedFacts Tryz.prog 5 Tryz.f5 Rows.schnorrNoneSpec Rows.schnorrNoneRow = true := by
  unfold joinedFacts
  exact schnorrNone_and_tt (schnorrNone_and_tt (schnorrNone_and_tt (schnorrNone_and_tt (schnorrNone_and_tt (schnorrNone_and_tt (schnorrNone_and_tt (schnorrNone_and_tt (schnorrNone_and_tt (schnorrNone_and_tt (schnorrNone_and_tt (schnorrNone_and_tt (schnorrNone_and_tt (schnorrNone_and_tt (schnorrNone_and_tt (schnorrNone_and_tt (schnorrNone_and_tt (schnorrNone_and_tt (schnorrNone_and_tt (schnorrNone_and_tt (schnorrNone_and_tt (schnorrNone_and_tt (schnorrNone_and_tt (schnorrNone_and_tt (schnorrNone_and_tt (schnorrNone_and_tt (schnorrNone_and_tt (schnorrNone_and_tt (schnorrNone_and_tt (schnorrNone_and_tt (schnorrNone_and_tt schnorrNone_j0 schnorrNone_j1) schnorrNone_j2) schnorrNone_j3) schnorrNone_j4) schnorrNone_j5) schnorrNone_j6) schnorrNone_j7) schnorrNone_j8) schnorrNone_j9) schnorrNone_j10) schnorrNone_j11) schnorrNone_j12) schnorrNone_j13) schnorrNone_j14) schnorrNone_j15) schnorrNone_j16) schnorrNone_j17) schnorrNone_j18) schnorrNone_j19) schnorrNone_j20) schnorrNone_j21) schnorrNone_j22) schnorrNone_j23) schnorrNone_j24) schnorrNone_j25) schnorrNone_j26) schnorrNone_j27) schnorrNone_j28) schnorrNone_j29) schnorrNone_j30) schnorrNone_j31
end Go.Proofs.YtcboekjnibppdaaGreatDoor
