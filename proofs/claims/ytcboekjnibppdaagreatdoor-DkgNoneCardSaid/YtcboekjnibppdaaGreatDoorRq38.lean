/- Closed facts of a row, together. Written by a program of ours. -/
import Derived.Test.YtcboekjnibppdaaGreatDoorRq34
import Derived.Test.YtcboekjnibppdaaGreatDoorRq35
import Derived.Test.YtcboekjnibppdaaGreatDoorRq36
import Derived.Test.YtcboekjnibppdaaGreatDoorRq37
namespace Go.Proofs.YtcboekjnibppdaaGreatDoor
open Go Go.Rq Go.RowKit
theorem dkgNone_and_tt {a b : Bool} (h : a = true) (k : b = true) : (a && b) = true := by rw [h, k]; rfl
set_option maxRecDepth 100000 in
theorem dkgNone_joined : joinedFacts Tryz.prog 11 Tryz.f11 Rows.dkgNoneSpec Rows.dkgNoneRow = true := by
  unfold joinedFacts
  exact dkgNone_and_tt (dkgNone_and_tt (dkgNone_and_tt (dkgNone_and_tt (dkgNone_and_tt (dkgNone_and_tt (dkgNone_and_tt (dkgNone_and_tt (dkgNone_and_tt (dkgNone_and_tt (dkgNone_and_tt (dkgNone_and_tt (dkgNone_and_tt (dkgNone_and_tt (dkgNone_and_tt (dkgNone_and_tt (dkgNone_and_tt (dkgNone_and_tt (dkgNone_and_tt (dkgNone_and_tt (dkgNone_and_tt (dkgNone_and_tt (dkgNone_and_tt (dkgNone_and_tt (dkgNone_and_tt (dkgNone_and_tt (dkgNone_and_tt (dkgNone_and_tt (dkgNone_and_tt (dkgNone_and_tt (dkgNone_and_tt dkgNone_j0 dkgNone_j1) dkgNone_j2) dkgNone_j3) dkgNone_j4) dkgNone_j5) dkgNone_j6) dkgNone_j7) dkgNone_j8) dkgNone_j9) dkgNone_j10) dkgNone_j11) dkgNone_j12) dkgNone_j13) dkgNone_j14) dkgNone_j15) dkgNone_j16) dkgNone_j17) dkgNone_j18) dkgNone_j19) dkgNone_j20) dkgNone_j21) dkgNone_j22) dkgNone_j23) dkgNone_j24) dkgNone_j25) dkgNone_j26) dkgNone_j27) dkgNone_j28) dkgNone_j29) dkgNone_j30) dkgNone_j31
end Go.Proofs.YtcboekjnibppdaaGreatDoor
