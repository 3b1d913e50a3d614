/- Closed facts of a row, together. Written by a program of ours. -/
import Derived.Test.YtcboekjnibppdaaGreatDoorRq45
import Derived.Test.YtcboekjnibppdaaGreatDoorRq46
import Derived.Test.YtcboekjnibppdaaGreatDoorRq47
import Derived.Test.YtcboekjnibppdaaGreatDoorRq48
namespace Go.Proofs.YtcboekjnibppdaaGreatDoor
open Go Go.Rq Go.RowKit
theorem refreshNone_and_tt {a b : Bool} (h : a = true) (k : b = true) : (a && b) = true := by rw [h, k]; rfl
set_option maxRecDepth 100000 in
theorem refreshNone_joined : joinedFacts Tryz.prog 12 Tryz.f12 Rows.refreshNoneSpec Rows.refreshNoneRow = true := by
  unfold joinedFacts
  exact refreshNone_and_tt (refreshNone_and_tt (refreshNone_and_tt (refreshNone_and_tt (refreshNone_and_tt (refreshNone_and_tt (refreshNone_and_tt (refreshNone_and_tt (refreshNone_and_tt (refreshNone_and_tt (refreshNone_and_tt (refreshNone_and_tt (refreshNone_and_tt (refreshNone_and_tt (refreshNone_and_tt (refreshNone_and_tt (refreshNone_and_tt (refreshNone_and_tt (refreshNone_and_tt (refreshNone_and_tt (refreshNone_and_tt (refreshNone_and_tt (refreshNone_and_tt (refreshNone_and_tt (refreshNone_and_tt (refreshNone_and_tt (refreshNone_and_tt (refreshNone_and_tt (refreshNone_and_tt (refreshNone_and_tt (refreshNone_and_tt refreshNone_j0 refreshNone_j1) refreshNone_j2) refreshNone_j3) refreshNone_j4) refreshNone_j5) refreshNone_j6) refreshNone_j7) refreshNone_j8) refreshNone_j9) refreshNone_j10) refreshNone_j11) refreshNone_j12) refreshNone_j13) refreshNone_j14) refreshNone_j15) refreshNone_j16) refreshNone_j17) refreshNone_j18) refreshNone_j19) refreshNone_j20) refreshNone_j21) refreshNone_j22) refreshNone_j23) refreshNone_j24) refreshNone_j25) refreshNone_j26) refreshNone_j27) refreshNone_j28) refreshNone_j29) refreshNone_j30) refreshNone_j31
end Go.Proofs.YtcboekjnibppdaaGreatDoor
