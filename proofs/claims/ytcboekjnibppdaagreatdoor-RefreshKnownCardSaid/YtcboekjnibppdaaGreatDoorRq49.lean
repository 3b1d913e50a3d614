/- Closed facts of a row, together. Written by a program of ours. -/
import Derived.Test.YtcboekjnibppdaaGreatDoorRq45
import Derived.Test.YtcboekjnibppdaaGreatDoorRq46
import Derived.Test.YtcboekjnibppdaaGreatDoorRq47
import Derived.Test.YtcboekjnibppdaaGreatDoorRq48
namespace Go.Proofs.YtcboekjnibppdaaGreatDoor
open Go Go.Rq Go.RowKit
theorem refreshKnown_and_tt {a b : Bool} (h : a = true) (k : b = true) : (a && b) = true := by rw [h, k]; rfl
set_option maxRecDepth 100000 in
theorem refreshKnown_joined : joinedFacts Tryz.prog 9 Tryz.f9 Rows.refreshKnownSpec Rows.refreshKnownRow = true := by
  unfold joinedFacts
  exact refreshKnown_and_tt (refreshKnown_and_tt (refreshKnown_and_tt (refreshKnown_and_tt (refreshKnown_and_tt (refreshKnown_and_tt (refreshKnown_and_tt (refreshKnown_and_tt (refreshKnown_and_tt (refreshKnown_and_tt (refreshKnown_and_tt (refreshKnown_and_tt (refreshKnown_and_tt (refreshKnown_and_tt (refreshKnown_and_tt (refreshKnown_and_tt (refreshKnown_and_tt (refreshKnown_and_tt (refreshKnown_and_tt (refreshKnown_and_tt (refreshKnown_and_tt (refreshKnown_and_tt (refreshKnown_and_tt (refreshKnown_and_tt (refreshKnown_and_tt (refreshKnown_and_tt (refreshKnown_and_tt (refreshKnown_and_tt (refreshKnown_and_tt (refreshKnown_and_tt (refreshKnown_and_tt refreshKnown_j0 refreshKnown_j1) refreshKnown_j2) refreshKnown_j3) refreshKnown_j4) refreshKnown_j5) refreshKnown_j6) refreshKnown_j7) refreshKnown_j8) refreshKnown_j9) refreshKnown_j10) refreshKnown_j11) refreshKnown_j12) refreshKnown_j13) refreshKnown_j14) refreshKnown_j15) refreshKnown_j16) refreshKnown_j17) refreshKnown_j18) refreshKnown_j19) refreshKnown_j20) refreshKnown_j21) refreshKnown_j22) refreshKnown_j23) refreshKnown_j24) refreshKnown_j25) refreshKnown_j26) refreshKnown_j27) refreshKnown_j28) refreshKnown_j29) refreshKnown_j30) refreshKnown_j31
end Go.Proofs.YtcboekjnibppdaaGreatDoor
