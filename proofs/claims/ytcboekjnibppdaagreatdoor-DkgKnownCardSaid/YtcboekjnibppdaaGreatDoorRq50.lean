/- Closed facts of a row, together. Written by a program of ours. -/
import Derived.Test.YtcboekjnibppdaaGreatDoorRq46
import Derived.Test.YtcboekjnibppdaaGreatDoorRq47
import Derived.Test.YtcboekjnibppdaaGreatDoorRq48
import Derived.Test.YtcboekjnibppdaaGreatDoorRq49
namespace Go.Proofs.YtcboekjnibppdaaGreatDoor
open Go Go.Rq Go.RowKit
theorem dkgKnown_and_tt {a b : Bool} (h : a = true) (k : b = true) : (a && b) = true := by rw [h, k]; rfl
set_option maxRecDepth 100000 in
theorem dkgKnown_joined : joinedFacts Tryz.prog 10 Tryz.f10 Rows.dkgKnownSpec Rows.dkgKnownRow = true := by
  unfold joinedFacts
  exact dkgKnown_and_tt (dkgKnown_and_tt (dkgKnown_and_tt (dkgKnown_and_tt (dkgKnown_and_tt (dkgKnown_and_tt (dkgKnown_and_tt (dkgKnown_and_tt (dkgKnown_and_tt (dkgKnown_and_tt (dkgKnown_and_tt (dkgKnown_and_tt (dkgKnown_and_tt (dkgKnown_and_tt (dkgKnown_and_tt (dkgKnown_and_tt (dkgKnown_and_tt (dkgKnown_and_tt (dkgKnown_and_tt (dkgKnown_and_tt (dkgKnown_and_tt (dkgKnown_and_tt (dkgKnown_and_tt (dkgKnown_and_tt (dkgKnown_and_tt (dkgKnown_and_tt (dkgKnown_and_tt (dkgKnown_and_tt (dkgKnown_and_tt (dkgKnown_and_tt (dkgKnown_and_tt dkgKnown_j0 dkgKnown_j1) dkgKnown_j2) dkgKnown_j3) dkgKnown_j4) dkgKnown_j5) dkgKnown_j6) dkgKnown_j7) dkgKnown_j8) dkgKnown_j9) dkgKnown_j10) dkgKnown_j11) dkgKnown_j12) dkgKnown_j13) dkgKnown_j14) dkgKnown_j15) dkgKnown_j16) dkgKnown_j17) dkgKnown_j18) dkgKnown_j19) dkgKnown_j20) dkgKnown_j21) dkgKnown_j22) dkgKnown_j23) dkgKnown_j24) dkgKnown_j25) dkgKnown_j26) dkgKnown_j27) dkgKnown_j28) dkgKnown_j29) dkgKnown_j30) dkgKnown_j31
end Go.Proofs.YtcboekjnibppdaaGreatDoor
