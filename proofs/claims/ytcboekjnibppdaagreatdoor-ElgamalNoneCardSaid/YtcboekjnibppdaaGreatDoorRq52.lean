/- Closed facts of a row, together. Written by a program of ours. -/
import Derived.Test.YtcboekjnibppdaaGreatDoorRq48
import Derived.Test.YtcboekjnibppdaaGreatDoorRq49
import Derived.Test.YtcboekjnibppdaaGreatDoorRq50
import Derived.Test.YtcboekjnibppdaaGreatDoorRq51
namespace Go.Proofs.YtcboekjnibppdaaGreatDoor
open Go Go.Rq Go.RowKit
theorem elgamalNone_and_tt {a b : Bool} (h : a = true) (k : b = true) : (a && b) = true := by rw [h, k]; rfl
set_option maxRecDepth 100000 in
theorem elgamalNone_joined : joinedFacts Tryz.prog 7 Tryz.f7 Rows.elgamalNoneSpec Rows.elgamalNoneRow = true := by
  unfold joinedFacts
  exact elgamalNone_and_tt (elgamalNone_and_tt (elgamalNone_and_tt (elgamalNone_and_tt (elgamalNone_and_tt (elgamalNone_and_tt (elgamalNone_and_tt (elgamalNone_and_tt (elgamalNone_and_tt (elgamalNone_and_tt (elgamalNone_and_tt (elgamalNone_and_tt (elgamalNone_and_tt (elgamalNone_and_tt (elgamalNone_and_tt (elgamalNone_and_tt (elgamalNone_and_tt (elgamalNone_and_tt (elgamalNone_and_tt (elgamalNone_and_tt (elgamalNone_and_tt (elgamalNone_and_tt (elgamalNone_and_tt (elgamalNone_and_tt (elgamalNone_and_tt (elgamalNone_and_tt (elgamalNone_and_tt (elgamalNone_and_tt (elgamalNone_and_tt (elgamalNone_and_tt (elgamalNone_and_tt elgamalNone_j0 elgamalNone_j1) elgamalNone_j2) elgamalNone_j3) elgamalNone_j4) elgamalNone_j5) elgamalNone_j6) elgamalNone_j7) elgamalNone_j8) elgamalNone_j9) elgamalNone_j10) elgamalNone_j11) elgamalNone_j12) elgamalNone_j13) elgamalNone_j14) elgamalNone_j15) elgamalNone_j16) elgamalNone_j17) elgamalNone_j18) elgamalNone_j19) elgamalNone_j20) elgamalNone_j21) elgamalNone_j22) elgamalNone_j23) elgamalNone_j24) elgamalNone_j25) elgamalNone_j26) elgamalNone_j27) elgamalNone_j28) elgamalNone_j29) elgamalNone_j30) elgamalNone_j31
end Go.Proofs.YtcboekjnibppdaaGreatDoor
