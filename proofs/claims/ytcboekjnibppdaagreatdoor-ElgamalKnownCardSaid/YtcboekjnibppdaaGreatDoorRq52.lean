/- Closed facts of a row, together. Written by a program of ours. -/
import Derived.Test.YtcboekjnibppdaaGreatDoorRq48
import Derived.Test.YtcboekjnibppdaaGreatDoorRq49
import Derived.Test.YtcboekjnibppdaaGreatDoorRq50
import Derived.Test.YtcboekjnibppdaaGreatDoorRq51
namespace Go.Proofs.YtcboekjnibppdaaGreatDoor
open Go Go.Rq Go.RowKit
theorem elgamalKnown_and_tt {a b : Bool} (h : a = true) (k : b = true) : (a && b) = true := by rw [h, k]; rfl
set_option maxRecDepth 100000 in
theorem elgamalKnown_joined : joinedFacts Tryz.prog 8 Tryz.f8 Rows.elgamalKnownSpec Rows.elgamalKnownRow = true := by
  unfold joinedFacts
  exact elgamalKnown_and_tt (elgamalKnown_and_tt (elgamalKnown_and_tt (elgamalKnown_and_tt (elgamalKnown_and_tt (elgamalKnown_and_tt (elgamalKnown_and_tt (elgamalKnown_and_tt (elgamalKnown_and_tt (elgamalKnown_and_tt (elgamalKnown_and_tt (elgamalKnown_and_tt (elgamalKnown_and_tt (elgamalKnown_and_tt (elgamalKnown_and_tt (elgamalKnown_and_tt (elgamalKnown_and_tt (elgamalKnown_and_tt (elgamalKnown_and_tt (elgamalKnown_and_tt (elgamalKnown_and_tt (elgamalKnown_and_tt (elgamalKnown_and_tt (elgamalKnown_and_tt (elgamalKnown_and_tt (elgamalKnown_and_tt (elgamalKnown_and_tt (elgamalKnown_and_tt (elgamalKnown_and_tt (elgamalKnown_and_tt (elgamalKnown_and_tt elgamalKnown_j0 elgamalKnown_j1) elgamalKnown_j2) elgamalKnown_j3) elgamalKnown_j4) elgamalKnown_j5) elgamalKnown_j6) elgamalKnown_j7) elgamalKnown_j8) elgamalKnown_j9) elgamalKnown_j10) elgamalKnown_j11) elgamalKnown_j12) elgamalKnown_j13) elgamalKnown_j14) elgamalKnown_j15) elgamalKnown_j16) elgamalKnown_j17) elgamalKnown_j18) elgamalKnown_j19) elgamalKnown_j20) elgamalKnown_j21) elgamalKnown_j22) elgamalKnown_j23) elgamalKnown_j24) elgamalKnown_j25) elgamalKnown_j26) elgamalKnown_j27) elgamalKnown_j28) elgamalKnown_j29) elgamalKnown_j30) elgamalKnown_j31
end Go.Proofs.YtcboekjnibppdaaGreatDoor
