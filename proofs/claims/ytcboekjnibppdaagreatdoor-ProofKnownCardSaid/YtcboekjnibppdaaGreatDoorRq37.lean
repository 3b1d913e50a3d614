/- Closed facts of a row, together. Written by a program of ours. -/
import Derived.Test.YtcboekjnibppdaaGreatDoorRq33
import Derived.Test.YtcboekjnibppdaaGreatDoorRq34
import Derived.Test.YtcboekjnibppdaaGreatDoorRq35
import Derived.Test.YtcboekjnibppdaaGreatDoorRq36
namespace Go.Proofs.YtcboekjnibppdaaGreatDoor
open Go Go.Rq Go.RowKit
theorem proofKnown_and_tt {a b : Bool} (h : a = true) (k : b = true) : (a && b) = true := by rw [h, k]; rfl
set_option maxRecDepth 100000 in
theorem proofKnown_joined : joinedFacts Tryz.prog 4 Tryz.f4 Rows.proofKnownSpec Rows.proofKnownRow = true := by
  unfold joinedFacts
  exact proofKnown_and_tt (proofKnown_and_tt (proofKnown_and_tt (proofKnown_and_tt (proofKnown_and_tt (proofKnown_and_tt (proofKnown_and_tt (proofKnown_and_tt (proofKnown_and_tt (proofKnown_and_tt (proofKnown_and_tt (proofKnown_and_tt (proofKnown_and_tt (proofKnown_and_tt (proofKnown_and_tt (proofKnown_and_tt (proofKnown_and_tt (proofKnown_and_tt (proofKnown_and_tt (proofKnown_and_tt (proofKnown_and_tt (proofKnown_and_tt (proofKnown_and_tt (proofKnown_and_tt (proofKnown_and_tt (proofKnown_and_tt (proofKnown_and_tt (proofKnown_and_tt (proofKnown_and_tt (proofKnown_and_tt (proofKnown_and_tt proofKnown_j0 proofKnown_j1) proofKnown_j2) proofKnown_j3) proofKnown_j4) proofKnown_j5) proofKnown_j6) proofKnown_j7) proofKnown_j8) proofKnown_j9) proofKnown_j10) proofKnown_j11) proofKnown_j12) proofKnown_j13) proofKnown_j14) proofKnown_j15) proofKnown_j16) proofKnown_j17) proofKnown_j18) proofKnown_j19) proofKnown_j20) proofKnown_j21) proofKnown_j22) proofKnown_j23) proofKnown_j24) proofKnown_j25) proofKnown_j26) proofKnown_j27) proofKnown_j28) proofKnown_j29) proofKnown_j30) proofKnown_j31
end Go.Proofs.YtcboekjnibppdaaGreatDoor
