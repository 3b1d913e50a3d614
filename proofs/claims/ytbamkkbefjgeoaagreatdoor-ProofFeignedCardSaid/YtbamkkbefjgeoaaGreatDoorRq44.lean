/- Closed facts of a row, together. Written by a program of ours. -/
import Derived.Test.YtbamkkbefjgeoaaGreatDoorRq40
import Derived.Test.YtbamkkbefjgeoaaGreatDoorRq41
import Derived.Test.YtbamkkbefjgeoaaGreatDoorRq42
import Derived.Test.YtbamkkbefjgeoaaGreatDoorRq43
namespace Go.Proofs.YtbamkkbefjgeoaaGreatDoor
open Go Go.Rq Go.RowKit
theorem proofFeigned_and_tt {a b : Bool} (h : a = true) (k : b = true) : (a && b) = true := by rw [h, k]; rfl
set_option maxRecDepth 100000 in
theorem proofFeigned_joined : joinedFacts Tryz.prog 4 Tryz.f4 Rows.proofFeignedSpec Rows.proofFeignedRow = true := by
  unfold joinedFacts
  exact proofFeigned_and_tt (proofFeigned_and_tt (proofFeigned_and_tt (proofFeigned_and_tt (proofFeigned_and_tt (proofFeigned_and_tt (proofFeigned_and_tt (proofFeigned_and_tt (proofFeigned_and_tt (proofFeigned_and_tt (proofFeigned_and_tt (proofFeigned_and_tt (proofFeigned_and_tt (proofFeigned_and_tt (proofFeigned_and_tt (proofFeigned_and_tt (proofFeigned_and_tt (proofFeigned_and_tt (proofFeigned_and_tt (proofFeigned_and_tt (proofFeigned_and_tt (proofFeigned_and_tt (proofFeigned_and_tt (proofFeigned_and_tt (proofFeigned_and_tt (proofFeigned_and_tt (proofFeigned_and_tt (proofFeigned_and_tt (proofFeigned_and_tt (proofFeigned_and_tt (proofFeigned_and_tt proofFeigned_j0 proofFeigned_j1) proofFeigned_j2) proofFeigned_j3) proofFeigned_j4) proofFeigned_j5) proofFeigned_j6) proofFeigned_j7) proofFeigned_j8) proofFeigned_j9) proofFeigned_j10) proofFeigned_j11) proofFeigned_j12) proofFeigned_j13) proofFeigned_j14) proofFeigned_j15) proofFeigned_j16) proofFeigned_j17) proofFeigned_j18) proofFeigned_j19) proofFeigned_j20) proofFeigned_j21) proofFeigned_j22) proofFeigned_j23) proofFeigned_j24) proofFeigned_j25) proofFeigned_j26) proofFeigned_j27) proofFeigned_j28) proofFeigned_j29) proofFeigned_j30) proofFeigned_j31
end Go.Proofs.YtbamkkbefjgeoaaGreatDoor
