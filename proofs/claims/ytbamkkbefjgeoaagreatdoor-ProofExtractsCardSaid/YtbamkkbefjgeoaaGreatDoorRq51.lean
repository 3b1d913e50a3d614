import Derived.Test.YtbamkkbefjgeoaaGreatDoorRq47
import Derived.Test.YtbamkkbefjgeoaaGreatDoorRq48
import Derived.Test.YtbamkkbefjgeoaaGreatDoorRq49
import Derived.Test.YtbamkkbefjgeoaaGreatDoorRq50
namespace Go.Proofs.YtbamkkbefjgeoaaGreatDoor
open Go Go.Rq Go.RowKit
theorem proofExtracts_and_tt {a b : Bool} (h : a = true) (k : b = true) : (a && b) = true := by rw [h, k]; rfl
set_option maxRecDepth 100000 in
theorem proofExtracts_joined : joinedFacts Tryz.prog 3 Tryz.f3 Rows.proofExtractsSpec Rows.proofExtractsRow = true := by
 unfold joinedFacts
 exact proofExtracts_and_tt (proofExtracts_and_tt (proofExtracts_and_tt (proofExtracts_and_tt (proofExtracts_and_tt (proofExtracts_and_tt (proofExtracts_and_tt (proofExtracts_and_tt (proofExtracts_and_tt (proofExtracts_and_tt (proofExtracts_and_tt (proofExtracts_and_tt (proofExtracts_and_tt (proofExtracts_and_tt (proofExtracts_and_tt (proofExtracts_and_tt (proofExtracts_and_tt (proofExtracts_and_tt (proofExtracts_and_tt (proofExtracts_and_tt (proofExtracts_and_tt (proofExtracts_and_tt (proofExtracts_and_tt (proofExtracts_and_tt (proofExtracts_and_tt (proofExtracts_and_tt (proofExtracts_and_tt (proofExtracts_and_tt (proofExtracts_and_tt (proofExtracts_and_tt (proofExtracts_and_tt proofExtracts_j0 proofExtracts_j1) proofExtracts_j2) proofExtracts_j3) proofExtracts_j4) proofExtracts_j5) proofExtracts_j6) proofExtracts_j7) proofExtracts_j8) proofExtracts_j9) proofExtracts_j10) proofExtracts_j11) proofExtracts_j12) proofExtracts_j13) proofExtracts_j14) proofExtracts_j15) proofExtracts_j16) proofExtracts_j17) proofExtracts_j18) proofExtracts_j19) proofExtracts_j20) proofExtracts_j21) proofExtracts_j22) proofExtracts_j23) proofExtracts_j24) proofExtracts_j25) proofExtracts_j26) proofExtracts_j27) proofExtracts_j28) proofExtracts_j29) proofExtracts_j30) proofExtracts_j31
end Go.Proofs.YtbamkkbefjgeoaaGreatDoor
