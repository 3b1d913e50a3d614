import Derived.Test.YtbamkkbefjgeoaaGreatRq23
import Derived.Test.YtbamkkbefjgeoaaGreatRq24
import Derived.Test.YtbamkkbefjgeoaaGreatRq25
import Derived.Test.YtbamkkbefjgeoaaGreatRq26
namespace Go.Proofs.YtbamkkbefjgeoaaGreat
open Go Go.Rq Go.RowKit
theorem proofFits_and_tt {a b : Bool} (h : a = true) (k : b = true) : (a && b) = true := by rw [h, k]; rfl
set_option maxRecDepth 100000 in
theorem proofFits_joined : joinedFacts Tryz.prog 4 Tryz.f4 Rows.proofFitsSpec Rows.proofFitsRow = true := by
 unfold joinedFacts
 exact proofFits_and_tt (proofFits_and_tt (proofFits_and_tt (proofFits_and_tt (proofFits_and_tt (proofFits_and_tt (proofFits_and_tt (proofFits_and_tt (proofFits_and_tt (proofFits_and_tt (proofFits_and_tt (proofFits_and_tt (proofFits_and_tt (proofFits_and_tt (proofFits_and_tt (proofFits_and_tt (proofFits_and_tt (proofFits_and_tt (proofFits_and_tt (proofFits_and_tt (proofFits_and_tt (proofFits_and_tt (proofFits_and_tt (proofFits_and_tt (proofFits_and_tt (proofFits_and_tt (proofFits_and_tt (proofFits_and_tt (proofFits_and_tt (proofFits_and_tt (proofFits_and_tt proofFits_j0 proofFits_j1) proofFits_j2) proofFits_j3) proofFits_j4) proofFits_j5) proofFits_j6) proofFits_j7) proofFits_j8) proofFits_j9) proofFits_j10) proofFits_j11) proofFits_j12) proofFits_j13) proofFits_j14) proofFits_j15) proofFits_j16) proofFits_j17) proofFits_j18) proofFits_j19) proofFits_j20) proofFits_j21) proofFits_j22) proofFits_j23) proofFits_j24) proofFits_j25) proofFits_j26) proofFits_j27) proofFits_j28) proofFits_j29) proofFits_j30) proofFits_j31
end Go.Proofs.YtbamkkbefjgeoaaGreat
