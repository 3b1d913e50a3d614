/- Closed facts of a row, together. Written by a program of ours. -/
import Derived.Test.YtbamkkbefjgeoaaGreatRq24
import Derived.Test.YtbamkkbefjgeoaaGreatRq25
import Derived.Test.YtbamkkbefjgeoaaGreatRq26
import Derived.Test.YtbamkkbefjgeoaaGreatRq27
namespace Go.Proofs.YtbamkkbefjgeoaaGreat
open Go Go.Rq Go.RowKit
theorem wireKnown_and_tt {a b : Bool} (h : a = true) (k : b = true) : (a && b) = true := by rw [h, k]; rfl
set_option maxRecDepth 100000 in
theorem wireKnown_joined : joinedFacts Tryz.prog 5 Tryz.f5 Rows.wireKnownSpec Rows.wireKnownRow = true := by
  unfold joinedFacts
  exact wireKnown_and_tt (wireKnown_and_tt (wireKnown_and_tt (wireKnown_and_tt (wireKnown_and_tt (wireKnown_and_tt (wireKnown_and_tt (wireKnown_and_tt (wireKnown_and_tt (wireKnown_and_tt (wireKnown_and_tt (wireKnown_and_tt (wireKnown_and_tt (wireKnown_and_tt (wireKnown_and_tt (wireKnown_and_tt (wireKnown_and_tt (wireKnown_and_tt (wireKnown_and_tt (wireKnown_and_tt (wireKnown_and_tt (wireKnown_and_tt (wireKnown_and_tt (wireKnown_and_tt (wireKnown_and_tt (wireKnown_and_tt (wireKnown_and_tt (wireKnown_and_tt (wireKnown_and_tt (wireKnown_and_tt (wireKnown_and_tt wireKnown_j0 wireKnown_j1) wireKnown_j2) wireKnown_j3) wireKnown_j4) wireKnown_j5) wireKnown_j6) wireKnown_j7) wireKnown_j8) wireKnown_j9) wireKnown_j10) wireKnown_j11) wireKnown_j12) wireKnown_j13) wireKnown_j14) wireKnown_j15) wireKnown_j16) wireKnown_j17) wireKnown_j18) wireKnown_j19) wireKnown_j20) wireKnown_j21) wireKnown_j22) wireKnown_j23) wireKnown_j24) wireKnown_j25) wireKnown_j26) wireKnown_j27) wireKnown_j28) wireKnown_j29) wireKnown_j30) wireKnown_j31
end Go.Proofs.YtbamkkbefjgeoaaGreat
