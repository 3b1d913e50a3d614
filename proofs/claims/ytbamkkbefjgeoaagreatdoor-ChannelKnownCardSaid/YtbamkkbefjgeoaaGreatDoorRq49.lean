/- Closed facts of a row, together. Written by a program of ours. -/
import Derived.Test.YtbamkkbefjgeoaaGreatDoorRq45
import Derived.Test.YtbamkkbefjgeoaaGreatDoorRq46
import Derived.Test.YtbamkkbefjgeoaaGreatDoorRq47
import Derived.Test.YtbamkkbefjgeoaaGreatDoorRq48
namespace Go.Proofs.YtbamkkbefjgeoaaGreatDoor
open Go Go.Rq Go.RowKit
theorem channelKnown_and_tt {a b : Bool} (h : a = true) (k : b = true) : (a && b) = true := by rw [h, k]; rfl
set_option maxRecDepth 100000 in
theorem channelKnown_joined : joinedFacts Tryz.prog 5 Tryz.f5 Rows.channelKnownSpec Rows.channelKnownRow = true := by
  unfold joinedFacts
  exact channelKnown_and_tt (channelKnown_and_tt (channelKnown_and_tt (channelKnown_and_tt (channelKnown_and_tt (channelKnown_and_tt (channelKnown_and_tt (channelKnown_and_tt (channelKnown_and_tt (channelKnown_and_tt (channelKnown_and_tt (channelKnown_and_tt (channelKnown_and_tt (channelKnown_and_tt (channelKnown_and_tt (channelKnown_and_tt (channelKnown_and_tt (channelKnown_and_tt (channelKnown_and_tt (channelKnown_and_tt (channelKnown_and_tt (channelKnown_and_tt (channelKnown_and_tt (channelKnown_and_tt (channelKnown_and_tt (channelKnown_and_tt (channelKnown_and_tt (channelKnown_and_tt (channelKnown_and_tt (channelKnown_and_tt (channelKnown_and_tt channelKnown_j0 channelKnown_j1) channelKnown_j2) channelKnown_j3) channelKnown_j4) channelKnown_j5) channelKnown_j6) channelKnown_j7) channelKnown_j8) channelKnown_j9) channelKnown_j10) channelKnown_j11) channelKnown_j12) channelKnown_j13) channelKnown_j14) channelKnown_j15) channelKnown_j16) channelKnown_j17) channelKnown_j18) channelKnown_j19) channelKnown_j20) channelKnown_j21) channelKnown_j22) channelKnown_j23) channelKnown_j24) channelKnown_j25) channelKnown_j26) channelKnown_j27) channelKnown_j28) channelKnown_j29) channelKnown_j30) channelKnown_j31
end Go.Proofs.YtbamkkbefjgeoaaGreatDoor
