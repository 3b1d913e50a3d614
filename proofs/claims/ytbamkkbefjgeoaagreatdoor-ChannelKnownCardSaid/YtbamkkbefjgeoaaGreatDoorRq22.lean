/- The suites' moduli are made: a contract. -/
import Derived.Test.YtbamkkbefjgeoaaGreatDoorRq21
import Derived.Test.YtbamkkbefjgeoaaGreatDoorRq13
import Derived.Test.YtbamkkbefjgeoaaGreatDoorRq08
namespace Go.Rq.Cl
open Go Go.Proofs Go.Rq Go.Rq.Sm

/-! The walk. -/
/-! As numbers. -/
end Go.Rq.Cl
