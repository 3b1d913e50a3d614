/- A closed law's functions, each gone through where it is called. Written by a program of ours. -/
import Derived.Test.YtbamkkbefjgeoaaGreatDoorRq39
namespace Go.Rq.Cl
open Go Go.Proofs Go.Rq Go.Rq.Sm
end Go.Rq.Cl

/- A closed law's functions, each gone through where it is called. Written by a program of ours. -/
namespace Go.Rq.Cl
open Go Go.Proofs Go.Rq Go.Rq.Sm

/-! reliquary/reliquarylaw21.awake -/
end Go.Rq.Cl
