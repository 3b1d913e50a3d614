import Derived.Test.YtbamkkbefjgeoaaGreatDoorRq35
namespace Go.Rq.Cl
open Go Go.Proofs Go.Rq Go.Rq.Sm
end Go.Rq.Cl
