import Derived.Test.YtbamkkbefjgeoaaGreatDoorRq28
namespace Go.Rq.Cl
open Go Go.Proofs Go.Rq Go.Rq.Sm
end Go.Rq.Cl
