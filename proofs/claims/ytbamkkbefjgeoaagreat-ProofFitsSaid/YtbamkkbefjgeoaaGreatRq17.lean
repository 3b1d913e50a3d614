import Derived.Test.YtbamkkbefjgeoaaGreatRq16
import Derived.Test.YtbamkkbefjgeoaaGreatRq05
import Derived.Test.YtbamkkbefjgeoaaGreatRq06
namespace Go.Rq
open Go Go.Proofs
end Go.Rq
