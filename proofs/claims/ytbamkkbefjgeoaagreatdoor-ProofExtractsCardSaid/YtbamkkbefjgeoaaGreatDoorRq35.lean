import Derived.Test.YtbamkkbefjgeoaaGreatDoorRq28
import Derived.Test.YtbamkkbefjgeoaaGreatDoorRq29
import Derived.Test.YtbamkkbefjgeoaaGreatDoorRq30
import Derived.Test.YtbamkkbefjgeoaaGreatDoorRq31
import Derived.Test.YtbamkkbefjgeoaaGreatDoorRq32
import Derived.Test.YtbamkkbefjgeoaaGreatDoorRq33
import Derived.Test.YtbamkkbefjgeoaaGreatDoorRq34
namespace Go.Rq.Cl
open Go Go.Proofs Go.Rq Go.Rq.Sm
end Go.Rq.Cl
