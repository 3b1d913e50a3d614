/- A part of the law ChannelKnown. Written by a program of ours. -/
import Derived.Test.YtbamkkbefjgeoaaGreatDoorRq41
namespace Go.Rq.Cl
open Go Go.Proofs Go.Rq Go.Rq.Sm
set_option maxRecDepth 1000000 in
theorem run16 : runK PR e5 313 2000 5 (dropK 11 bd5) st11 = some st16 := by kernel_rfl
end Go.Rq.Cl

/- A part of the law ChannelKnown. Written by a program of ours. -/
namespace Go.Rq.Cl
open Go Go.Proofs Go.Rq Go.Rq.Sm
set_option maxRecDepth 1000000 in
theorem run20 : runK PR e5 313 2000 4 (dropK 16 bd5) st16 = some st20 := by kernel_rfl
end Go.Rq.Cl

/- A part of the law ChannelKnown. Written by a program of ours. -/
namespace Go.Rq.Cl
open Go Go.Proofs Go.Rq Go.Rq.Sm
set_option maxRecDepth 1000000 in
theorem run27 : runK PR e5 313 2000 7 (dropK 20 bd5) st20 = some st27 := by kernel_rfl
end Go.Rq.Cl
