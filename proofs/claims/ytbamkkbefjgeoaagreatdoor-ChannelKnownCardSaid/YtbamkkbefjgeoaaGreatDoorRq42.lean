/- A part of the law ChannelKnown. Written by a program of ours. -/
import Derived.Test.YtbamkkbefjgeoaaGreatDoorRq41
namespace Go.Rq.Cl
open Go Go.Proofs Go.Rq Go.Rq.Sm
set_option maxRecDepth 1000000 in
theorem run6 : runK PR e5 313 2000 6 (dropK 0 bd5) st0 = some st6 := by kernel_rfl
end Go.Rq.Cl

/- A part of the law ChannelKnown. Written by a program of ours. -/
namespace Go.Rq.Cl
open Go Go.Proofs Go.Rq Go.Rq.Sm
set_option maxRecDepth 1000000 in
theorem run10 : runK PR e5 313 2000 4 (dropK 6 bd5) st6 = some st10 := by kernel_rfl
end Go.Rq.Cl

/- A part of the law ChannelKnown. Written by a program of ours. -/
namespace Go.Rq.Cl
open Go Go.Proofs Go.Rq Go.Rq.Sm
set_option maxRecDepth 1000000 in
theorem run11 : runK PR e5 313 2000 1 (dropK 10 bd5) st10 = some st11 := by kernel_rfl
end Go.Rq.Cl
