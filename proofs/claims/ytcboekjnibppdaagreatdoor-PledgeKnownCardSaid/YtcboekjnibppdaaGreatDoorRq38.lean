/- The law PledgeKnown, run through at once. -/
import Derived.Test.YtcboekjnibppdaaGreatDoorRq37
namespace Go.Rq
open Go Go.Proofs
theorem law_pure : PureOk PR 3 g3 := inlineC_ok c3 rfl rfl
set_option maxRecDepth 1000000 in
theorem law_run : g3 [] = some (true, .v (.bool true)) := by kernel_rfl
end Go.Rq
