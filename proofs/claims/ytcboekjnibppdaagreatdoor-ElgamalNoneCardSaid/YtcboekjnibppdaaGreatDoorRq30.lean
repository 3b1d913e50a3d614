/- What the suites' other generator is. -/
import Derived.Test.YtcboekjnibppdaaGreatDoorRq29
namespace Go.Rq
open Go Go.Proofs
def bsV (s x y : Nat) : List AV × AV := ([.v (.int .i64 (.ofNat s))], .tup [.agg [.v (.int .i64 (.ofNat s)), .u 0, .u 0, .u 0, .u 0, .u 0, .u 0, .u 0, .u 0, .u 0, .u 0, .u 0, .u 0, .lit false, .u (BitVec.ofNat 64 x), .u (BitVec.ofNat 64 y), .v (.bool false)], .v (.int .i64 0)])
def bsT : List (List AV × AV) := [bsV 1 680769 739834, bsV 2 275425563242282422 1019764028308248193]
set_option maxRecDepth 1000000 in
theorem bs1 : g24 (bsV 1 680769 739834).1 = some (true, (bsV 1 680769 739834).2) := by kernel_rfl
set_option maxRecDepth 1000000 in
theorem bs2 : g24 (bsV 2 275425563242282422 1019764028308248193).1 = some (true, (bsV 2 275425563242282422 1019764028308248193).2) := by kernel_rfl
theorem bs_ok : CallOk PR 24 (memoA bsT) := memoA_ok g24_ok fun p hp => by
  rcases List.mem_cons.1 hp with rfl | hp
  · exact bs1
  rcases List.mem_cons.1 hp with rfl | hp
  · exact bs2
  · cases hp
end Go.Rq
