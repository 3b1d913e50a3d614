/- A closed law's functions, each gone through where it is called. Written by a program of ours. -/
import Derived.Test.YtcboekjnibppdaaGreatDoorRq32
namespace Go.Rq
open Go Go.Proofs
def md121_0 : List AV × AV := ([.v (.int .i64 (.ofNat 1)), .agg [.u (BitVec.ofNat 64 2), .u (BitVec.ofNat 64 0), .u (BitVec.ofNat 64 0), .u (BitVec.ofNat 64 0), .u (BitVec.ofNat 64 0), .u (BitVec.ofNat 64 0)]], .tup [.agg [.u (BitVec.ofNat 64 32761), .u (BitVec.ofNat 64 0), .u (BitVec.ofNat 64 0), .u (BitVec.ofNat 64 0), .u (BitVec.ofNat 64 0), .u (BitVec.ofNat 64 0)], .v (.int .i64 (.ofNat 0))])
set_option maxRecDepth 1000000 in
theorem mf121_0 : canQ (inlineC PR e121 5 2000 121) md121_0.1 = some (true, md121_0.2) := by kernel_rfl
end Go.Rq
