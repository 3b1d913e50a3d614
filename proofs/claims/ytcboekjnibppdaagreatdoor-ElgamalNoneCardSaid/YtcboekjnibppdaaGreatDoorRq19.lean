/- SHA-256 of a text of 49 bytes. Written by a program of ours. -/
import Derived.Test.YtcboekjnibppdaaGreatDoorRq17
namespace Go.Rq
open Go Go.Proofs
set_option maxRecDepth 1000000 in
theorem dg_run49 (S : S2) (b : Nat → Int) (t : TypeId) : (afunH PR (sdE S) [] 10 177 [.own 0 1 0 49] [(0, some ⟨false, t, encL (cInt .u8) (lstB b 0 49)⟩)] 1).strict = .leaf ((cBy 32).agg.enc (shaG S (lstB b 0 49))) := by kernel_rfl
end Go.Rq
