import Derived.Test.YtedplhdabefnkaaGreatDoorRq26
namespace Go.Rq.Cl
open Go Go.Proofs Go.Rq Go.Rq.Sm
set_option maxRecDepth 1000000 in
theorem dg_run15 (S:S2) (b:Nat->Int) (t:TypeId):(afunH PR (sdE S) [] 10 113 [.own 0 1 0 15] [(0,some ⟨false,t,encL (cInt .u8) (lstB b 0 15)⟩)] 1).strict=.leaf ((cBy 32).agg.enc (shaG S (lstB b 0 15))):=by kernel_rfl
end Go.Rq.Cl
