import Derived.Test.YtbamkkbefjgeoaaGreatDoorRq44
import Derived.Test.YtbamkkbefjgeoaaGreatDoorRq05
namespace Go.Rq.Cl
open Go Go.Proofs Go.Rq Go.Rq.Sm
def md30_0 : MemD := ⟨[.agg [.v (.int .i64 (.ofNat 1)), .u (BitVec.ofNat 64 0), .u (BitVec.ofNat 64 0), .u (BitVec.ofNat 64 0), .u (BitVec.ofNat 64 0), .u (BitVec.ofNat 64 0), .u (BitVec.ofNat 64 0), .u (BitVec.ofNat 64 0), .u (BitVec.ofNat 64 0), .u (BitVec.ofNat 64 0), .u (BitVec.ofNat 64 0), .u (BitVec.ofNat 64 0), .u (BitVec.ofNat 64 0), .v (.bool false), .u (BitVec.ofNat 64 9723), .u (BitVec.ofNat 64 164643), .v (.bool false)], .agg [.v (.int .i64 (.ofNat 1)), .u (BitVec.ofNat 64 0), .u (BitVec.ofNat 64 0), .u (BitVec.ofNat 64 0), .u (BitVec.ofNat 64 0), .u (BitVec.ofNat 64 0), .u (BitVec.ofNat 64 0), .u (BitVec.ofNat 64 0), .u (BitVec.ofNat 64 0), .u (BitVec.ofNat 64 0), .u (BitVec.ofNat 64 0), .u (BitVec.ofNat 64 0), .u (BitVec.ofNat 64 0), .v (.bool false), .u (BitVec.ofNat 64 235929), .u (BitVec.ofNat 64 424835), .v (.bool false)], .agg [.v (.int .i64 (.ofNat 1)), .u (BitVec.ofNat 64 0), .u (BitVec.ofNat 64 0), .u (BitVec.ofNat 64 0), .u (BitVec.ofNat 64 0), .u (BitVec.ofNat 64 0), .u (BitVec.ofNat 64 0), .u (BitVec.ofNat 64 0), .u (BitVec.ofNat 64 0), .u (BitVec.ofNat 64 0), .u (BitVec.ofNat 64 0), .u (BitVec.ofNat 64 0), .u (BitVec.ofNat 64 0), .v (.bool false), .u (BitVec.ofNat 64 489674), .u (BitVec.ofNat 64 271737), .v (.bool false), .u (BitVec.ofNat 64 15465), .u (BitVec.ofNat 64 0), .u (BitVec.ofNat 64 0), .u (BitVec.ofNat 64 0), .u (BitVec.ofNat 64 0), .u (BitVec.ofNat 64 0)], .slc 0 0 5 5], [(0, some ⟨false, 5, [.v (.int .u8 119), .v (.int .u8 111), .v (.int .u8 114), .v (.int .u8 100), .v (.int .u8 115)]⟩)], .tup [.v (.bool true), .v (.int .i64 (.ofNat 0))]⟩
set_option maxRecDepth 1000000 in
theorem mf30_0 : outC2 (outC (crunF PR e30 6 2000 30 md30_0.as md30_0.h md30_0.h.length)) = some md30_0.r := by kernel_rfl
def mt30 : List MemD := [md30_0]
theorem mt30_ok : MemOk PR e30 6 2000 30 mt30 := (MemOk.cons mf30_0 MemOk.nil)
noncomputable def g30 : List AV -> AH -> Nat -> Option (Bool × AV × AH) := canG (memoD mt30 (deepC2 PR e30 6 2000 30 4096 true))
theorem g30_ok : ActOk PR 4096 30 g30 := memoD_ok cx30 rfl rfl mt30_ok (by kernel_rfl)
noncomputable def e6 : Env := envD eqsT [(8, g8), (9, g9), (13, g13), (27, (fn1 kU c6.agg ofW))] [] [(29, tx21)] [(28, g28), (30, g30)] [9] false [28, 30]
theorem e6_ok : EnvOk PR e6 := envD_ok eqsT_ok (TabPOk.cons g8_ok (TabPOk.cons g9_ok (TabPOk.cons g13_ok (TabPOk.cons of_ok TabPOk.nil)))) TabHOk.nil (TabLOk.cons tx21_ent tx21_ok TabLOk.nil) (TabDOk.cons n28 g28_ok (TabDOk.cons n30 g30_ok TabDOk.nil))
theorem cx6 : Ctx PR e6 [] (fun _ => none) 2000 6 := ctxB e6_ok mixed (by kernel_rfl)
theorem n6 : Enters PR 6 := entersB (by kernel_rfl)
end Go.Rq.Cl
