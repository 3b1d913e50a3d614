/- A closed law's functions, each gone through where it is called. Written by a program of ours. -/
import Derived.Test.YtcboekjnibppdaaGreatDoorRq33
import Derived.Test.YtcboekjnibppdaaGreatDoorRq34
namespace Go.Rq
open Go Go.Proofs
def md18_2 : MemD := ⟨[.own 0 17 0 2, .v (.int .i64 (.ofNat 2))], [(0, some ⟨false, 37, [.v (.int .i64 (.ofNat 1)), .u (BitVec.ofNat 64 0), .u (BitVec.ofNat 64 0), .u (BitVec.ofNat 64 0), .u (BitVec.ofNat 64 0), .u (BitVec.ofNat 64 0), .u (BitVec.ofNat 64 0), .u (BitVec.ofNat 64 0), .u (BitVec.ofNat 64 0), .u (BitVec.ofNat 64 0), .u (BitVec.ofNat 64 0), .u (BitVec.ofNat 64 0), .u (BitVec.ofNat 64 0), .v (.bool false), .u (BitVec.ofNat 64 175939), .u (BitVec.ofNat 64 21521), .v (.bool false), .v (.int .i64 (.ofNat 1)), .u (BitVec.ofNat 64 0), .u (BitVec.ofNat 64 0), .u (BitVec.ofNat 64 0), .u (BitVec.ofNat 64 0), .u (BitVec.ofNat 64 0), .u (BitVec.ofNat 64 0), .u (BitVec.ofNat 64 0), .u (BitVec.ofNat 64 0), .u (BitVec.ofNat 64 0), .u (BitVec.ofNat 64 0), .u (BitVec.ofNat 64 0), .u (BitVec.ofNat 64 0), .v (.bool false), .u (BitVec.ofNat 64 729085), .u (BitVec.ofNat 64 626936), .v (.bool false)]⟩)], .tup [.agg [.v (.int .i64 (.ofNat 1)), .u (BitVec.ofNat 64 0), .u (BitVec.ofNat 64 0), .u (BitVec.ofNat 64 0), .u (BitVec.ofNat 64 0), .u (BitVec.ofNat 64 0), .u (BitVec.ofNat 64 0), .u (BitVec.ofNat 64 0), .u (BitVec.ofNat 64 0), .u (BitVec.ofNat 64 0), .u (BitVec.ofNat 64 0), .u (BitVec.ofNat 64 0), .u (BitVec.ofNat 64 0), .v (.bool false), .u (BitVec.ofNat 64 68846), .u (BitVec.ofNat 64 540238), .v (.bool false)], .v (.int .i64 (.ofNat 0))]⟩
set_option maxRecDepth 1000000 in
theorem mf18_2 : outC2 (outC (crunF PR e18 5 2000 18 md18_2.as md18_2.h md18_2.h.length)) = some md18_2.r := by kernel_rfl
def md18_3 : MemD := ⟨[.own 0 17 0 2, .v (.int .i64 (.ofNat 3))], [(0, some ⟨false, 37, [.v (.int .i64 (.ofNat 1)), .u (BitVec.ofNat 64 0), .u (BitVec.ofNat 64 0), .u (BitVec.ofNat 64 0), .u (BitVec.ofNat 64 0), .u (BitVec.ofNat 64 0), .u (BitVec.ofNat 64 0), .u (BitVec.ofNat 64 0), .u (BitVec.ofNat 64 0), .u (BitVec.ofNat 64 0), .u (BitVec.ofNat 64 0), .u (BitVec.ofNat 64 0), .u (BitVec.ofNat 64 0), .v (.bool false), .u (BitVec.ofNat 64 175939), .u (BitVec.ofNat 64 21521), .v (.bool false), .v (.int .i64 (.ofNat 1)), .u (BitVec.ofNat 64 0), .u (BitVec.ofNat 64 0), .u (BitVec.ofNat 64 0), .u (BitVec.ofNat 64 0), .u (BitVec.ofNat 64 0), .u (BitVec.ofNat 64 0), .u (BitVec.ofNat 64 0), .u (BitVec.ofNat 64 0), .u (BitVec.ofNat 64 0), .u (BitVec.ofNat 64 0), .u (BitVec.ofNat 64 0), .u (BitVec.ofNat 64 0), .v (.bool false), .u (BitVec.ofNat 64 729085), .u (BitVec.ofNat 64 626936), .v (.bool false)]⟩)], .tup [.agg [.v (.int .i64 (.ofNat 1)), .u (BitVec.ofNat 64 0), .u (BitVec.ofNat 64 0), .u (BitVec.ofNat 64 0), .u (BitVec.ofNat 64 0), .u (BitVec.ofNat 64 0), .u (BitVec.ofNat 64 0), .u (BitVec.ofNat 64 0), .u (BitVec.ofNat 64 0), .u (BitVec.ofNat 64 0), .u (BitVec.ofNat 64 0), .u (BitVec.ofNat 64 0), .u (BitVec.ofNat 64 0), .v (.bool false), .u (BitVec.ofNat 64 322017), .u (BitVec.ofNat 64 440776), .v (.bool false)], .v (.int .i64 (.ofNat 0))]⟩
set_option maxRecDepth 1000000 in
theorem mf18_3 : outC2 (outC (crunF PR e18 5 2000 18 md18_3.as md18_3.h md18_3.h.length)) = some md18_3.r := by kernel_rfl
end Go.Rq

/- A closed law's functions, each gone through where it is called. Written by a program of ours. -/
namespace Go.Rq
open Go Go.Proofs

def mt18 : List MemD := [md18_0, md18_1, md18_2, md18_3]
theorem mt18_ok : MemOk PR e18 5 2000 18 mt18 := (MemOk.cons mf18_0 (MemOk.cons mf18_1 (MemOk.cons mf18_2 (MemOk.cons mf18_3 MemOk.nil))))
noncomputable def g18 : List AV → AH → Nat → Option (Bool × AV × AH) := canG (memoD mt18 (deepC2 PR e18 5 2000 18 4096 true))
theorem g18_ok : ActOk PR 4096 18 g18 := memoD_ok cx18 rfl rfl mt18_ok (by kernel_rfl)

/-! reliquary/pledge.Holds -/
noncomputable def e20 : Env := envD eqsT [(15, g15)] [] [] [(18, g18)] [] false [18]
theorem e20_ok : EnvOk PR e20 := envD_ok eqsT_ok (TabPOk.cons g15_ok TabPOk.nil) TabHOk.nil TabLOk.nil (TabDOk.cons n18 g18_ok TabDOk.nil)
theorem cx20 : Ctx PR e20 [] (fun _ => none) 2000 20 := ctx_of e20_ok mixed (fn := Go.Proofs.Tryz.f20) (by kernel_rfl) (by kernel_rfl) (by kernel_rfl) (tabOk_none _)
theorem n20 : Enters PR 20 := enters_of (fn := Go.Proofs.Tryz.f20) (by kernel_rfl) (by kernel_rfl) (by kernel_rfl)
end Go.Rq
