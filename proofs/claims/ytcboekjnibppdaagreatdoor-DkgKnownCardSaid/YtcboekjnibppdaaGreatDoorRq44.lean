/- A closed law's functions, each gone through where it is called. Written by a program of ours. -/
import Derived.Test.YtcboekjnibppdaaGreatDoorRq43
namespace Go.Rq
open Go Go.Proofs
def md126_0 : MemD := ⟨[.v (.int .i64 (.ofNat 1)), .own 0 1 0 2, .own 1 6 0 2, .v (.int .i64 (.ofNat 4))], [(0, some ⟨false, 3, [.v (.int .i64 (.ofNat 2)), .v (.int .i64 (.ofNat 3))]⟩), (1, some ⟨false, 31, [.u (BitVec.ofNat 64 11), .u (BitVec.ofNat 64 0), .u (BitVec.ofNat 64 0), .u (BitVec.ofNat 64 0), .u (BitVec.ofNat 64 0), .u (BitVec.ofNat 64 0), .u (BitVec.ofNat 64 14), .u (BitVec.ofNat 64 0), .u (BitVec.ofNat 64 0), .u (BitVec.ofNat 64 0), .u (BitVec.ofNat 64 0), .u (BitVec.ofNat 64 0)]⟩)], .tup [.agg [.u (BitVec.ofNat 64 17), .u (BitVec.ofNat 64 0), .u (BitVec.ofNat 64 0), .u (BitVec.ofNat 64 0), .u (BitVec.ofNat 64 0), .u (BitVec.ofNat 64 0)], .v (.int .i64 (.ofNat 0))]⟩
set_option maxRecDepth 1000000 in
theorem mf126_0 : outC2 (outC (crunF PR e126 5 2000 126 md126_0.as md126_0.h md126_0.h.length)) = some md126_0.r := by kernel_rfl
def md126_1 : MemD := ⟨[.v (.int .i64 (.ofNat 1)), .own 0 1 0 2, .own 1 6 0 2, .v (.int .i64 (.ofNat 4))], [(0, some ⟨false, 3, [.v (.int .i64 (.ofNat 2)), .v (.int .i64 (.ofNat 3))]⟩), (1, some ⟨false, 31, [.u (BitVec.ofNat 64 3), .u (BitVec.ofNat 64 0), .u (BitVec.ofNat 64 0), .u (BitVec.ofNat 64 0), .u (BitVec.ofNat 64 0), .u (BitVec.ofNat 64 0), .u (BitVec.ofNat 64 4), .u (BitVec.ofNat 64 0), .u (BitVec.ofNat 64 0), .u (BitVec.ofNat 64 0), .u (BitVec.ofNat 64 0), .u (BitVec.ofNat 64 0)]⟩)], .tup [.agg [.u (BitVec.ofNat 64 5), .u (BitVec.ofNat 64 0), .u (BitVec.ofNat 64 0), .u (BitVec.ofNat 64 0), .u (BitVec.ofNat 64 0), .u (BitVec.ofNat 64 0)], .v (.int .i64 (.ofNat 0))]⟩
set_option maxRecDepth 1000000 in
theorem mf126_1 : outC2 (outC (crunF PR e126 5 2000 126 md126_1.as md126_1.h md126_1.h.length)) = some md126_1.r := by kernel_rfl
end Go.Rq

/- A closed law's functions, each gone through where it is called. Written by a program of ours. -/
namespace Go.Rq
open Go Go.Proofs

def mt126 : List MemD := [md126_0, md126_1]
theorem mt126_ok : MemOk PR e126 5 2000 126 mt126 := (MemOk.cons mf126_0 (MemOk.cons mf126_1 MemOk.nil))
noncomputable def g126 : List AV → AH → Nat → Option (Bool × AV × AH) := canG (memoD mt126 (deepC2 PR e126 5 2000 126 4096 true))
theorem g126_ok : ActOk PR 4096 126 g126 := memoD_ok cx126 rfl rfl mt126_ok (by kernel_rfl)

/-! (*reliquary/dkg.Session).Recover -/
noncomputable def e80 : Env := envD eqsT [] [] [] [(86, g86), (126, g126), (152, g152)] [] false [86, 126, 152]
theorem e80_ok : EnvOk PR e80 := envD_ok eqsT_ok TabPOk.nil TabHOk.nil TabLOk.nil (TabDOk.cons n86 g86_ok (TabDOk.cons n126 g126_ok (TabDOk.cons n152 g152_ok TabDOk.nil)))
theorem cx80 : Ctx PR e80 [] (fun _ => none) 2000 80 := ctx_of e80_ok mixed (fn := Go.Proofs.Tryz.f80) (by kernel_rfl) (by kernel_rfl) (by kernel_rfl) (tabOk_none _)
theorem n80 : Enters PR 80 := enters_of (fn := Go.Proofs.Tryz.f80) (by kernel_rfl) (by kernel_rfl) (by kernel_rfl)
noncomputable def g80 : List AV → AH → Nat → Option (Bool × AV × AH) := deepC PR e80 7 2000 80 4096 true
theorem g80_ok : ActOk PR 4096 80 g80 := deepC_ok cx80 rfl rfl

/-! (*reliquary/dkg.Session).At -/
noncomputable def e83 : Env := envD eqsT [] [] [] [(18, g18), (152, g152), (154, g154)] [] false [18, 152, 154]
theorem e83_ok : EnvOk PR e83 := envD_ok eqsT_ok TabPOk.nil TabHOk.nil TabLOk.nil (TabDOk.cons n18 g18_ok (TabDOk.cons n152 g152_ok (TabDOk.cons n154 g154_ok TabDOk.nil)))
theorem cx83 : Ctx PR e83 [] (fun _ => none) 2000 83 := ctx_of e83_ok mixed (fn := Go.Proofs.Tryz.f83) (by kernel_rfl) (by kernel_rfl) (by kernel_rfl) (tabOk_none _)
theorem n83 : Enters PR 83 := enters_of (fn := Go.Proofs.Tryz.f83) (by kernel_rfl) (by kernel_rfl) (by kernel_rfl)
noncomputable def g83 : List AV → AH → Nat → Option (Bool × AV × AH) := deepC PR e83 5 2000 83 4096 true
theorem g83_ok : ActOk PR 4096 83 g83 := deepC_ok cx83 rfl rfl

/-! reliquary/reliquarylaw22.awake -/
noncomputable def e81 : Env := envD eqsT [(15, g15), (16, (fn1 kU c6.agg ofW))] [] [] [(69, g69), (83, g83)] [] false [69, 83]
theorem e81_ok : EnvOk PR e81 := envD_ok eqsT_ok (TabPOk.cons g15_ok (TabPOk.cons of_ok TabPOk.nil)) TabHOk.nil TabLOk.nil (TabDOk.cons n69 g69_ok (TabDOk.cons n83 g83_ok TabDOk.nil))
theorem cx81 : Ctx PR e81 [] (fun _ => none) 2000 81 := ctx_of e81_ok mixed (fn := Go.Proofs.Tryz.f81) (by kernel_rfl) (by kernel_rfl) (by kernel_rfl) (tabOk_none _)
theorem n81 : Enters PR 81 := enters_of (fn := Go.Proofs.Tryz.f81) (by kernel_rfl) (by kernel_rfl) (by kernel_rfl)
end Go.Rq
