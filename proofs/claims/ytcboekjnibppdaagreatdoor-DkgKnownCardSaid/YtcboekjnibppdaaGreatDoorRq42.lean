/- A closed law's functions, each gone through where it is called. Written by a program of ours. -/
import Derived.Test.YtcboekjnibppdaaGreatDoorRq40
import Derived.Test.YtcboekjnibppdaaGreatDoorRq41
namespace Go.Rq
open Go Go.Proofs
def md138_2 : MemD := ⟨[.own 0 1 0 2, .own 1 17 0 2, .v (.int .i64 (.ofNat 2))], [(0, some ⟨false, 3, [.v (.int .i64 (.ofNat 2)), .v (.int .i64 (.ofNat 3))]⟩), (1, some ⟨false, 37, [.v (.int .i64 (.ofNat 1)), .u (BitVec.ofNat 64 0), .u (BitVec.ofNat 64 0), .u (BitVec.ofNat 64 0), .u (BitVec.ofNat 64 0), .u (BitVec.ofNat 64 0), .u (BitVec.ofNat 64 0), .u (BitVec.ofNat 64 0), .u (BitVec.ofNat 64 0), .u (BitVec.ofNat 64 0), .u (BitVec.ofNat 64 0), .u (BitVec.ofNat 64 0), .u (BitVec.ofNat 64 0), .v (.bool false), .u (BitVec.ofNat 64 565298), .u (BitVec.ofNat 64 509300), .v (.bool false), .v (.int .i64 (.ofNat 1)), .u (BitVec.ofNat 64 0), .u (BitVec.ofNat 64 0), .u (BitVec.ofNat 64 0), .u (BitVec.ofNat 64 0), .u (BitVec.ofNat 64 0), .u (BitVec.ofNat 64 0), .u (BitVec.ofNat 64 0), .u (BitVec.ofNat 64 0), .u (BitVec.ofNat 64 0), .u (BitVec.ofNat 64 0), .u (BitVec.ofNat 64 0), .u (BitVec.ofNat 64 0), .v (.bool false), .u (BitVec.ofNat 64 550481), .u (BitVec.ofNat 64 616660), .v (.bool false)]⟩)], .tup [.agg [.v (.int .i64 (.ofNat 1)), .u (BitVec.ofNat 64 0), .u (BitVec.ofNat 64 0), .u (BitVec.ofNat 64 0), .u (BitVec.ofNat 64 0), .u (BitVec.ofNat 64 0), .u (BitVec.ofNat 64 0), .u (BitVec.ofNat 64 0), .u (BitVec.ofNat 64 0), .u (BitVec.ofNat 64 0), .u (BitVec.ofNat 64 0), .u (BitVec.ofNat 64 0), .u (BitVec.ofNat 64 0), .v (.bool false), .u (BitVec.ofNat 64 565298), .u (BitVec.ofNat 64 509300), .v (.bool false)], .v (.int .i64 (.ofNat 0))]⟩
set_option maxRecDepth 1000000 in
theorem mf138_2 : outC2 (outC (crunF PR e138 4 2000 138 md138_2.as md138_2.h md138_2.h.length)) = some md138_2.r := by kernel_rfl
end Go.Rq

/- A closed law's functions, each gone through where it is called. Written by a program of ours. -/
namespace Go.Rq
open Go Go.Proofs

def mt138 : List MemD := [md138_0, md138_1, md138_2]
theorem mt138_ok : MemOk PR e138 4 2000 138 mt138 := (MemOk.cons mf138_0 (MemOk.cons mf138_1 (MemOk.cons mf138_2 MemOk.nil)))
noncomputable def g138 : List AV → AH → Nat → Option (Bool × AV × AH) := canG (memoD mt138 (deepC2 PR e138 4 2000 138 4096 true))
theorem g138_ok : ActOk PR 4096 138 g138 := memoD_ok cx138 rfl rfl mt138_ok (by kernel_rfl)

/-! (*reliquary/dkg.Session).at -/
noncomputable def e157 : Env := envD eqsT [] [] [] [(86, g86), (138, g138)] [] false [86, 138]
theorem e157_ok : EnvOk PR e157 := envD_ok eqsT_ok TabPOk.nil TabHOk.nil TabLOk.nil (TabDOk.cons n86 g86_ok (TabDOk.cons n138 g138_ok TabDOk.nil))
theorem cx157 : Ctx PR e157 [] (fun _ => none) 2000 157 := ctx_of e157_ok mixed (fn := Go.Proofs.Tryz.f157) (by kernel_rfl) (by kernel_rfl) (by kernel_rfl) (tabOk_none _)
theorem n157 : Enters PR 157 := enters_of (fn := Go.Proofs.Tryz.f157) (by kernel_rfl) (by kernel_rfl) (by kernel_rfl)
noncomputable def g157 : List AV → AH → Nat → Option (Bool × AV × AH) := deepC PR e157 6 2000 157 4096 true
theorem g157_ok : ActOk PR 4096 157 g157 := deepC_ok cx157 rfl rfl

/-! (*reliquary/dkg.Session).Public -/
noncomputable def e71 : Env := envD eqsT [] [] [] [(156, g156), (157, g157)] [] false [156, 157]
theorem e71_ok : EnvOk PR e71 := envD_ok eqsT_ok TabPOk.nil TabHOk.nil TabLOk.nil (TabDOk.cons n156 g156_ok (TabDOk.cons n157 g157_ok TabDOk.nil))
theorem cx71 : Ctx PR e71 [] (fun _ => none) 2000 71 := ctx_of e71_ok mixed (fn := Go.Proofs.Tryz.f71) (by kernel_rfl) (by kernel_rfl) (by kernel_rfl) (tabOk_none _)
theorem n71 : Enters PR 71 := enters_of (fn := Go.Proofs.Tryz.f71) (by kernel_rfl) (by kernel_rfl) (by kernel_rfl)
noncomputable def g71 : List AV → AH → Nat → Option (Bool × AV × AH) := deepC PR e71 4 2000 71 4096 true
theorem g71_ok : ActOk PR 4096 71 g71 := deepC_ok cx71 rfl rfl

/-! reliquary/proof.fits -/
noncomputable def e118 : Env := envD eqsT [(99, g99), (115, g115)] [] [] [] [] false []
theorem e118_ok : EnvOk PR e118 := envD_ok eqsT_ok (TabPOk.cons g99_ok (TabPOk.cons g115_ok TabPOk.nil)) TabHOk.nil TabLOk.nil TabDOk.nil
theorem cx118 : Ctx PR e118 [] (fun _ => none) 2000 118 := ctx_of e118_ok mixed (fn := Go.Proofs.Tryz.f118) (by kernel_rfl) (by kernel_rfl) (by kernel_rfl) (tabOk_none _)
theorem n118 : Enters PR 118 := enters_of (fn := Go.Proofs.Tryz.f118) (by kernel_rfl) (by kernel_rfl) (by kernel_rfl)
noncomputable def g118 : List AV → Option (Bool × AV) := (inlineC PR e118 5 2000 118)
theorem g118_ok : CallOk PR 118 g118 := (.inl ⟨n118, inlineC_ok cx118 rfl rfl⟩)

/-! reliquary/proof.KnowCheck -/
noncomputable def e28 : Env := envD eqsT [(118, g118)] [] [] [(114, g114), (116, g116)] [] false [114, 116]
theorem e28_ok : EnvOk PR e28 := envD_ok eqsT_ok (TabPOk.cons g118_ok TabPOk.nil) TabHOk.nil TabLOk.nil (TabDOk.cons n114 g114_ok (TabDOk.cons n116 g116_ok TabDOk.nil))
theorem cx28 : Ctx PR e28 [] (fun _ => none) 2000 28 := ctx_of e28_ok mixed (fn := Go.Proofs.Tryz.f28) (by kernel_rfl) (by kernel_rfl) (by kernel_rfl) (tabOk_none _)
theorem n28 : Enters PR 28 := enters_of (fn := Go.Proofs.Tryz.f28) (by kernel_rfl) (by kernel_rfl) (by kernel_rfl)
end Go.Rq
