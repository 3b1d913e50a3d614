/- A closed law's functions, each gone through where it is called. Written by a program of ours. -/
import Derived.Test.YtcboekjnibppdaaGreatDoorRq38
import Derived.Test.YtcboekjnibppdaaGreatDoorRq39
import Derived.Test.YtcboekjnibppdaaGreatDoorRq40
namespace Go.Rq
open Go Go.Proofs
def md28_4 : MemD := ⟨[.agg [.v (.int .i64 (.ofNat 1)), .u (BitVec.ofNat 64 0), .u (BitVec.ofNat 64 0), .u (BitVec.ofNat 64 0), .u (BitVec.ofNat 64 0), .u (BitVec.ofNat 64 0), .u (BitVec.ofNat 64 0), .u (BitVec.ofNat 64 0), .u (BitVec.ofNat 64 0), .u (BitVec.ofNat 64 0), .u (BitVec.ofNat 64 0), .u (BitVec.ofNat 64 0), .u (BitVec.ofNat 64 0), .v (.bool false), .u (BitVec.ofNat 64 680769), .u (BitVec.ofNat 64 739834), .v (.bool false)], .agg [.v (.int .i64 (.ofNat 1)), .u (BitVec.ofNat 64 0), .u (BitVec.ofNat 64 0), .u (BitVec.ofNat 64 0), .u (BitVec.ofNat 64 0), .u (BitVec.ofNat 64 0), .u (BitVec.ofNat 64 0), .u (BitVec.ofNat 64 0), .u (BitVec.ofNat 64 0), .u (BitVec.ofNat 64 0), .u (BitVec.ofNat 64 0), .u (BitVec.ofNat 64 0), .u (BitVec.ofNat 64 0), .v (.bool false), .u (BitVec.ofNat 64 680769), .u (BitVec.ofNat 64 739834), .v (.bool false)], .agg [.v (.int .i64 (.ofNat 1)), .u (BitVec.ofNat 64 0), .u (BitVec.ofNat 64 0), .u (BitVec.ofNat 64 0), .u (BitVec.ofNat 64 0), .u (BitVec.ofNat 64 0), .u (BitVec.ofNat 64 0), .u (BitVec.ofNat 64 0), .u (BitVec.ofNat 64 0), .u (BitVec.ofNat 64 0), .u (BitVec.ofNat 64 0), .u (BitVec.ofNat 64 0), .u (BitVec.ofNat 64 0), .v (.bool false), .u (BitVec.ofNat 64 594312), .u (BitVec.ofNat 64 255989), .v (.bool false), .u (BitVec.ofNat 64 62348), .u (BitVec.ofNat 64 0), .u (BitVec.ofNat 64 0), .u (BitVec.ofNat 64 0), .u (BitVec.ofNat 64 0), .u (BitVec.ofNat 64 0)], .own 0 1 0 2], [(0, some ⟨false, 5, [.v (.int .u8 0), .v (.int .u8 2)]⟩)], .tup [.v (.bool true), .v (.int .i64 (.ofNat 0))]⟩
set_option maxRecDepth 1000000 in
theorem mf28_4 : outC2 (outC (crunF PR e28 6 2000 28 md28_4.as md28_4.h md28_4.h.length)) = some md28_4.r := by kernel_rfl
end Go.Rq

/- A closed law's functions, each gone through where it is called. Written by a program of ours. -/
namespace Go.Rq
open Go Go.Proofs

def mt28 : List MemD := [md28_0, md28_1, md28_2, md28_3, md28_4]
theorem mt28_ok : MemOk PR e28 6 2000 28 mt28 := (MemOk.cons mf28_0 (MemOk.cons mf28_1 (MemOk.cons mf28_2 (MemOk.cons mf28_3 (MemOk.cons mf28_4 MemOk.nil)))))
noncomputable def g28 : List AV → AH → Nat → Option (Bool × AV × AH) := canG (memoD mt28 (deepC2 PR e28 6 2000 28 4096 true))
theorem g28_ok : ActOk PR 4096 28 g28 := memoD_ok cx28 rfl rfl mt28_ok (by kernel_rfl)

/-! (*reliquary/dkg.Session).none -/
noncomputable def e156 : Env := envD eqsT [] [] [] [] [] false []
theorem e156_ok : EnvOk PR e156 := envD_ok eqsT_ok TabPOk.nil TabHOk.nil TabLOk.nil TabDOk.nil
theorem cx156 : Ctx PR e156 [] (fun _ => none) 2000 156 := ctx_of e156_ok mixed (fn := Go.Proofs.Tryz.f156) (by kernel_rfl) (by kernel_rfl) (by kernel_rfl) (tabOk_none _)
theorem n156 : Enters PR 156 := enters_of (fn := Go.Proofs.Tryz.f156) (by kernel_rfl) (by kernel_rfl) (by kernel_rfl)
noncomputable def g156 : List AV → AH → Nat → Option (Bool × AV × AH) := deepC PR e156 4 2000 156 4096 true
theorem g156_ok : ActOk PR 4096 156 g156 := deepC_ok cx156 rfl rfl

/-! (*reliquary/dkg.Session).Faults -/
noncomputable def e86 : Env := envD eqsT [(125, g125)] [] [] [(156, g156)] [] false [156]
theorem e86_ok : EnvOk PR e86 := envD_ok eqsT_ok (TabPOk.cons g125_ok TabPOk.nil) TabHOk.nil TabLOk.nil (TabDOk.cons n156 g156_ok TabDOk.nil)
theorem cx86 : Ctx PR e86 [] (fun _ => none) 2000 86 := ctx_of e86_ok mixed (fn := Go.Proofs.Tryz.f86) (by kernel_rfl) (by kernel_rfl) (by kernel_rfl) (tabOk_none _)
theorem n86 : Enters PR 86 := enters_of (fn := Go.Proofs.Tryz.f86) (by kernel_rfl) (by kernel_rfl) (by kernel_rfl)
noncomputable def g86 : List AV → AH → Nat → Option (Bool × AV × AH) := deepC PR e86 4 2000 86 4096 true
theorem g86_ok : ActOk PR 4096 86 g86 := deepC_ok cx86 rfl rfl

/-! (*reliquary/dkg.Session).nodes -/
noncomputable def e152 : Env := envD eqsT [] [] [] [(156, g156), (220, g220)] [] false [156, 220]
theorem e152_ok : EnvOk PR e152 := envD_ok eqsT_ok TabPOk.nil TabHOk.nil TabLOk.nil (TabDOk.cons n156 g156_ok (TabDOk.cons n220 g220_ok TabDOk.nil))
theorem cx152 : Ctx PR e152 [] (fun _ => none) 2000 152 := ctx_of e152_ok mixed (fn := Go.Proofs.Tryz.f152) (by kernel_rfl) (by kernel_rfl) (by kernel_rfl) (tabOk_none _)
theorem n152 : Enters PR 152 := enters_of (fn := Go.Proofs.Tryz.f152) (by kernel_rfl) (by kernel_rfl) (by kernel_rfl)
noncomputable def g152 : List AV → AH → Nat → Option (Bool × AV × AH) := deepC PR e152 4 2000 152 4096 true
theorem g152_ok : ActOk PR 4096 152 g152 := deepC_ok cx152 rfl rfl

/-! (*reliquary/dkg.Session).Deal -/
noncomputable def e75 : Env := envD eqsT [] [] [] [(22, g22), (86, g86), (133, g133), (152, g152)] [] false [22, 86, 133, 152]
theorem e75_ok : EnvOk PR e75 := envD_ok eqsT_ok TabPOk.nil TabHOk.nil TabLOk.nil (TabDOk.cons n22 g22_ok (TabDOk.cons n86 g86_ok (TabDOk.cons n133 g133_ok (TabDOk.cons n152 g152_ok TabDOk.nil))))
theorem cx75 : Ctx PR e75 [] (fun _ => none) 2000 75 := ctx_of e75_ok mixed (fn := Go.Proofs.Tryz.f75) (by kernel_rfl) (by kernel_rfl) (by kernel_rfl) (tabOk_none _)
theorem n75 : Enters PR 75 := enters_of (fn := Go.Proofs.Tryz.f75) (by kernel_rfl) (by kernel_rfl) (by kernel_rfl)
noncomputable def g75 : List AV → AH → Nat → Option (Bool × AV × AH) := deepC PR e75 6 2000 75 4096 false
theorem g75_ok : ActOk PR 4096 75 g75 := deepC_ok cx75 rfl rfl

/-! (*reliquary/dkg.Session).Closed -/
noncomputable def e85 : Env := envD eqsT [] [] [] [(156, g156)] [] false [156]
theorem e85_ok : EnvOk PR e85 := envD_ok eqsT_ok TabPOk.nil TabHOk.nil TabLOk.nil (TabDOk.cons n156 g156_ok TabDOk.nil)
theorem cx85 : Ctx PR e85 [] (fun _ => none) 2000 85 := ctx_of e85_ok mixed (fn := Go.Proofs.Tryz.f85) (by kernel_rfl) (by kernel_rfl) (by kernel_rfl) (tabOk_none _)
theorem n85 : Enters PR 85 := enters_of (fn := Go.Proofs.Tryz.f85) (by kernel_rfl) (by kernel_rfl) (by kernel_rfl)
noncomputable def g85 : List AV → AH → Nat → Option (Bool × AV × AH) := deepC PR e85 4 2000 85 4096 true
theorem g85_ok : ActOk PR 4096 85 g85 := deepC_ok cx85 rfl rfl

/-! (*reliquary/refresh.Session).may -/
noncomputable def e150 : Env := envD eqsT [] [] [] [(22, g22), (85, g85), (147, g147)] [] false [22, 85, 147]
theorem e150_ok : EnvOk PR e150 := envD_ok eqsT_ok TabPOk.nil TabHOk.nil TabLOk.nil (TabDOk.cons n22 g22_ok (TabDOk.cons n85 g85_ok (TabDOk.cons n147 g147_ok TabDOk.nil)))
theorem cx150 : Ctx PR e150 [] (fun _ => none) 2000 150 := ctx_of e150_ok mixed (fn := Go.Proofs.Tryz.f150) (by kernel_rfl) (by kernel_rfl) (by kernel_rfl) (tabOk_none _)
theorem n150 : Enters PR 150 := enters_of (fn := Go.Proofs.Tryz.f150) (by kernel_rfl) (by kernel_rfl) (by kernel_rfl)
noncomputable def g150 : List AV → AH → Nat → Option (Bool × AV × AH) := deepC PR e150 6 2000 150 4096 true
theorem g150_ok : ActOk PR 4096 150 g150 := deepC_ok cx150 rfl rfl

/-! (*reliquary/refresh.Session).Deal -/
noncomputable def e68 : Env := envD eqsT [(24, (memoA bsT)), (101, g101)] [] [] [(28, g28), (75, g75), (133, g133), (148, g148), (149, g149), (150, g150)] [] false [28, 133, 148, 149, 150]
theorem e68_ok : EnvOk PR e68 := envD_ok eqsT_ok (TabPOk.cons bs_ok (TabPOk.cons g101_ok TabPOk.nil)) TabHOk.nil TabLOk.nil (TabDOk.cons n28 g28_ok (TabDOk.cons n75 g75_ok (TabDOk.cons n133 g133_ok (TabDOk.cons n148 g148_ok (TabDOk.cons n149 g149_ok (TabDOk.cons n150 g150_ok TabDOk.nil))))))
theorem cx68 : Ctx PR e68 [] (fun _ => none) 2000 68 := ctx_of e68_ok mixed (fn := Go.Proofs.Tryz.f68) (by kernel_rfl) (by kernel_rfl) (by kernel_rfl) (tabOk_none _)
theorem n68 : Enters PR 68 := enters_of (fn := Go.Proofs.Tryz.f68) (by kernel_rfl) (by kernel_rfl) (by kernel_rfl)
noncomputable def g68 : List AV → AH → Nat → Option (Bool × AV × AH) := deepC PR e68 7 2000 68 4096 false
theorem g68_ok : ActOk PR 4096 68 g68 := deepC_ok cx68 rfl rfl

/-! (reliquary/pledge.pledge).at -/
noncomputable def e100 : Env := envD eqsT [(16, (fn1 kU c6.agg ofW)), (25, g25), (99, g99)] [] [] [] [] false []
theorem e100_ok : EnvOk PR e100 := envD_ok eqsT_ok (TabPOk.cons of_ok (TabPOk.cons g25_ok (TabPOk.cons g99_ok TabPOk.nil))) TabHOk.nil TabLOk.nil TabDOk.nil
theorem cx100 : Ctx PR e100 [] (fun _ => none) 2000 100 := ctx_of e100_ok mixed (fn := Go.Proofs.Tryz.f100) (by kernel_rfl) (by kernel_rfl) (by kernel_rfl) (tabOk_none _)
theorem n100 : Enters PR 100 := enters_of (fn := Go.Proofs.Tryz.f100) (by kernel_rfl) (by kernel_rfl) (by kernel_rfl)
noncomputable def g100 : List AV → AH → Nat → Option (Bool × AV × AH) := deepC PR e100 6 2000 100 4096 true
theorem g100_ok : ActOk PR 4096 100 g100 := deepC_ok cx100 rfl rfl

/-! reliquary/pledge.At -/
noncomputable def e18 : Env := envD eqsT [] [] [] [(22, g22), (100, g100)] [] false [22, 100]
theorem e18_ok : EnvOk PR e18 := envD_ok eqsT_ok TabPOk.nil TabHOk.nil TabLOk.nil (TabDOk.cons n22 g22_ok (TabDOk.cons n100 g100_ok TabDOk.nil))
theorem cx18 : Ctx PR e18 [] (fun _ => none) 2000 18 := ctx_of e18_ok mixed (fn := Go.Proofs.Tryz.f18) (by kernel_rfl) (by kernel_rfl) (by kernel_rfl) (tabOk_none _)
theorem n18 : Enters PR 18 := enters_of (fn := Go.Proofs.Tryz.f18) (by kernel_rfl) (by kernel_rfl) (by kernel_rfl)
end Go.Rq
