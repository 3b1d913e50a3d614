/- A closed law's functions, each gone through where it is called. Written by a program of ours. -/
import Derived.Test.YtcboekjnibppdaaGreatDoorRq42
namespace Go.Rq
open Go Go.Proofs
def md28_0 : MemD := ⟨[.agg [.v (.int .i64 (.ofNat 1)), .u (BitVec.ofNat 64 0), .u (BitVec.ofNat 64 0), .u (BitVec.ofNat 64 0), .u (BitVec.ofNat 64 0), .u (BitVec.ofNat 64 0), .u (BitVec.ofNat 64 0), .u (BitVec.ofNat 64 0), .u (BitVec.ofNat 64 0), .u (BitVec.ofNat 64 0), .u (BitVec.ofNat 64 0), .u (BitVec.ofNat 64 0), .u (BitVec.ofNat 64 0), .v (.bool false), .u (BitVec.ofNat 64 680769), .u (BitVec.ofNat 64 739834), .v (.bool false)], .agg [.v (.int .i64 (.ofNat 1)), .u (BitVec.ofNat 64 0), .u (BitVec.ofNat 64 0), .u (BitVec.ofNat 64 0), .u (BitVec.ofNat 64 0), .u (BitVec.ofNat 64 0), .u (BitVec.ofNat 64 0), .u (BitVec.ofNat 64 0), .u (BitVec.ofNat 64 0), .u (BitVec.ofNat 64 0), .u (BitVec.ofNat 64 0), .u (BitVec.ofNat 64 0), .u (BitVec.ofNat 64 0), .v (.bool false), .u (BitVec.ofNat 64 356054), .u (BitVec.ofNat 64 760697), .v (.bool false)], .agg [.v (.int .i64 (.ofNat 1)), .u (BitVec.ofNat 64 0), .u (BitVec.ofNat 64 0), .u (BitVec.ofNat 64 0), .u (BitVec.ofNat 64 0), .u (BitVec.ofNat 64 0), .u (BitVec.ofNat 64 0), .u (BitVec.ofNat 64 0), .u (BitVec.ofNat 64 0), .u (BitVec.ofNat 64 0), .u (BitVec.ofNat 64 0), .u (BitVec.ofNat 64 0), .u (BitVec.ofNat 64 0), .v (.bool false), .u (BitVec.ofNat 64 594312), .u (BitVec.ofNat 64 255989), .v (.bool false), .u (BitVec.ofNat 64 14640), .u (BitVec.ofNat 64 0), .u (BitVec.ofNat 64 0), .u (BitVec.ofNat 64 0), .u (BitVec.ofNat 64 0), .u (BitVec.ofNat 64 0)], .own 0 1 0 1], [(0, some ⟨false, 5, [.v (.int .u8 3)]⟩)], .tup [.v (.bool true), .v (.int .i64 (.ofNat 0))]⟩
set_option maxRecDepth 1000000 in
theorem mf28_0 : outC2 (outC (crunF PR e28 6 2000 28 md28_0.as md28_0.h md28_0.h.length)) = some md28_0.r := by kernel_rfl
def md28_1 : MemD := ⟨[.agg [.v (.int .i64 (.ofNat 1)), .u (BitVec.ofNat 64 0), .u (BitVec.ofNat 64 0), .u (BitVec.ofNat 64 0), .u (BitVec.ofNat 64 0), .u (BitVec.ofNat 64 0), .u (BitVec.ofNat 64 0), .u (BitVec.ofNat 64 0), .u (BitVec.ofNat 64 0), .u (BitVec.ofNat 64 0), .u (BitVec.ofNat 64 0), .u (BitVec.ofNat 64 0), .u (BitVec.ofNat 64 0), .v (.bool false), .u (BitVec.ofNat 64 680769), .u (BitVec.ofNat 64 739834), .v (.bool false)], .agg [.v (.int .i64 (.ofNat 1)), .u (BitVec.ofNat 64 0), .u (BitVec.ofNat 64 0), .u (BitVec.ofNat 64 0), .u (BitVec.ofNat 64 0), .u (BitVec.ofNat 64 0), .u (BitVec.ofNat 64 0), .u (BitVec.ofNat 64 0), .u (BitVec.ofNat 64 0), .u (BitVec.ofNat 64 0), .u (BitVec.ofNat 64 0), .u (BitVec.ofNat 64 0), .u (BitVec.ofNat 64 0), .v (.bool false), .u (BitVec.ofNat 64 62469), .u (BitVec.ofNat 64 6668), .v (.bool false)], .agg [.v (.int .i64 (.ofNat 1)), .u (BitVec.ofNat 64 0), .u (BitVec.ofNat 64 0), .u (BitVec.ofNat 64 0), .u (BitVec.ofNat 64 0), .u (BitVec.ofNat 64 0), .u (BitVec.ofNat 64 0), .u (BitVec.ofNat 64 0), .u (BitVec.ofNat 64 0), .u (BitVec.ofNat 64 0), .u (BitVec.ofNat 64 0), .u (BitVec.ofNat 64 0), .u (BitVec.ofNat 64 0), .v (.bool false), .u (BitVec.ofNat 64 594312), .u (BitVec.ofNat 64 255989), .v (.bool false), .u (BitVec.ofNat 64 45570), .u (BitVec.ofNat 64 0), .u (BitVec.ofNat 64 0), .u (BitVec.ofNat 64 0), .u (BitVec.ofNat 64 0), .u (BitVec.ofNat 64 0)], .own 0 1 0 1], [(0, some ⟨false, 5, [.v (.int .u8 2)]⟩)], .tup [.v (.bool true), .v (.int .i64 (.ofNat 0))]⟩
set_option maxRecDepth 1000000 in
theorem mf28_1 : outC2 (outC (crunF PR e28 6 2000 28 md28_1.as md28_1.h md28_1.h.length)) = some md28_1.r := by kernel_rfl
end Go.Rq

/- A closed law's functions, each gone through where it is called. Written by a program of ours. -/
namespace Go.Rq
open Go Go.Proofs

def mt28 : List MemD := [md28_0, md28_1]
theorem mt28_ok : MemOk PR e28 6 2000 28 mt28 := (MemOk.cons mf28_0 (MemOk.cons mf28_1 MemOk.nil))
noncomputable def g28 : List AV → AH → Nat → Option (Bool × AV × AH) := canG (memoD mt28 (deepC2 PR e28 6 2000 28 4096 true))
theorem g28_ok : ActOk PR 4096 28 g28 := memoD_ok cx28 rfl rfl mt28_ok (by kernel_rfl)

/-! reliquary/little.Neg -/
noncomputable def e193 : Env := envD eqsT [(245, (fn3 kCv kU kU kU lSub))] [] [] [(187, g187)] [] false [187]
theorem e193_ok : EnvOk PR e193 := envD_ok eqsT_ok (TabPOk.cons ls_ok TabPOk.nil) TabHOk.nil TabLOk.nil (TabDOk.cons n187 g187_ok TabDOk.nil)
theorem cx193 : Ctx PR e193 [] (fun _ => none) 2000 193 := ctx_of e193_ok mixed (fn := Go.Proofs.Tryz.f193) (by kernel_rfl) (by kernel_rfl) (by kernel_rfl) (tabOk_none _)
theorem n193 : Enters PR 193 := enters_of (fn := Go.Proofs.Tryz.f193) (by kernel_rfl) (by kernel_rfl) (by kernel_rfl)
noncomputable def g193 : List AV → Option (Bool × AV) := (inlineC PR e193 5 2000 193)
theorem g193_ok : CallOk PR 193 g193 := (.inl ⟨n193, inlineC_ok cx193 rfl rfl⟩)

/-! reliquary/suite.KeyNeg -/
noncomputable def e119 : Env := envD eqsT [(193, g193)] [] [] [(111, g111)] [] false [111]
theorem e119_ok : EnvOk PR e119 := envD_ok eqsT_ok (TabPOk.cons g193_ok TabPOk.nil) TabHOk.nil TabLOk.nil (TabDOk.cons n111 g111_ok TabDOk.nil)
theorem cx119 : Ctx PR e119 [] (fun _ => none) 2000 119 := ctx_of e119_ok mixed (fn := Go.Proofs.Tryz.f119) (by kernel_rfl) (by kernel_rfl) (by kernel_rfl) (tabOk_none _)
theorem n119 : Enters PR 119 := enters_of (fn := Go.Proofs.Tryz.f119) (by kernel_rfl) (by kernel_rfl) (by kernel_rfl)
noncomputable def g119 : List AV → Option (Bool × AV) := (inlineC PR e119 6 2000 119)
theorem g119_ok : CallOk PR 119 g119 := (.inl ⟨n119, inlineC_ok cx119 rfl rfl⟩)

/-! slices.Index[[]int,int] -/
noncomputable def e212 : Env := envD eqsT [] [] [] [] [] false []
theorem e212_ok : EnvOk PR e212 := envD_ok eqsT_ok TabPOk.nil TabHOk.nil TabLOk.nil TabDOk.nil
theorem cx212 : Ctx PR e212 [] (fun _ => none) 2000 212 := ctx_of e212_ok mixed (fn := Go.Proofs.Tryz.f212) (by kernel_rfl) (by kernel_rfl) (by kernel_rfl) (tabOk_none _)
theorem n212 : Enters PR 212 := enters_of (fn := Go.Proofs.Tryz.f212) (by kernel_rfl) (by kernel_rfl) (by kernel_rfl)
noncomputable def g212 : List AV → AH → Nat → Option (Bool × AV × AH) := deepC PR e212 5 2000 212 4096 true
theorem g212_ok : ActOk PR 4096 212 g212 := deepC_ok cx212 rfl rfl

/-! slices.Contains[[]int,int] -/
noncomputable def e140 : Env := envD eqsT [] [] [] [(212, g212)] [] false [212]
theorem e140_ok : EnvOk PR e140 := envD_ok eqsT_ok TabPOk.nil TabHOk.nil TabLOk.nil (TabDOk.cons n212 g212_ok TabDOk.nil)
theorem cx140 : Ctx PR e140 [] (fun _ => none) 2000 140 := ctx_of e140_ok mixed (fn := Go.Proofs.Tryz.f140) (by kernel_rfl) (by kernel_rfl) (by kernel_rfl) (tabOk_none _)
theorem n140 : Enters PR 140 := enters_of (fn := Go.Proofs.Tryz.f140) (by kernel_rfl) (by kernel_rfl) (by kernel_rfl)
noncomputable def g140 : List AV → AH → Nat → Option (Bool × AV × AH) := deepC PR e140 4 2000 140 4096 true
theorem g140_ok : ActOk PR 4096 140 g140 := deepC_ok cx140 rfl rfl

/-! (*reliquary/dkg.Session).Extract -/
noncomputable def e72 : Env := envD eqsT [(24, (memoA bsT)), (99, g99), (101, g101), (119, g119)] [] [] [(18, g18), (28, g28), (140, g140), (152, g152), (153, g153), (154, g154), (155, g155)] [] false [18, 28, 140, 152, 153, 154, 155]
theorem e72_ok : EnvOk PR e72 := envD_ok eqsT_ok (TabPOk.cons bs_ok (TabPOk.cons g99_ok (TabPOk.cons g101_ok (TabPOk.cons g119_ok TabPOk.nil)))) TabHOk.nil TabLOk.nil (TabDOk.cons n18 g18_ok (TabDOk.cons n28 g28_ok (TabDOk.cons n140 g140_ok (TabDOk.cons n152 g152_ok (TabDOk.cons n153 g153_ok (TabDOk.cons n154 g154_ok (TabDOk.cons n155 g155_ok TabDOk.nil)))))))
theorem cx72 : Ctx PR e72 [] (fun _ => none) 2000 72 := ctx_of e72_ok mixed (fn := Go.Proofs.Tryz.f72) (by kernel_rfl) (by kernel_rfl) (by kernel_rfl) (tabOk_none _)
theorem n72 : Enters PR 72 := enters_of (fn := Go.Proofs.Tryz.f72) (by kernel_rfl) (by kernel_rfl) (by kernel_rfl)
noncomputable def g72 : List AV → AH → Nat → Option (Bool × AV × AH) := deepC PR e72 8 2000 72 4096 false
theorem g72_ok : ActOk PR 4096 72 g72 := deepC_ok cx72 rfl rfl

/-! (*reliquary/dkg.Session).PublicOf -/
noncomputable def e73 : Env := envD eqsT [] [] [] [(152, g152), (157, g157)] [] false [152, 157]
theorem e73_ok : EnvOk PR e73 := envD_ok eqsT_ok TabPOk.nil TabHOk.nil TabLOk.nil (TabDOk.cons n152 g152_ok (TabDOk.cons n157 g157_ok TabDOk.nil))
theorem cx73 : Ctx PR e73 [] (fun _ => none) 2000 73 := ctx_of e73_ok mixed (fn := Go.Proofs.Tryz.f73) (by kernel_rfl) (by kernel_rfl) (by kernel_rfl) (tabOk_none _)
theorem n73 : Enters PR 73 := enters_of (fn := Go.Proofs.Tryz.f73) (by kernel_rfl) (by kernel_rfl) (by kernel_rfl)
noncomputable def g73 : List AV → AH → Nat → Option (Bool × AV × AH) := deepC PR e73 5 2000 73 4096 true
theorem g73_ok : ActOk PR 4096 73 g73 := deepC_ok cx73 rfl rfl

/-! (*reliquary/dkg.Session).Open$1 -/
noncomputable def e161 : Env := envD eqsT [] [] [] [] [] false []
theorem e161_ok : EnvOk PR e161 := envD_ok eqsT_ok TabPOk.nil TabHOk.nil TabLOk.nil TabDOk.nil
theorem cx161 : Ctx PR e161 [] (fun _ => none) 2000 161 := ctx_of e161_ok mixed (fn := Go.Proofs.Tryz.f161) (by kernel_rfl) (by kernel_rfl) (by kernel_rfl) (tabOk_none _)
theorem n161 : Enters PR 161 := enters_of (fn := Go.Proofs.Tryz.f161) (by kernel_rfl) (by kernel_rfl) (by kernel_rfl)
noncomputable def g161 : List AV → AH → Nat → Option (Bool × AV × AH) := deepC PR e161 3 2000 161 4096 true
theorem g161_ok : ActOk PR 4096 161 g161 := deepC_ok cx161 rfl rfl

/-! slices.IndexFunc[[]reliquary/dkg.part,reliquary/dkg.part] -/
noncomputable def e223 : Env := envD eqsT [] [] [] [(161, g161)] [] false [161]
theorem e223_ok : EnvOk PR e223 := envD_ok eqsT_ok TabPOk.nil TabHOk.nil TabLOk.nil (TabDOk.cons n161 g161_ok TabDOk.nil)
theorem cx223 : Ctx PR e223 [] (fun _ => none) 2000 223 := ctx_of e223_ok mixed (fn := Go.Proofs.Tryz.f223) (by kernel_rfl) (by kernel_rfl) (by kernel_rfl) (tabOk_none _)
theorem n223 : Enters PR 223 := enters_of (fn := Go.Proofs.Tryz.f223) (by kernel_rfl) (by kernel_rfl) (by kernel_rfl)
noncomputable def g223 : List AV → AH → Nat → Option (Bool × AV × AH) := deepC PR e223 5 2000 223 4096 true
theorem g223_ok : ActOk PR 4096 223 g223 := deepC_ok cx223 rfl rfl

/-! slices.ContainsFunc[[]reliquary/dkg.part,reliquary/dkg.part] -/
noncomputable def e160 : Env := envD eqsT [] [] [] [(223, g223)] [] false [223]
theorem e160_ok : EnvOk PR e160 := envD_ok eqsT_ok TabPOk.nil TabHOk.nil TabLOk.nil (TabDOk.cons n223 g223_ok TabDOk.nil)
theorem cx160 : Ctx PR e160 [] (fun _ => none) 2000 160 := ctx_of e160_ok mixed (fn := Go.Proofs.Tryz.f160) (by kernel_rfl) (by kernel_rfl) (by kernel_rfl) (tabOk_none _)
theorem n160 : Enters PR 160 := enters_of (fn := Go.Proofs.Tryz.f160) (by kernel_rfl) (by kernel_rfl) (by kernel_rfl)
noncomputable def g160 : List AV → AH → Nat → Option (Bool × AV × AH) := deepC PR e160 4 2000 160 4096 true
theorem g160_ok : ActOk PR 4096 160 g160 := deepC_ok cx160 rfl rfl

/-! (*reliquary/dkg.Session).Open -/
noncomputable def e78 : Env := envD eqsT [] [] [] [(20, g20), (152, g152), (153, g153), (160, g160)] [] false [20, 152, 153, 160]
theorem e78_ok : EnvOk PR e78 := envD_ok eqsT_ok TabPOk.nil TabHOk.nil TabLOk.nil (TabDOk.cons n20 g20_ok (TabDOk.cons n152 g152_ok (TabDOk.cons n153 g153_ok (TabDOk.cons n160 g160_ok TabDOk.nil))))
theorem cx78 : Ctx PR e78 [] (fun _ => none) 2000 78 := ctx_of e78_ok mixed (fn := Go.Proofs.Tryz.f78) (by kernel_rfl) (by kernel_rfl) (by kernel_rfl) (tabOk_none _)
theorem n78 : Enters PR 78 := enters_of (fn := Go.Proofs.Tryz.f78) (by kernel_rfl) (by kernel_rfl) (by kernel_rfl)
noncomputable def g78 : List AV → AH → Nat → Option (Bool × AV × AH) := deepC PR e78 7 2000 78 4096 false
theorem g78_ok : ActOk PR 4096 78 g78 := deepC_ok cx78 rfl rfl

/-! slices.DeleteFunc[[]int,int] -/
noncomputable def e162 : Env := envD eqsT [] [] [] [(224, g224), (163, g163)] [] false [224, 163]
theorem e162_ok : EnvOk PR e162 := envD_ok eqsT_ok TabPOk.nil TabHOk.nil TabLOk.nil (TabDOk.cons n224 g224_ok (TabDOk.cons n163 g163_ok TabDOk.nil))
theorem cx162 : Ctx PR e162 [] (fun _ => none) 2000 162 := ctx_of e162_ok mixed (fn := Go.Proofs.Tryz.f162) (by kernel_rfl) (by kernel_rfl) (by kernel_rfl) (tabOk_none _)
theorem n162 : Enters PR 162 := enters_of (fn := Go.Proofs.Tryz.f162) (by kernel_rfl) (by kernel_rfl) (by kernel_rfl)
noncomputable def g162 : List AV → AH → Nat → Option (Bool × AV × AH) := deepC PR e162 6 2000 162 4096 false
theorem g162_ok : ActOk PR 4096 162 g162 := deepC_ok cx162 rfl rfl

/-! (*reliquary/dkg.Session).Accuse -/
noncomputable def e79 : Env := envD eqsT [] [] [] [(152, g152), (158, g158), (162, g162)] [] false [152, 158]
theorem e79_ok : EnvOk PR e79 := envD_ok eqsT_ok TabPOk.nil TabHOk.nil TabLOk.nil (TabDOk.cons n152 g152_ok (TabDOk.cons n158 g158_ok (TabDOk.cons n162 g162_ok TabDOk.nil)))
theorem cx79 : Ctx PR e79 [] (fun _ => none) 2000 79 := ctx_of e79_ok mixed (fn := Go.Proofs.Tryz.f79) (by kernel_rfl) (by kernel_rfl) (by kernel_rfl) (tabOk_none _)
theorem n79 : Enters PR 79 := enters_of (fn := Go.Proofs.Tryz.f79) (by kernel_rfl) (by kernel_rfl) (by kernel_rfl)
noncomputable def g79 : List AV → AH → Nat → Option (Bool × AV × AH) := deepC PR e79 6 2000 79 4096 false
theorem g79_ok : ActOk PR 4096 79 g79 := deepC_ok cx79 rfl rfl

/-! reliquary/share.known -/
noncomputable def e259 : Env := envD eqsT [(34, g34)] [] [] [] [] false []
theorem e259_ok : EnvOk PR e259 := envD_ok eqsT_ok (TabPOk.cons g34_ok TabPOk.nil) TabHOk.nil TabLOk.nil TabDOk.nil
theorem cx259 : Ctx PR e259 [] (fun _ => none) 2000 259 := ctx_of e259_ok mixed (fn := Go.Proofs.Tryz.f259) (by kernel_rfl) (by kernel_rfl) (by kernel_rfl) (tabOk_none _)
theorem n259 : Enters PR 259 := enters_of (fn := Go.Proofs.Tryz.f259) (by kernel_rfl) (by kernel_rfl) (by kernel_rfl)
noncomputable def g259 : List AV → Option (Bool × AV) := (inlineC PR e259 4 2000 259)
theorem g259_ok : CallOk PR 259 g259 := (.inl ⟨n259, inlineC_ok cx259 rfl rfl⟩)

/-! reliquary/share.scalars -/
noncomputable def e260 : Env := envD eqsT [(34, g34)] [] [] [(218, g218)] [] false [218]
theorem e260_ok : EnvOk PR e260 := envD_ok eqsT_ok (TabPOk.cons g34_ok TabPOk.nil) TabHOk.nil TabLOk.nil (TabDOk.cons n218 g218_ok TabDOk.nil)
theorem cx260 : Ctx PR e260 [] (fun _ => none) 2000 260 := ctx_of e260_ok mixed (fn := Go.Proofs.Tryz.f260) (by kernel_rfl) (by kernel_rfl) (by kernel_rfl) (tabOk_none _)
theorem n260 : Enters PR 260 := enters_of (fn := Go.Proofs.Tryz.f260) (by kernel_rfl) (by kernel_rfl) (by kernel_rfl)
noncomputable def g260 : List AV → AH → Nat → Option (Bool × AV × AH) := deepC PR e260 4 2000 260 4096 true
theorem g260_ok : ActOk PR 4096 260 g260 := deepC_ok cx260 rfl rfl

/-! reliquary/share.shares -/
noncomputable def e203 : Env := envD eqsT [(259, g259)] [] [] [(260, g260), (261, g261)] [] false [260, 261]
theorem e203_ok : EnvOk PR e203 := envD_ok eqsT_ok (TabPOk.cons g259_ok TabPOk.nil) TabHOk.nil TabLOk.nil (TabDOk.cons n260 g260_ok (TabDOk.cons n261 g261_ok TabDOk.nil))
theorem cx203 : Ctx PR e203 [] (fun _ => none) 2000 203 := ctx_of e203_ok mixed (fn := Go.Proofs.Tryz.f203) (by kernel_rfl) (by kernel_rfl) (by kernel_rfl) (tabOk_none _)
theorem n203 : Enters PR 203 := enters_of (fn := Go.Proofs.Tryz.f203) (by kernel_rfl) (by kernel_rfl) (by kernel_rfl)
noncomputable def g203 : List AV → AH → Nat → Option (Bool × AV × AH) := deepC PR e203 5 2000 203 4096 true
theorem g203_ok : ActOk PR 4096 203 g203 := deepC_ok cx203 rfl rfl

/-! (reliquary/share.field).add -/
noncomputable def e263 : Env := envD eqsT [(191, g191)] [] [] [] [] false []
theorem e263_ok : EnvOk PR e263 := envD_ok eqsT_ok (TabPOk.cons g191_ok TabPOk.nil) TabHOk.nil TabLOk.nil TabDOk.nil
theorem cx263 : Ctx PR e263 [] (fun _ => none) 2000 263 := ctx_of e263_ok mixed (fn := Go.Proofs.Tryz.f263) (by kernel_rfl) (by kernel_rfl) (by kernel_rfl) (tabOk_none _)
theorem n263 : Enters PR 263 := enters_of (fn := Go.Proofs.Tryz.f263) (by kernel_rfl) (by kernel_rfl) (by kernel_rfl)
noncomputable def g263 : List AV → Option (Bool × AV) := (inlineC PR e263 5 2000 263)
theorem g263_ok : CallOk PR 263 g263 := (.inl ⟨n263, inlineC_ok cx263 rfl rfl⟩)

/-! (reliquary/share.field).join -/
noncomputable def e204 : Env := envD eqsT [(263, g263), (264, g264)] [] [] [(262, g262)] [] false [262]
theorem e204_ok : EnvOk PR e204 := envD_ok eqsT_ok (TabPOk.cons g263_ok (TabPOk.cons g264_ok TabPOk.nil)) TabHOk.nil TabLOk.nil (TabDOk.cons n262 g262_ok TabDOk.nil)
theorem cx204 : Ctx PR e204 [] (fun _ => none) 2000 204 := ctx_of e204_ok mixed (fn := Go.Proofs.Tryz.f204) (by kernel_rfl) (by kernel_rfl) (by kernel_rfl) (tabOk_none _)
theorem n204 : Enters PR 204 := enters_of (fn := Go.Proofs.Tryz.f204) (by kernel_rfl) (by kernel_rfl) (by kernel_rfl)
noncomputable def g204 : List AV → AH → Nat → Option (Bool × AV × AH) := deepC PR e204 6 2000 204 4096 true
theorem g204_ok : ActOk PR 4096 204 g204 := deepC_ok cx204 rfl rfl

/-! reliquary/share.Join -/
noncomputable def e126 : Env := envD eqsT [] [] [] [(203, g203), (204, g204)] [] false [203, 204]
theorem e126_ok : EnvOk PR e126 := envD_ok eqsT_ok TabPOk.nil TabHOk.nil TabLOk.nil (TabDOk.cons n203 g203_ok (TabDOk.cons n204 g204_ok TabDOk.nil))
theorem cx126 : Ctx PR e126 [] (fun _ => none) 2000 126 := ctx_of e126_ok mixed (fn := Go.Proofs.Tryz.f126) (by kernel_rfl) (by kernel_rfl) (by kernel_rfl) (tabOk_none _)
theorem n126 : Enters PR 126 := enters_of (fn := Go.Proofs.Tryz.f126) (by kernel_rfl) (by kernel_rfl) (by kernel_rfl)
end Go.Rq
