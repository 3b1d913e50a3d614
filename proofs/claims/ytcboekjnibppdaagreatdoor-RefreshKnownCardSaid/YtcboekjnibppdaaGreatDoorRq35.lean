/- A closed law's functions, each gone through where it is called. Written by a program of ours. -/
import Derived.Test.YtcboekjnibppdaaGreatDoorRq34
namespace Go.Rq
open Go Go.Proofs
def md138_0 : MemD := ⟨[.own 0 1 0 2, .own 1 17 0 2, .v (.int .i64 (.ofNat 0))], [(0, some ⟨false, 3, [.v (.int .i64 (.ofNat 1)), .v (.int .i64 (.ofNat 2))]⟩), (1, some ⟨false, 37, [.v (.int .i64 (.ofNat 1)), .u (BitVec.ofNat 64 0), .u (BitVec.ofNat 64 0), .u (BitVec.ofNat 64 0), .u (BitVec.ofNat 64 0), .u (BitVec.ofNat 64 0), .u (BitVec.ofNat 64 0), .u (BitVec.ofNat 64 0), .u (BitVec.ofNat 64 0), .u (BitVec.ofNat 64 0), .u (BitVec.ofNat 64 0), .u (BitVec.ofNat 64 0), .u (BitVec.ofNat 64 0), .v (.bool false), .u (BitVec.ofNat 64 565298), .u (BitVec.ofNat 64 509300), .v (.bool false), .v (.int .i64 (.ofNat 1)), .u (BitVec.ofNat 64 0), .u (BitVec.ofNat 64 0), .u (BitVec.ofNat 64 0), .u (BitVec.ofNat 64 0), .u (BitVec.ofNat 64 0), .u (BitVec.ofNat 64 0), .u (BitVec.ofNat 64 0), .u (BitVec.ofNat 64 0), .u (BitVec.ofNat 64 0), .u (BitVec.ofNat 64 0), .u (BitVec.ofNat 64 0), .u (BitVec.ofNat 64 0), .v (.bool false), .u (BitVec.ofNat 64 204070), .u (BitVec.ofNat 64 437233), .v (.bool false)]⟩)], .tup [.agg [.v (.int .i64 (.ofNat 1)), .u (BitVec.ofNat 64 0), .u (BitVec.ofNat 64 0), .u (BitVec.ofNat 64 0), .u (BitVec.ofNat 64 0), .u (BitVec.ofNat 64 0), .u (BitVec.ofNat 64 0), .u (BitVec.ofNat 64 0), .u (BitVec.ofNat 64 0), .u (BitVec.ofNat 64 0), .u (BitVec.ofNat 64 0), .u (BitVec.ofNat 64 0), .u (BitVec.ofNat 64 0), .v (.bool false), .u (BitVec.ofNat 64 459524), .u (BitVec.ofNat 64 603534), .v (.bool false)], .v (.int .i64 (.ofNat 0))]⟩
set_option maxRecDepth 1000000 in
theorem mf138_0 : outC2 (outC (crunF PR e138 4 2000 138 md138_0.as md138_0.h md138_0.h.length)) = some md138_0.r := by kernel_rfl
def md138_1 : MemD := ⟨[.own 0 1 0 2, .own 1 17 0 2, .v (.int .i64 (.ofNat 3))], [(0, some ⟨false, 3, [.v (.int .i64 (.ofNat 1)), .v (.int .i64 (.ofNat 2))]⟩), (1, some ⟨false, 37, [.v (.int .i64 (.ofNat 1)), .u (BitVec.ofNat 64 0), .u (BitVec.ofNat 64 0), .u (BitVec.ofNat 64 0), .u (BitVec.ofNat 64 0), .u (BitVec.ofNat 64 0), .u (BitVec.ofNat 64 0), .u (BitVec.ofNat 64 0), .u (BitVec.ofNat 64 0), .u (BitVec.ofNat 64 0), .u (BitVec.ofNat 64 0), .u (BitVec.ofNat 64 0), .u (BitVec.ofNat 64 0), .v (.bool false), .u (BitVec.ofNat 64 565298), .u (BitVec.ofNat 64 509300), .v (.bool false), .v (.int .i64 (.ofNat 1)), .u (BitVec.ofNat 64 0), .u (BitVec.ofNat 64 0), .u (BitVec.ofNat 64 0), .u (BitVec.ofNat 64 0), .u (BitVec.ofNat 64 0), .u (BitVec.ofNat 64 0), .u (BitVec.ofNat 64 0), .u (BitVec.ofNat 64 0), .u (BitVec.ofNat 64 0), .u (BitVec.ofNat 64 0), .u (BitVec.ofNat 64 0), .u (BitVec.ofNat 64 0), .v (.bool false), .u (BitVec.ofNat 64 204070), .u (BitVec.ofNat 64 437233), .v (.bool false)]⟩)], .tup [.agg [.v (.int .i64 (.ofNat 1)), .u (BitVec.ofNat 64 0), .u (BitVec.ofNat 64 0), .u (BitVec.ofNat 64 0), .u (BitVec.ofNat 64 0), .u (BitVec.ofNat 64 0), .u (BitVec.ofNat 64 0), .u (BitVec.ofNat 64 0), .u (BitVec.ofNat 64 0), .u (BitVec.ofNat 64 0), .u (BitVec.ofNat 64 0), .u (BitVec.ofNat 64 0), .u (BitVec.ofNat 64 0), .v (.bool false), .u (BitVec.ofNat 64 672519), .u (BitVec.ofNat 64 432932), .v (.bool false)], .v (.int .i64 (.ofNat 0))]⟩
set_option maxRecDepth 1000000 in
theorem mf138_1 : outC2 (outC (crunF PR e138 4 2000 138 md138_1.as md138_1.h md138_1.h.length)) = some md138_1.r := by kernel_rfl
end Go.Rq

/- A closed law's functions, each gone through where it is called. Written by a program of ours. -/
namespace Go.Rq
open Go Go.Proofs

def mt138 : List MemD := [md138_0, md138_1]
theorem mt138_ok : MemOk PR e138 4 2000 138 mt138 := (MemOk.cons mf138_0 (MemOk.cons mf138_1 MemOk.nil))
noncomputable def g138 : List AV → AH → Nat → Option (Bool × AV × AH) := canG (memoD mt138 (deepC2 PR e138 4 2000 138 4096 true))
theorem g138_ok : ActOk PR 4096 138 g138 := memoD_ok cx138 rfl rfl mt138_ok (by kernel_rfl)

/-! (*reliquary/refresh.Session).joined -/
noncomputable def e146 : Env := envD eqsT [] [] [] [(138, g138)] [] false [138]
theorem e146_ok : EnvOk PR e146 := envD_ok eqsT_ok TabPOk.nil TabHOk.nil TabLOk.nil (TabDOk.cons n138 g138_ok TabDOk.nil)
theorem cx146 : Ctx PR e146 [] (fun _ => none) 2000 146 := ctx_of e146_ok mixed (fn := Go.Proofs.Tryz.f146) (by kernel_rfl) (by kernel_rfl) (by kernel_rfl) (tabOk_none _)
theorem n146 : Enters PR 146 := enters_of (fn := Go.Proofs.Tryz.f146) (by kernel_rfl) (by kernel_rfl) (by kernel_rfl)
noncomputable def g146 : List AV → AH → Nat → Option (Bool × AV × AH) := deepC PR e146 5 2000 146 4096 true
theorem g146_ok : ActOk PR 4096 146 g146 := deepC_ok cx146 rfl rfl

/-! (*reliquary/refresh.Session).Done -/
noncomputable def e61 : Env := envD eqsT [] [] [] [(145, g145), (146, g146)] [] false [145, 146]
theorem e61_ok : EnvOk PR e61 := envD_ok eqsT_ok TabPOk.nil TabHOk.nil TabLOk.nil (TabDOk.cons n145 g145_ok (TabDOk.cons n146 g146_ok TabDOk.nil))
theorem cx61 : Ctx PR e61 [] (fun _ => none) 2000 61 := ctx_of e61_ok mixed (fn := Go.Proofs.Tryz.f61) (by kernel_rfl) (by kernel_rfl) (by kernel_rfl) (tabOk_none _)
theorem n61 : Enters PR 61 := enters_of (fn := Go.Proofs.Tryz.f61) (by kernel_rfl) (by kernel_rfl) (by kernel_rfl)
noncomputable def g61 : List AV → AH → Nat → Option (Bool × AV × AH) := deepC PR e61 5 2000 61 4096 true
theorem g61_ok : ActOk PR 4096 61 g61 := deepC_ok cx61 rfl rfl

/-! reliquary/proof.checked -/
noncomputable def e114 : Env := envD eqsT [(34, g34), (98, (fn2 c6.agg c6.agg (kInt .i64) fun a b => chainV (cmpL a b) 0)), (101, g101)] [] [] [] [] false []
theorem e114_ok : EnvOk PR e114 := envD_ok eqsT_ok (TabPOk.cons g34_ok (TabPOk.cons cmp_ok (TabPOk.cons g101_ok TabPOk.nil))) TabHOk.nil TabLOk.nil TabDOk.nil
theorem cx114 : Ctx PR e114 [] (fun _ => none) 2000 114 := ctx_of e114_ok mixed (fn := Go.Proofs.Tryz.f114) (by kernel_rfl) (by kernel_rfl) (by kernel_rfl) (tabOk_none _)
theorem n114 : Enters PR 114 := enters_of (fn := Go.Proofs.Tryz.f114) (by kernel_rfl) (by kernel_rfl) (by kernel_rfl)
noncomputable def g114 : List AV → AH → Nat → Option (Bool × AV × AH) := deepC PR e114 6 2000 114 4096 true
theorem g114_ok : ActOk PR 4096 114 g114 := deepC_ok cx114 rfl rfl

/-! reliquary/proof.times -/
noncomputable def e115 : Env := envD eqsT [(25, g25)] [] [] [] [] false []
theorem e115_ok : EnvOk PR e115 := envD_ok eqsT_ok (TabPOk.cons g25_ok TabPOk.nil) TabHOk.nil TabLOk.nil TabDOk.nil
theorem cx115 : Ctx PR e115 [] (fun _ => none) 2000 115 := ctx_of e115_ok mixed (fn := Go.Proofs.Tryz.f115) (by kernel_rfl) (by kernel_rfl) (by kernel_rfl) (tabOk_none _)
theorem n115 : Enters PR 115 := enters_of (fn := Go.Proofs.Tryz.f115) (by kernel_rfl) (by kernel_rfl) (by kernel_rfl)
noncomputable def g115 : List AV → Option (Bool × AV) := (inlineC PR e115 4 2000 115)
theorem g115_ok : CallOk PR 115 g115 := (.inl ⟨n115, inlineC_ok cx115 rfl rfl⟩)

/-! reliquary/little.written -/
noncomputable def e300 : Env := envD eqsT [] [] [] [] [] false []
theorem e300_ok : EnvOk PR e300 := envD_ok eqsT_ok TabPOk.nil TabHOk.nil TabLOk.nil TabDOk.nil
theorem cx300 : Ctx PR e300 [] (fun _ => none) 2000 300 := ctx_of e300_ok mixed (fn := Go.Proofs.Tryz.f300) (by kernel_rfl) (by kernel_rfl) (by kernel_rfl) (tabOk_none _)
theorem n300 : Enters PR 300 := enters_of (fn := Go.Proofs.Tryz.f300) (by kernel_rfl) (by kernel_rfl) (by kernel_rfl)
noncomputable def g300 : List AV → Option (Bool × AV) := (inlineC PR e300 6 2000 300)
theorem g300_ok : CallOk PR 300 g300 := (.inl ⟨n300, inlineC_ok cx300 rfl rfl⟩)

/-! reliquary/little.Bytes -/
noncomputable def e252 : Env := envD eqsT [(300, g300)] [] [] [(187, g187)] [] false [187]
theorem e252_ok : EnvOk PR e252 := envD_ok eqsT_ok (TabPOk.cons g300_ok TabPOk.nil) TabHOk.nil TabLOk.nil (TabDOk.cons n187 g187_ok TabDOk.nil)
theorem cx252 : Ctx PR e252 [] (fun _ => none) 2000 252 := ctx_of e252_ok mixed (fn := Go.Proofs.Tryz.f252) (by kernel_rfl) (by kernel_rfl) (by kernel_rfl) (tabOk_none _)
theorem n252 : Enters PR 252 := enters_of (fn := Go.Proofs.Tryz.f252) (by kernel_rfl) (by kernel_rfl) (by kernel_rfl)
noncomputable def g252 : List AV → AH → Nat → Option (Bool × AV × AH) := deepC PR e252 5 2000 252 4096 true
theorem g252_ok : ActOk PR 4096 252 g252 := deepC_ok cx252 rfl rfl

/-! reliquary/suite.KeyBytes -/
noncomputable def e189 : Env := envD eqsT [(101, g101)] [] [] [(252, g252)] [] false [252]
theorem e189_ok : EnvOk PR e189 := envD_ok eqsT_ok (TabPOk.cons g101_ok TabPOk.nil) TabHOk.nil TabLOk.nil (TabDOk.cons n252 g252_ok TabDOk.nil)
theorem cx189 : Ctx PR e189 [] (fun _ => none) 2000 189 := ctx_of e189_ok mixed (fn := Go.Proofs.Tryz.f189) (by kernel_rfl) (by kernel_rfl) (by kernel_rfl) (tabOk_none _)
theorem n189 : Enters PR 189 := enters_of (fn := Go.Proofs.Tryz.f189) (by kernel_rfl) (by kernel_rfl) (by kernel_rfl)
noncomputable def g189 : List AV → AH → Nat → Option (Bool × AV × AH) := deepC PR e189 5 2000 189 4096 true
theorem g189_ok : ActOk PR 4096 189 g189 := deepC_ok cx189 rfl rfl

/-! reliquary/suite.text -/
noncomputable def e253 : Env := envD eqsT [(104, g104)] [] [] [(105, g105)] [] false [105]
theorem e253_ok : EnvOk PR e253 := envD_ok eqsT_ok (TabPOk.cons g104_ok TabPOk.nil) TabHOk.nil TabLOk.nil (TabDOk.cons n105 g105_ok TabDOk.nil)
theorem cx253 : Ctx PR e253 [] (fun _ => none) 2000 253 := ctx_of e253_ok mixed (fn := Go.Proofs.Tryz.f253) (by kernel_rfl) (by kernel_rfl) (by kernel_rfl) (tabOk_none _)
theorem n253 : Enters PR 253 := enters_of (fn := Go.Proofs.Tryz.f253) (by kernel_rfl) (by kernel_rfl) (by kernel_rfl)
noncomputable def g253 : List AV → AH → Nat → Option (Bool × AV × AH) := deepC PR e253 5 2000 253 4096 true
theorem g253_ok : ActOk PR 4096 253 g253 := deepC_ok cx253 rfl rfl

/-! reliquary/suite.HashNum -/
noncomputable def e190 : Env := envD eqsT [(123, g123)] [] [] [(107, g107), (253, g253)] [] false [107, 253]
theorem e190_ok : EnvOk PR e190 := envD_ok eqsT_ok (TabPOk.cons g123_ok TabPOk.nil) TabHOk.nil TabLOk.nil (TabDOk.cons n107 g107_ok (TabDOk.cons n253 g253_ok TabDOk.nil))
theorem cx190 : Ctx PR e190 [] (fun _ => none) 2000 190 := ctx_of e190_ok mixed (fn := Go.Proofs.Tryz.f190) (by kernel_rfl) (by kernel_rfl) (by kernel_rfl) (tabOk_none _)
theorem n190 : Enters PR 190 := enters_of (fn := Go.Proofs.Tryz.f190) (by kernel_rfl) (by kernel_rfl) (by kernel_rfl)
noncomputable def g190 : List AV → AH → Nat → Option (Bool × AV × AH) := deepC PR e190 5 2000 190 4096 true
theorem g190_ok : ActOk PR 4096 190 g190 := deepC_ok cx190 rfl rfl

/-! reliquary/proof.challenge -/
noncomputable def e116 : Env := envD eqsT [] [] [] [(189, g189), (190, g190)] [] false [189, 190]
theorem e116_ok : EnvOk PR e116 := envD_ok eqsT_ok TabPOk.nil TabHOk.nil TabLOk.nil (TabDOk.cons n189 g189_ok (TabDOk.cons n190 g190_ok TabDOk.nil))
theorem cx116 : Ctx PR e116 [] (fun _ => none) 2000 116 := ctx_of e116_ok mixed (fn := Go.Proofs.Tryz.f116) (by kernel_rfl) (by kernel_rfl) (by kernel_rfl) (tabOk_none _)
theorem n116 : Enters PR 116 := enters_of (fn := Go.Proofs.Tryz.f116) (by kernel_rfl) (by kernel_rfl) (by kernel_rfl)
noncomputable def g116 : List AV → AH → Nat → Option (Bool × AV × AH) := deepC PR e116 6 2000 116 4096 true
theorem g116_ok : ActOk PR 4096 116 g116 := deepC_ok cx116 rfl rfl

/-! reliquary/suite.Add -/
noncomputable def e191 : Env := envD eqsT [] [] [] [(194, g194)] [] false [194]
theorem e191_ok : EnvOk PR e191 := envD_ok eqsT_ok TabPOk.nil TabHOk.nil TabLOk.nil (TabDOk.cons n194 g194_ok TabDOk.nil)
theorem cx191 : Ctx PR e191 [] (fun _ => none) 2000 191 := ctx_of e191_ok mixed (fn := Go.Proofs.Tryz.f191) (by kernel_rfl) (by kernel_rfl) (by kernel_rfl) (tabOk_none _)
theorem n191 : Enters PR 191 := enters_of (fn := Go.Proofs.Tryz.f191) (by kernel_rfl) (by kernel_rfl) (by kernel_rfl)
noncomputable def g191 : List AV → Option (Bool × AV) := (inlineC PR e191 4 2000 191)
theorem g191_ok : CallOk PR 191 g191 := (.inl ⟨n191, inlineC_ok cx191 rfl rfl⟩)

/-! reliquary/proof.answer -/
noncomputable def e117 : Env := envD eqsT [(122, g122), (191, g191)] [] [] [] [] false []
theorem e117_ok : EnvOk PR e117 := envD_ok eqsT_ok (TabPOk.cons g122_ok (TabPOk.cons g191_ok TabPOk.nil)) TabHOk.nil TabLOk.nil TabDOk.nil
theorem cx117 : Ctx PR e117 [] (fun _ => none) 2000 117 := ctx_of e117_ok mixed (fn := Go.Proofs.Tryz.f117) (by kernel_rfl) (by kernel_rfl) (by kernel_rfl) (tabOk_none _)
theorem n117 : Enters PR 117 := enters_of (fn := Go.Proofs.Tryz.f117) (by kernel_rfl) (by kernel_rfl) (by kernel_rfl)
noncomputable def g117 : List AV → Option (Bool × AV) := (inlineC PR e117 5 2000 117)
theorem g117_ok : CallOk PR 117 g117 := (.inl ⟨n117, inlineC_ok cx117 rfl rfl⟩)

/-! reliquary/proof.Know -/
noncomputable def e26 : Env := envD eqsT [(115, g115), (117, g117)] [] [] [(114, g114), (116, g116)] [] false [114, 116]
theorem e26_ok : EnvOk PR e26 := envD_ok eqsT_ok (TabPOk.cons g115_ok (TabPOk.cons g117_ok TabPOk.nil)) TabHOk.nil TabLOk.nil (TabDOk.cons n114 g114_ok (TabDOk.cons n116 g116_ok TabDOk.nil))
theorem cx26 : Ctx PR e26 [] (fun _ => none) 2000 26 := ctx_of e26_ok mixed (fn := Go.Proofs.Tryz.f26) (by kernel_rfl) (by kernel_rfl) (by kernel_rfl) (tabOk_none _)
theorem n26 : Enters PR 26 := enters_of (fn := Go.Proofs.Tryz.f26) (by kernel_rfl) (by kernel_rfl) (by kernel_rfl)
end Go.Rq
