/- A closed law's functions, each gone through where it is called. Written by a program of ours. -/
import Derived.Test.YtcboekjnibppdaaGreatDoorRq35
namespace Go.Rq
open Go Go.Proofs
def md138_0 : MemD := ⟨[.own 0 1 0 2, .own 1 17 0 2, .v (.int .i64 (.ofNat 0))], [(0, some ⟨false, 3, [.v (.int .i64 (.ofNat 1)), .v (.int .i64 (.ofNat 3))]⟩), (1, some ⟨false, 37, [.v (.int .i64 (.ofNat 1)), .u (BitVec.ofNat 64 0), .u (BitVec.ofNat 64 0), .u (BitVec.ofNat 64 0), .u (BitVec.ofNat 64 0), .u (BitVec.ofNat 64 0), .u (BitVec.ofNat 64 0), .u (BitVec.ofNat 64 0), .u (BitVec.ofNat 64 0), .u (BitVec.ofNat 64 0), .u (BitVec.ofNat 64 0), .u (BitVec.ofNat 64 0), .u (BitVec.ofNat 64 0), .v (.bool false), .u (BitVec.ofNat 64 130057), .u (BitVec.ofNat 64 19027), .v (.bool false), .v (.int .i64 (.ofNat 1)), .u (BitVec.ofNat 64 0), .u (BitVec.ofNat 64 0), .u (BitVec.ofNat 64 0), .u (BitVec.ofNat 64 0), .u (BitVec.ofNat 64 0), .u (BitVec.ofNat 64 0), .u (BitVec.ofNat 64 0), .u (BitVec.ofNat 64 0), .u (BitVec.ofNat 64 0), .u (BitVec.ofNat 64 0), .u (BitVec.ofNat 64 0), .u (BitVec.ofNat 64 0), .v (.bool false), .u (BitVec.ofNat 64 619533), .u (BitVec.ofNat 64 604678), .v (.bool false)]⟩)], .tup [.agg [.v (.int .i64 (.ofNat 1)), .u (BitVec.ofNat 64 0), .u (BitVec.ofNat 64 0), .u (BitVec.ofNat 64 0), .u (BitVec.ofNat 64 0), .u (BitVec.ofNat 64 0), .u (BitVec.ofNat 64 0), .u (BitVec.ofNat 64 0), .u (BitVec.ofNat 64 0), .u (BitVec.ofNat 64 0), .u (BitVec.ofNat 64 0), .u (BitVec.ofNat 64 0), .u (BitVec.ofNat 64 0), .v (.bool false), .u (BitVec.ofNat 64 140810), .u (BitVec.ofNat 64 235378), .v (.bool false)], .v (.int .i64 (.ofNat 0))]⟩
set_option maxRecDepth 1000000 in
theorem mf138_0 : outC2 (outC (crunF PR e138 4 2000 138 md138_0.as md138_0.h md138_0.h.length)) = some md138_0.r := by kernel_rfl
end Go.Rq

/- A closed law's functions, each gone through where it is called. Written by a program of ours. -/
namespace Go.Rq
open Go Go.Proofs

def mt138 : List MemD := [md138_0]
theorem mt138_ok : MemOk PR e138 4 2000 138 mt138 := (MemOk.cons mf138_0 MemOk.nil)
noncomputable def g138 : List AV → AH → Nat → Option (Bool × AV × AH) := canG (memoD mt138 (deepC2 PR e138 4 2000 138 4096 true))
theorem g138_ok : ActOk PR 4096 138 g138 := memoD_ok cx138 rfl rfl mt138_ok (by kernel_rfl)

/-! (*reliquary/elgamal.Session).Point -/
noncomputable def e49 : Env := envD eqsT [(125, g125)] [] [] [(137, g137), (138, g138)] [9] false [137, 138]
theorem e49_ok : EnvOk PR e49 := envD_ok eqsT_ok (TabPOk.cons g125_ok TabPOk.nil) TabHOk.nil TabLOk.nil (TabDOk.cons n137 g137_ok (TabDOk.cons n138 g138_ok TabDOk.nil))
theorem cx49 : Ctx PR e49 [] (fun _ => none) 2000 49 := ctx_of e49_ok mixed (fn := Go.Proofs.Tryz.f49) (by kernel_rfl) (by kernel_rfl) (by kernel_rfl) (tabOk_none _)
theorem n49 : Enters PR 49 := enters_of (fn := Go.Proofs.Tryz.f49) (by kernel_rfl) (by kernel_rfl) (by kernel_rfl)
noncomputable def g49 : List AV → AH → Nat → Option (Bool × AV × AH) := deepC PR e49 6 2000 49 4096 true
theorem g49_ok : ActOk PR 4096 49 g49 := deepC_ok cx49 rfl rfl

/-! reliquary/suite.Order -/
noncomputable def e34 : Env := envD eqsT [(104, g104), (123, g123)] [] [] [] [9] false []
theorem e34_ok : EnvOk PR e34 := envD_ok eqsT_ok (TabPOk.cons g104_ok (TabPOk.cons g123_ok TabPOk.nil)) TabHOk.nil TabLOk.nil TabDOk.nil
theorem cx34 : Ctx PR e34 [] (fun _ => none) 2000 34 := ctx_of e34_ok mixed (fn := Go.Proofs.Tryz.f34) (by kernel_rfl) (by kernel_rfl) (by kernel_rfl) (tabOk_none _)
theorem n34 : Enters PR 34 := enters_of (fn := Go.Proofs.Tryz.f34) (by kernel_rfl) (by kernel_rfl) (by kernel_rfl)
noncomputable def g34 : List AV → Option (Bool × AV) := (inlineC PR e34 4 2000 34)
theorem g34_ok : CallOk PR 34 g34 := (.inl ⟨n34, inlineC_ok cx34 rfl rfl⟩)

/-! reliquary/elgamal.checked -/
noncomputable def e139 : Env := envD eqsT [(34, g34), (98, (fn2 c6.agg c6.agg (kInt .i64) fun a b => chainV (cmpL a b) 0)), (101, g101)] [] [] [] [9] false []
theorem e139_ok : EnvOk PR e139 := envD_ok eqsT_ok (TabPOk.cons g34_ok (TabPOk.cons cmp_ok (TabPOk.cons g101_ok TabPOk.nil))) TabHOk.nil TabLOk.nil TabDOk.nil
theorem cx139 : Ctx PR e139 [] (fun _ => none) 2000 139 := ctx_of e139_ok mixed (fn := Go.Proofs.Tryz.f139) (by kernel_rfl) (by kernel_rfl) (by kernel_rfl) (tabOk_none _)
theorem n139 : Enters PR 139 := enters_of (fn := Go.Proofs.Tryz.f139) (by kernel_rfl) (by kernel_rfl) (by kernel_rfl)
noncomputable def g139 : List AV → AH → Nat → Option (Bool × AV × AH) := deepC PR e139 6 2000 139 4096 true
theorem g139_ok : ActOk PR 4096 139 g139 := deepC_ok cx139 rfl rfl

/-! reliquary/little.written -/
noncomputable def e300 : Env := envD eqsT [] [] [] [] [9] false []
theorem e300_ok : EnvOk PR e300 := envD_ok eqsT_ok TabPOk.nil TabHOk.nil TabLOk.nil TabDOk.nil
theorem cx300 : Ctx PR e300 [] (fun _ => none) 2000 300 := ctx_of e300_ok mixed (fn := Go.Proofs.Tryz.f300) (by kernel_rfl) (by kernel_rfl) (by kernel_rfl) (tabOk_none _)
theorem n300 : Enters PR 300 := enters_of (fn := Go.Proofs.Tryz.f300) (by kernel_rfl) (by kernel_rfl) (by kernel_rfl)
noncomputable def g300 : List AV → Option (Bool × AV) := (inlineC PR e300 6 2000 300)
theorem g300_ok : CallOk PR 300 g300 := (.inl ⟨n300, inlineC_ok cx300 rfl rfl⟩)

/-! reliquary/little.Bytes -/
noncomputable def e252 : Env := envD eqsT [(300, g300)] [] [] [(187, g187)] [9] false [187]
theorem e252_ok : EnvOk PR e252 := envD_ok eqsT_ok (TabPOk.cons g300_ok TabPOk.nil) TabHOk.nil TabLOk.nil (TabDOk.cons n187 g187_ok TabDOk.nil)
theorem cx252 : Ctx PR e252 [] (fun _ => none) 2000 252 := ctx_of e252_ok mixed (fn := Go.Proofs.Tryz.f252) (by kernel_rfl) (by kernel_rfl) (by kernel_rfl) (tabOk_none _)
theorem n252 : Enters PR 252 := enters_of (fn := Go.Proofs.Tryz.f252) (by kernel_rfl) (by kernel_rfl) (by kernel_rfl)
noncomputable def g252 : List AV → AH → Nat → Option (Bool × AV × AH) := deepC PR e252 5 2000 252 4096 true
theorem g252_ok : ActOk PR 4096 252 g252 := deepC_ok cx252 rfl rfl

/-! reliquary/suite.KeyBytes -/
noncomputable def e189 : Env := envD eqsT [(101, g101)] [] [] [(252, g252)] [9] false [252]
theorem e189_ok : EnvOk PR e189 := envD_ok eqsT_ok (TabPOk.cons g101_ok TabPOk.nil) TabHOk.nil TabLOk.nil (TabDOk.cons n252 g252_ok TabDOk.nil)
theorem cx189 : Ctx PR e189 [] (fun _ => none) 2000 189 := ctx_of e189_ok mixed (fn := Go.Proofs.Tryz.f189) (by kernel_rfl) (by kernel_rfl) (by kernel_rfl) (tabOk_none _)
theorem n189 : Enters PR 189 := enters_of (fn := Go.Proofs.Tryz.f189) (by kernel_rfl) (by kernel_rfl) (by kernel_rfl)
noncomputable def g189 : List AV → AH → Nat → Option (Bool × AV × AH) := deepC PR e189 5 2000 189 4096 true
theorem g189_ok : ActOk PR 4096 189 g189 := deepC_ok cx189 rfl rfl

/-! reliquary/digest.begin -/
noncomputable def e291 : Env := envD eqsT [] [] [] [] [9] false []
theorem e291_ok : EnvOk PR e291 := envD_ok eqsT_ok TabPOk.nil TabHOk.nil TabLOk.nil TabDOk.nil
theorem cx291 : Ctx PR e291 [] (fun _ => none) 2000 291 := ctx_of e291_ok mixed (fn := Go.Proofs.Tryz.f291) (by kernel_rfl) (by kernel_rfl) (by kernel_rfl) (tabOk_none _)
theorem n291 : Enters PR 291 := enters_of (fn := Go.Proofs.Tryz.f291) (by kernel_rfl) (by kernel_rfl) (by kernel_rfl)
noncomputable def g291 : List AV → Option (Bool × AV) := (inlineC PR e291 1 2000 291)
theorem g291_ok : CallOk PR 291 g291 := (.inl ⟨n291, inlineC_ok cx291 rfl rfl⟩)

/-! reliquary/digest.New -/
noncomputable def e237 : Env := envD eqsT [(291, g291)] [] [] [] [9] false []
theorem e237_ok : EnvOk PR e237 := envD_ok eqsT_ok (TabPOk.cons g291_ok TabPOk.nil) TabHOk.nil TabLOk.nil TabDOk.nil
theorem cx237 : Ctx PR e237 [] (fun _ => none) 2000 237 := ctx_of e237_ok mixed (fn := Go.Proofs.Tryz.f237) (by kernel_rfl) (by kernel_rfl) (by kernel_rfl) (tabOk_none _)
theorem n237 : Enters PR 237 := enters_of (fn := Go.Proofs.Tryz.f237) (by kernel_rfl) (by kernel_rfl) (by kernel_rfl)
noncomputable def g237 : List AV → AH → Nat → Option (Bool × AV × AH) := deepC PR e237 2 2000 237 4096 true
theorem g237_ok : ActOk PR 4096 237 g237 := deepC_ok cx237 rfl rfl

/-! (*reliquary/digest.Hash).none -/
noncomputable def e292 : Env := envD eqsT [] [] [] [] [9] false []
theorem e292_ok : EnvOk PR e292 := envD_ok eqsT_ok TabPOk.nil TabHOk.nil TabLOk.nil TabDOk.nil
theorem cx292 : Ctx PR e292 [] (fun _ => none) 2000 292 := ctx_of e292_ok mixed (fn := Go.Proofs.Tryz.f292) (by kernel_rfl) (by kernel_rfl) (by kernel_rfl) (tabOk_none _)
theorem n292 : Enters PR 292 := enters_of (fn := Go.Proofs.Tryz.f292) (by kernel_rfl) (by kernel_rfl) (by kernel_rfl)
noncomputable def g292 : List AV → AH → Nat → Option (Bool × AV × AH) := deepC PR e292 4 2000 292 4096 true
theorem g292_ok : ActOk PR 4096 292 g292 := deepC_ok cx292 rfl rfl

/-! (*reliquary/digest.Hash).Write -/
noncomputable def e238 : Env := envD eqsT [] [] [] [(292, g292), (293, bkN)] [9] false [292]
theorem e238_ok : EnvOk PR e238 := envD_ok eqsT_ok TabPOk.nil TabHOk.nil TabLOk.nil (TabDOk.cons n292 g292_ok (TabDOk.cons bk_ent bkN_ok TabDOk.nil))
theorem cx238 : Ctx PR e238 [] (fun _ => none) 2000 238 := ctx_of e238_ok mixed (fn := Go.Proofs.Tryz.f238) (by kernel_rfl) (by kernel_rfl) (by kernel_rfl) (tabOk_none _)
theorem n238 : Enters PR 238 := enters_of (fn := Go.Proofs.Tryz.f238) (by kernel_rfl) (by kernel_rfl) (by kernel_rfl)
noncomputable def g238 : List AV → AH → Nat → Option (Bool × AV × AH) := deepC PR e238 6 2000 238 4096 false
theorem g238_ok : ActOk PR 4096 238 g238 := deepC_ok cx238 rfl rfl

/-! (*reliquary/digest.Hash).Sum -/
noncomputable def e239 : Env := envD eqsT [] [] [] [(292, g292), (293, bkN)] [9] false [292]
theorem e239_ok : EnvOk PR e239 := envD_ok eqsT_ok TabPOk.nil TabHOk.nil TabLOk.nil (TabDOk.cons n292 g292_ok (TabDOk.cons bk_ent bkN_ok TabDOk.nil))
theorem cx239 : Ctx PR e239 [] (fun _ => none) 2000 239 := ctx_of e239_ok mixed (fn := Go.Proofs.Tryz.f239) (by kernel_rfl) (by kernel_rfl) (by kernel_rfl) (tabOk_none _)
theorem n239 : Enters PR 239 := enters_of (fn := Go.Proofs.Tryz.f239) (by kernel_rfl) (by kernel_rfl) (by kernel_rfl)
noncomputable def g239 : List AV → AH → Nat → Option (Bool × AV × AH) := deepC PR e239 7 2000 239 4096 true
theorem g239_ok : ActOk PR 4096 239 g239 := deepC_ok cx239 rfl rfl

/-! reliquary/mac.block -/
noncomputable def e310 : Env := envD eqsT [] [(177, sumV)] [] [] [9] false [177]
theorem e310_ok : EnvOk PR e310 := envD_ok eqsT_ok TabPOk.nil (TabHOk.cons dsum_ent dsum_ok TabHOk.nil) TabLOk.nil TabDOk.nil
theorem cx310 : Ctx PR e310 [] (fun _ => none) 2000 310 := ctx_of e310_ok mixed (fn := Go.Proofs.Tryz.f310) (by kernel_rfl) (by kernel_rfl) (by kernel_rfl) (tabOk_none _)
theorem n310 : Enters PR 310 := enters_of (fn := Go.Proofs.Tryz.f310) (by kernel_rfl) (by kernel_rfl) (by kernel_rfl)
noncomputable def g310 : List AV → AH → Nat → Option (Bool × AV × AH) := deepC PR e310 5 2000 310 4096 true
theorem g310_ok : ActOk PR 4096 310 g310 := deepC_ok cx310 rfl rfl

/-! reliquary/mac.Code -/
noncomputable def e269 : Env := envD eqsT [] [] [] [(237, g237), (238, g238), (239, g239), (310, g310)] [9] false [237, 239, 310]
theorem e269_ok : EnvOk PR e269 := envD_ok eqsT_ok TabPOk.nil TabHOk.nil TabLOk.nil (TabDOk.cons n237 g237_ok (TabDOk.cons n238 g238_ok (TabDOk.cons n239 g239_ok (TabDOk.cons n310 g310_ok TabDOk.nil))))
theorem cx269 : Ctx PR e269 [] (fun _ => none) 2000 269 := ctx_of e269_ok mixed (fn := Go.Proofs.Tryz.f269) (by kernel_rfl) (by kernel_rfl) (by kernel_rfl) (tabOk_none _)
theorem n269 : Enters PR 269 := enters_of (fn := Go.Proofs.Tryz.f269) (by kernel_rfl) (by kernel_rfl) (by kernel_rfl)
noncomputable def g269 : List AV → AH → Nat → Option (Bool × AV × AH) := deepC PR e269 5 2000 269 4096 true
theorem g269_ok : ActOk PR 4096 269 g269 := deepC_ok cx269 rfl rfl

/-! reliquary/mac.Extract -/
noncomputable def e213 : Env := envD eqsT [] [] [] [(269, g269)] [9] false [269]
theorem e213_ok : EnvOk PR e213 := envD_ok eqsT_ok TabPOk.nil TabHOk.nil TabLOk.nil (TabDOk.cons n269 g269_ok TabDOk.nil)
theorem cx213 : Ctx PR e213 [] (fun _ => none) 2000 213 := ctx_of e213_ok mixed (fn := Go.Proofs.Tryz.f213) (by kernel_rfl) (by kernel_rfl) (by kernel_rfl) (tabOk_none _)
theorem n213 : Enters PR 213 := enters_of (fn := Go.Proofs.Tryz.f213) (by kernel_rfl) (by kernel_rfl) (by kernel_rfl)
end Go.Rq
