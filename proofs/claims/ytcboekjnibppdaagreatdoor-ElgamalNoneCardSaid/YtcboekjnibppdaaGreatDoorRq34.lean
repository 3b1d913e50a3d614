/- A closed law's functions, each gone through where it is called. Written by a program of ours. -/
import Derived.Test.YtcboekjnibppdaaGreatDoorRq32
import Derived.Test.YtcboekjnibppdaaGreatDoorRq33
namespace Go.Rq
open Go Go.Proofs
def md121_1 : List AV × AV := ([.v (.int .i64 (.ofNat 1)), .agg [.u (BitVec.ofNat 64 65519), .u (BitVec.ofNat 64 0), .u (BitVec.ofNat 64 0), .u (BitVec.ofNat 64 0), .u (BitVec.ofNat 64 0), .u (BitVec.ofNat 64 0)]], .tup [.agg [.u (BitVec.ofNat 64 32760), .u (BitVec.ofNat 64 0), .u (BitVec.ofNat 64 0), .u (BitVec.ofNat 64 0), .u (BitVec.ofNat 64 0), .u (BitVec.ofNat 64 0)], .v (.int .i64 (.ofNat 0))])
set_option maxRecDepth 1000000 in
theorem mf121_1 : canQ (inlineC PR e121 5 2000 121) md121_1.1 = some (true, md121_1.2) := by kernel_rfl
end Go.Rq

/- A closed law's functions, each gone through where it is called. Written by a program of ours. -/
namespace Go.Rq
open Go Go.Proofs

def mt121 : List (List AV × AV) := [md121_0, md121_1]
theorem mt121_ok : ∀ p ∈ mt121, canQ (inlineC PR e121 5 2000 121) p.1 = some (true, p.2) := fun p hp => by
  rcases List.mem_cons.1 hp with rfl | hp
  · exact mf121_0
  rcases List.mem_cons.1 hp with rfl | hp
  · exact mf121_1
  cases hp
noncomputable def g121 : List AV → Option (Bool × AV) := canP (memoE (canQ (inlineC PR e121 5 2000 121)) mt121)
theorem g121_ok : CallOk PR 121 g121 := canP_ok (memoE_ok (canQ_ok (.inl ⟨n121, inlineC_ok cx121 rfl rfl⟩)) mt121_ok)

/-! (reliquary/share.field).inv -/
noncomputable def e307 : Env := envD eqsT [(121, g121)] [] [] [] [9] false []
theorem e307_ok : EnvOk PR e307 := envD_ok eqsT_ok (TabPOk.cons g121_ok TabPOk.nil) TabHOk.nil TabLOk.nil TabDOk.nil
theorem cx307 : Ctx PR e307 [] (fun _ => none) 2000 307 := ctx_of e307_ok mixed (fn := Go.Proofs.Tryz.f307) (by kernel_rfl) (by kernel_rfl) (by kernel_rfl) (tabOk_none _)
theorem n307 : Enters PR 307 := enters_of (fn := Go.Proofs.Tryz.f307) (by kernel_rfl) (by kernel_rfl) (by kernel_rfl)
noncomputable def g307 : List AV → Option (Bool × AV) := (inlineC PR e307 4 2000 307)
theorem g307_ok : CallOk PR 307 g307 := (.inl ⟨n307, inlineC_ok cx307 rfl rfl⟩)

/-! (reliquary/share.field).lagrange -/
noncomputable def e262 : Env := envD eqsT [(16, (fn1 kU c6.agg ofW)), (208, g208), (264, g264), (306, g306), (307, g307)] [] [] [] [9] false []
theorem e262_ok : EnvOk PR e262 := envD_ok eqsT_ok (TabPOk.cons of_ok (TabPOk.cons g208_ok (TabPOk.cons g264_ok (TabPOk.cons g306_ok (TabPOk.cons g307_ok TabPOk.nil))))) TabHOk.nil TabLOk.nil TabDOk.nil
theorem cx262 : Ctx PR e262 [] (fun _ => none) 2000 262 := ctx_of e262_ok mixed (fn := Go.Proofs.Tryz.f262) (by kernel_rfl) (by kernel_rfl) (by kernel_rfl) (tabOk_none _)
theorem n262 : Enters PR 262 := enters_of (fn := Go.Proofs.Tryz.f262) (by kernel_rfl) (by kernel_rfl) (by kernel_rfl)
noncomputable def g262 : List AV → AH → Nat → Option (Bool × AV × AH) := deepC PR e262 6 2000 262 4096 true
theorem g262_ok : ActOk PR 4096 262 g262 := deepC_ok cx262 rfl rfl

/-! reliquary/share.JoinKeys$1 -/
noncomputable def e211 : Env := envD eqsT [] [] [] [] [9] false []
theorem e211_ok : EnvOk PR e211 := envD_ok eqsT_ok TabPOk.nil TabHOk.nil TabLOk.nil TabDOk.nil
theorem cx211 : Ctx PR e211 [] (fun _ => none) 2000 211 := ctx_of e211_ok mixed (fn := Go.Proofs.Tryz.f211) (by kernel_rfl) (by kernel_rfl) (by kernel_rfl) (tabOk_none _)
theorem n211 : Enters PR 211 := enters_of (fn := Go.Proofs.Tryz.f211) (by kernel_rfl) (by kernel_rfl) (by kernel_rfl)
noncomputable def g211 : List AV → Option (Bool × AV) := (inlineC PR e211 3 2000 211)
theorem g211_ok : CallOk PR 211 g211 := (.inl ⟨n211, inlineC_ok cx211 rfl rfl⟩)

/-! reliquary/share.joined[reliquary/api.Key]$1 -/
noncomputable def e268 : Env := envA eqsT [(211, g211)] [] [] [] [] [] true []
theorem e268_ok : EnvOk PR e268 := envA_ok eqsT_ok (TabPOk.cons g211_ok TabPOk.nil) TabHOk.nil TabLOk.nil TabAOk.nil
theorem cx268 : Ctx PR e268 [] (fun _ => none) 2000 268 := ctx_of e268_ok mixed (fn := Go.Proofs.Tryz.f268) (by kernel_rfl) (by kernel_rfl) (by kernel_rfl) (tabOk_none _)
theorem n268 : Enters PR 268 := enters_of (fn := Go.Proofs.Tryz.f268) (by kernel_rfl) (by kernel_rfl) (by kernel_rfl)
noncomputable def g268 : List AV → AH → Nat → Option (Bool × AV × AH) := deepC PR e268 4 2000 268 4096 true
theorem g268_ok : ActOk PR 4096 268 g268 := deepC_ok cx268 rfl rfl

/-! slices.IndexFunc[[]reliquary/api.Key,reliquary/api.Key] -/
noncomputable def e309 : Env := envD eqsT [] [] [] [(268, g268)] [9] false [268]
theorem e309_ok : EnvOk PR e309 := envD_ok eqsT_ok TabPOk.nil TabHOk.nil TabLOk.nil (TabDOk.cons n268 g268_ok TabDOk.nil)
theorem cx309 : Ctx PR e309 [] (fun _ => none) 2000 309 := ctx_of e309_ok mixed (fn := Go.Proofs.Tryz.f309) (by kernel_rfl) (by kernel_rfl) (by kernel_rfl) (tabOk_none _)
theorem n309 : Enters PR 309 := enters_of (fn := Go.Proofs.Tryz.f309) (by kernel_rfl) (by kernel_rfl) (by kernel_rfl)
noncomputable def g309 : List AV → AH → Nat → Option (Bool × AV × AH) := deepC PR e309 5 2000 309 4096 true
theorem g309_ok : ActOk PR 4096 309 g309 := deepC_ok cx309 rfl rfl

/-! slices.ContainsFunc[[]reliquary/api.Key,reliquary/api.Key] -/
noncomputable def e267 : Env := envD eqsT [] [] [] [(309, g309)] [9] false [309]
theorem e267_ok : EnvOk PR e267 := envD_ok eqsT_ok TabPOk.nil TabHOk.nil TabLOk.nil (TabDOk.cons n309 g309_ok TabDOk.nil)
theorem cx267 : Ctx PR e267 [] (fun _ => none) 2000 267 := ctx_of e267_ok mixed (fn := Go.Proofs.Tryz.f267) (by kernel_rfl) (by kernel_rfl) (by kernel_rfl) (tabOk_none _)
theorem n267 : Enters PR 267 := enters_of (fn := Go.Proofs.Tryz.f267) (by kernel_rfl) (by kernel_rfl) (by kernel_rfl)
noncomputable def g267 : List AV → AH → Nat → Option (Bool × AV × AH) := deepC PR e267 4 2000 267 4096 true
theorem g267_ok : ActOk PR 4096 267 g267 := deepC_ok cx267 rfl rfl

/-! reliquary/modulus.Base -/
noncomputable def e181 : Env := envD eqsT [] [] [] [] [9] false []
theorem e181_ok : EnvOk PR e181 := envD_ok eqsT_ok TabPOk.nil TabHOk.nil TabLOk.nil TabDOk.nil
theorem cx181 : Ctx PR e181 [] (fun _ => none) 2000 181 := ctx_of e181_ok mixed (fn := Go.Proofs.Tryz.f181) (by kernel_rfl) (by kernel_rfl) (by kernel_rfl) (tabOk_none _)
theorem n181 : Enters PR 181 := enters_of (fn := Go.Proofs.Tryz.f181) (by kernel_rfl) (by kernel_rfl) (by kernel_rfl)
noncomputable def g181 : List AV → Option (Bool × AV) := (inlineC PR e181 1 2000 181)
theorem g181_ok : CallOk PR 181 g181 := (.inl ⟨n181, inlineC_ok cx181 rfl rfl⟩)

/-! reliquary/curve.below -/
noncomputable def e275 : Env := envD eqsT [(98, (fn2 c6.agg c6.agg (kInt .i64) fun a b => chainV (cmpL a b) 0)), (181, g181)] [] [] [] [9] false []
theorem e275_ok : EnvOk PR e275 := envD_ok eqsT_ok (TabPOk.cons cmp_ok (TabPOk.cons g181_ok TabPOk.nil)) TabHOk.nil TabLOk.nil TabDOk.nil
theorem cx275 : Ctx PR e275 [] (fun _ => none) 2000 275 := ctx_of e275_ok mixed (fn := Go.Proofs.Tryz.f275) (by kernel_rfl) (by kernel_rfl) (by kernel_rfl) (tabOk_none _)
theorem n275 : Enters PR 275 := enters_of (fn := Go.Proofs.Tryz.f275) (by kernel_rfl) (by kernel_rfl) (by kernel_rfl)
noncomputable def g275 : List AV → Option (Bool × AV) := (inlineC PR e275 3 2000 275)
theorem g275_ok : CallOk PR 275 g275 := (.inl ⟨n275, inlineC_ok cx275 rfl rfl⟩)

/-! reliquary/curve.below1 -/
noncomputable def e226 : Env := envD eqsT [(275, g275)] [] [] [] [9] false []
theorem e226_ok : EnvOk PR e226 := envD_ok eqsT_ok (TabPOk.cons g275_ok TabPOk.nil) TabHOk.nil TabLOk.nil TabDOk.nil
theorem cx226 : Ctx PR e226 [] (fun _ => none) 2000 226 := ctx_of e226_ok mixed (fn := Go.Proofs.Tryz.f226) (by kernel_rfl) (by kernel_rfl) (by kernel_rfl) (tabOk_none _)
theorem n226 : Enters PR 226 := enters_of (fn := Go.Proofs.Tryz.f226) (by kernel_rfl) (by kernel_rfl) (by kernel_rfl)
noncomputable def g226 : List AV → Option (Bool × AV) := (inlineC PR e226 4 2000 226)
theorem g226_ok : CallOk PR 226 g226 := (.inl ⟨n226, inlineC_ok cx226 rfl rfl⟩)

/-! reliquary/mont.One -/
noncomputable def e280 : Env := envD eqsT [] [] [] [] [9] false []
theorem e280_ok : EnvOk PR e280 := envD_ok eqsT_ok TabPOk.nil TabHOk.nil TabLOk.nil TabDOk.nil
theorem cx280 : Ctx PR e280 [] (fun _ => none) 2000 280 := ctx_of e280_ok mixed (fn := Go.Proofs.Tryz.f280) (by kernel_rfl) (by kernel_rfl) (by kernel_rfl) (tabOk_none _)
theorem n280 : Enters PR 280 := enters_of (fn := Go.Proofs.Tryz.f280) (by kernel_rfl) (by kernel_rfl) (by kernel_rfl)
noncomputable def g280 : List AV → Option (Bool × AV) := (inlineC PR e280 1 2000 280)
theorem g280_ok : CallOk PR 280 g280 := (.inl ⟨n280, inlineC_ok cx280 rfl rfl⟩)

/-! reliquary/mont.prime -/
noncomputable def e316 : Env := envD eqsT [] [] [] [] [9] false []
theorem e316_ok : EnvOk PR e316 := envD_ok eqsT_ok TabPOk.nil TabHOk.nil TabLOk.nil TabDOk.nil
theorem cx316 : Ctx PR e316 [] (fun _ => none) 2000 316 := ctx_of e316_ok mixed (fn := Go.Proofs.Tryz.f316) (by kernel_rfl) (by kernel_rfl) (by kernel_rfl) (tabOk_none _)
theorem n316 : Enters PR 316 := enters_of (fn := Go.Proofs.Tryz.f316) (by kernel_rfl) (by kernel_rfl) (by kernel_rfl)
noncomputable def g316 : List AV → Option (Bool × AV) := (inlineC PR e316 1 2000 316)
theorem g316_ok : CallOk PR 316 g316 := (.inl ⟨n316, inlineC_ok cx316 rfl rfl⟩)

/-! reliquary/mont.less -/
noncomputable def e315 : Env := envD eqsT [(301, (fn3 kU kU kBit kUB sub64)), (316, g316)] [] [] [] [9] false []
theorem e315_ok : EnvOk PR e315 := envD_ok eqsT_ok (TabPOk.cons sub64_ok (TabPOk.cons g316_ok TabPOk.nil)) TabHOk.nil TabLOk.nil TabDOk.nil
theorem cx315 : Ctx PR e315 [] (fun _ => none) 2000 315 := ctx_of e315_ok mixed (fn := Go.Proofs.Tryz.f315) (by kernel_rfl) (by kernel_rfl) (by kernel_rfl) (tabOk_none _)
theorem n315 : Enters PR 315 := enters_of (fn := Go.Proofs.Tryz.f315) (by kernel_rfl) (by kernel_rfl) (by kernel_rfl)
noncomputable def g315 : List AV → Option (Bool × AV) := (inlineC PR e315 5 2000 315)
theorem g315_ok : CallOk PR 315 g315 := (.inl ⟨n315, inlineC_ok cx315 rfl rfl⟩)

/-! reliquary/mont.Mul -/
noncomputable def e278 : Env := envD eqsT [(287, (fn2 kU kU kUU mul64)), (288, (fn3 kU kU kBit kUB add64)), (315, g315), (316, g316)] [] [] [] [9] false []
theorem e278_ok : EnvOk PR e278 := envD_ok eqsT_ok (TabPOk.cons mul64_ok (TabPOk.cons add64_ok (TabPOk.cons g315_ok (TabPOk.cons g316_ok TabPOk.nil)))) TabHOk.nil TabLOk.nil TabDOk.nil
theorem cx278 : Ctx PR e278 [] (fun _ => none) 2000 278 := ctx_of e278_ok mixed (fn := Go.Proofs.Tryz.f278) (by kernel_rfl) (by kernel_rfl) (by kernel_rfl) (tabOk_none _)
theorem n278 : Enters PR 278 := enters_of (fn := Go.Proofs.Tryz.f278) (by kernel_rfl) (by kernel_rfl) (by kernel_rfl)
noncomputable def g278 : List AV → Option (Bool × AV) := (inlineC PR e278 8 2000 278)
theorem g278_ok : CallOk PR 278 g278 := (.inl ⟨n278, inlineC_ok cx278 rfl rfl⟩)

/-! reliquary/mont.wide -/
noncomputable def e318 : Env := envD eqsT [] [] [] [] [9] false []
theorem e318_ok : EnvOk PR e318 := envD_ok eqsT_ok TabPOk.nil TabHOk.nil TabLOk.nil TabDOk.nil
theorem cx318 : Ctx PR e318 [] (fun _ => none) 2000 318 := ctx_of e318_ok mixed (fn := Go.Proofs.Tryz.f318) (by kernel_rfl) (by kernel_rfl) (by kernel_rfl) (tabOk_none _)
theorem n318 : Enters PR 318 := enters_of (fn := Go.Proofs.Tryz.f318) (by kernel_rfl) (by kernel_rfl) (by kernel_rfl)
noncomputable def g318 : List AV → Option (Bool × AV) := (inlineC PR e318 1 2000 318)
theorem g318_ok : CallOk PR 318 g318 := (.inl ⟨n318, inlineC_ok cx318 rfl rfl⟩)

/-! reliquary/mont.To -/
noncomputable def e281 : Env := envD eqsT [(278, g278), (318, g318)] [] [] [] [9] false []
theorem e281_ok : EnvOk PR e281 := envD_ok eqsT_ok (TabPOk.cons g278_ok (TabPOk.cons g318_ok TabPOk.nil)) TabHOk.nil TabLOk.nil TabDOk.nil
theorem cx281 : Ctx PR e281 [] (fun _ => none) 2000 281 := ctx_of e281_ok mixed (fn := Go.Proofs.Tryz.f281) (by kernel_rfl) (by kernel_rfl) (by kernel_rfl) (tabOk_none _)
theorem n281 : Enters PR 281 := enters_of (fn := Go.Proofs.Tryz.f281) (by kernel_rfl) (by kernel_rfl) (by kernel_rfl)
noncomputable def g281 : List AV → Option (Bool × AV) := (inlineC PR e281 3 2000 281)
theorem g281_ok : CallOk PR 281 g281 := (.inl ⟨n281, inlineC_ok cx281 rfl rfl⟩)

/-! reliquary/mont.Add -/
noncomputable def e276 : Env := envD eqsT [(288, (fn3 kU kU kBit kUB add64)), (315, g315)] [] [] [] [9] false []
theorem e276_ok : EnvOk PR e276 := envD_ok eqsT_ok (TabPOk.cons add64_ok (TabPOk.cons g315_ok TabPOk.nil)) TabHOk.nil TabLOk.nil TabDOk.nil
theorem cx276 : Ctx PR e276 [] (fun _ => none) 2000 276 := ctx_of e276_ok mixed (fn := Go.Proofs.Tryz.f276) (by kernel_rfl) (by kernel_rfl) (by kernel_rfl) (tabOk_none _)
theorem n276 : Enters PR 276 := enters_of (fn := Go.Proofs.Tryz.f276) (by kernel_rfl) (by kernel_rfl) (by kernel_rfl)
noncomputable def g276 : List AV → Option (Bool × AV) := (inlineC PR e276 5 2000 276)
theorem g276_ok : CallOk PR 276 g276 := (.inl ⟨n276, inlineC_ok cx276 rfl rfl⟩)

/-! reliquary/mont.Sub -/
noncomputable def e277 : Env := envD eqsT [(288, (fn3 kU kU kBit kUB add64)), (301, (fn3 kU kU kBit kUB sub64)), (316, g316)] [] [] [] [9] false []
theorem e277_ok : EnvOk PR e277 := envD_ok eqsT_ok (TabPOk.cons add64_ok (TabPOk.cons sub64_ok (TabPOk.cons g316_ok TabPOk.nil))) TabHOk.nil TabLOk.nil TabDOk.nil
theorem cx277 : Ctx PR e277 [] (fun _ => none) 2000 277 := ctx_of e277_ok mixed (fn := Go.Proofs.Tryz.f277) (by kernel_rfl) (by kernel_rfl) (by kernel_rfl) (tabOk_none _)
theorem n277 : Enters PR 277 := enters_of (fn := Go.Proofs.Tryz.f277) (by kernel_rfl) (by kernel_rfl) (by kernel_rfl)
noncomputable def g277 : List AV → Option (Bool × AV) := (inlineC PR e277 6 2000 277)
theorem g277_ok : CallOk PR 277 g277 := (.inl ⟨n277, inlineC_ok cx277 rfl rfl⟩)

/-! reliquary/mont.Pow -/
noncomputable def e317 : Env := envD eqsT [(278, g278), (280, g280)] [] [] [] [9] false []
theorem e317_ok : EnvOk PR e317 := envD_ok eqsT_ok (TabPOk.cons g278_ok (TabPOk.cons g280_ok TabPOk.nil)) TabHOk.nil TabLOk.nil TabDOk.nil
theorem cx317 : Ctx PR e317 [] (fun _ => none) 2000 317 := ctx_of e317_ok mixed (fn := Go.Proofs.Tryz.f317) (by kernel_rfl) (by kernel_rfl) (by kernel_rfl) (tabOk_none _)
theorem n317 : Enters PR 317 := enters_of (fn := Go.Proofs.Tryz.f317) (by kernel_rfl) (by kernel_rfl) (by kernel_rfl)
noncomputable def g317 : List AV → Option (Bool × AV) := (inlineC PR e317 5 2000 317)
theorem g317_ok : CallOk PR 317 g317 := (.inl ⟨n317, inlineC_ok cx317 rfl rfl⟩)

/-! reliquary/mont.Inv -/
noncomputable def e279 : Env := envD eqsT [(317, g317)] [] [] [] [9] false []
theorem e279_ok : EnvOk PR e279 := envD_ok eqsT_ok (TabPOk.cons g317_ok TabPOk.nil) TabHOk.nil TabLOk.nil TabDOk.nil
theorem cx279 : Ctx PR e279 [] (fun _ => none) 2000 279 := ctx_of e279_ok mixed (fn := Go.Proofs.Tryz.f279) (by kernel_rfl) (by kernel_rfl) (by kernel_rfl) (tabOk_none _)
theorem n279 : Enters PR 279 := enters_of (fn := Go.Proofs.Tryz.f279) (by kernel_rfl) (by kernel_rfl) (by kernel_rfl)
noncomputable def g279 : List AV → Option (Bool × AV) := (inlineC PR e279 3 2000 279)
theorem g279_ok : CallOk PR 279 g279 := (.inl ⟨n279, inlineC_ok cx279 rfl rfl⟩)

/-! reliquary/curve.first -/
noncomputable def e227 : Env := envD eqsT [(16, (fn1 kU c6.agg ofW)), (280, g280), (281, g281)] [] [] [] [9] false []
theorem e227_ok : EnvOk PR e227 := envD_ok eqsT_ok (TabPOk.cons of_ok (TabPOk.cons g280_ok (TabPOk.cons g281_ok TabPOk.nil))) TabHOk.nil TabLOk.nil TabDOk.nil
theorem cx227 : Ctx PR e227 [] (fun _ => none) 2000 227 := ctx_of e227_ok mixed (fn := Go.Proofs.Tryz.f227) (by kernel_rfl) (by kernel_rfl) (by kernel_rfl) (tabOk_none _)
theorem n227 : Enters PR 227 := enters_of (fn := Go.Proofs.Tryz.f227) (by kernel_rfl) (by kernel_rfl) (by kernel_rfl)
noncomputable def g227 : List AV → AH → Nat → Option (Bool × AV × AH) := deepC PR e227 3 2000 227 4096 true
theorem g227_ok : ActOk PR 4096 227 g227 := deepC_ok cx227 rfl rfl

/-! (reliquary/curve.field[reliquary/mont.El]).on -/
noncomputable def e282 : Env := envA eqsT [(278, g278), (276, g276)] [] [] [] [] [] true []
theorem e282_ok : EnvOk PR e282 := envA_ok eqsT_ok (TabPOk.cons g278_ok (TabPOk.cons g276_ok TabPOk.nil)) TabHOk.nil TabLOk.nil TabAOk.nil
theorem cx282 : Ctx PR e282 [] (fun _ => none) 2000 282 := ctx_of e282_ok mixed (fn := Go.Proofs.Tryz.f282) (by kernel_rfl) (by kernel_rfl) (by kernel_rfl) (tabOk_none _)
theorem n282 : Enters PR 282 := enters_of (fn := Go.Proofs.Tryz.f282) (by kernel_rfl) (by kernel_rfl) (by kernel_rfl)
noncomputable def g282 : List AV → AH → Nat → Option (Bool × AV × AH) := deepC PR e282 6 2000 282 4096 true
theorem g282_ok : ActOk PR 4096 282 g282 := deepC_ok cx282 rfl rfl

/-! (reliquary/curve.field[reliquary/mont.El]).in -/
noncomputable def e228 : Env := envD eqsT [] [] [] [(282, g282)] [9] false [282]
theorem e228_ok : EnvOk PR e228 := envD_ok eqsT_ok TabPOk.nil TabHOk.nil TabLOk.nil (TabDOk.cons n282 g282_ok TabDOk.nil)
theorem cx228 : Ctx PR e228 [] (fun _ => none) 2000 228 := ctx_of e228_ok mixed (fn := Go.Proofs.Tryz.f228) (by kernel_rfl) (by kernel_rfl) (by kernel_rfl) (tabOk_none _)
theorem n228 : Enters PR 228 := enters_of (fn := Go.Proofs.Tryz.f228) (by kernel_rfl) (by kernel_rfl) (by kernel_rfl)
noncomputable def g228 : List AV → AH → Nat → Option (Bool × AV × AH) := deepC PR e228 5 2000 228 4096 true
theorem g228_ok : ActOk PR 4096 228 g228 := deepC_ok cx228 rfl rfl

/-! reliquary/curve.in1 -/
noncomputable def e229 : Env := envD eqsT [(281, g281)] [] [] [] [9] false []
theorem e229_ok : EnvOk PR e229 := envD_ok eqsT_ok (TabPOk.cons g281_ok TabPOk.nil) TabHOk.nil TabLOk.nil TabDOk.nil
theorem cx229 : Ctx PR e229 [] (fun _ => none) 2000 229 := ctx_of e229_ok mixed (fn := Go.Proofs.Tryz.f229) (by kernel_rfl) (by kernel_rfl) (by kernel_rfl) (tabOk_none _)
theorem n229 : Enters PR 229 := enters_of (fn := Go.Proofs.Tryz.f229) (by kernel_rfl) (by kernel_rfl) (by kernel_rfl)
noncomputable def g229 : List AV → Option (Bool × AV) := (inlineC PR e229 4 2000 229)
theorem g229_ok : CallOk PR 229 g229 := (.inl ⟨n229, inlineC_ok cx229 rfl rfl⟩)

/-! reliquary/curve.In1 -/
noncomputable def e168 : Env := envD eqsT [(226, g226), (229, g229)] [] [] [(227, g227), (228, g228)] [9] false [227, 228]
theorem e168_ok : EnvOk PR e168 := envD_ok eqsT_ok (TabPOk.cons g226_ok (TabPOk.cons g229_ok TabPOk.nil)) TabHOk.nil TabLOk.nil (TabDOk.cons n227 g227_ok (TabDOk.cons n228 g228_ok TabDOk.nil))
theorem cx168 : Ctx PR e168 [] (fun _ => none) 2000 168 := ctx_of e168_ok mixed (fn := Go.Proofs.Tryz.f168) (by kernel_rfl) (by kernel_rfl) (by kernel_rfl) (tabOk_none _)
theorem n168 : Enters PR 168 := enters_of (fn := Go.Proofs.Tryz.f168) (by kernel_rfl) (by kernel_rfl) (by kernel_rfl)
end Go.Rq
