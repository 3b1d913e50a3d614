/- A closed law's functions, each gone through where it is called. Written by a program of ours. -/
import Derived.Test.YtcboekjnibppdaaGreatDoorRq30
import Derived.Test.YtcboekjnibppdaaGreatDoorRq31
import Derived.Test.YtcboekjnibppdaaGreatDoorRq09
namespace Go.Rq
open Go Go.Proofs

/-! reliquary/little.Gen -/
noncomputable def e103 : Env := envD eqsT [(171, g171)] [] [] [] [9] false []
theorem e103_ok : EnvOk PR e103 := envD_ok eqsT_ok (TabPOk.cons g171_ok TabPOk.nil) TabHOk.nil TabLOk.nil TabDOk.nil
theorem cx103 : Ctx PR e103 [] (fun _ => none) 2000 103 := ctx_of e103_ok mixed (fn := Go.Proofs.Tryz.f103) (by kernel_rfl) (by kernel_rfl) (by kernel_rfl) (tabOk_none _)
theorem n103 : Enters PR 103 := enters_of (fn := Go.Proofs.Tryz.f103) (by kernel_rfl) (by kernel_rfl) (by kernel_rfl)
noncomputable def g103 : List AV → Option (Bool × AV) := (inlineC PR e103 4 2000 103)
theorem g103_ok : CallOk PR 103 g103 := (.inl ⟨n103, inlineC_ok cx103 rfl rfl⟩)

/-! reliquary/suite.Gen -/
noncomputable def e23 : Env := envD eqsT [(103, g103)] [] [] [] [9] false []
theorem e23_ok : EnvOk PR e23 := envD_ok eqsT_ok (TabPOk.cons g103_ok TabPOk.nil) TabHOk.nil TabLOk.nil TabDOk.nil
theorem cx23 : Ctx PR e23 [] (fun _ => none) 2000 23 := ctx_of e23_ok mixed (fn := Go.Proofs.Tryz.f23) (by kernel_rfl) (by kernel_rfl) (by kernel_rfl) (tabOk_none _)
theorem n23 : Enters PR 23 := enters_of (fn := Go.Proofs.Tryz.f23) (by kernel_rfl) (by kernel_rfl) (by kernel_rfl)
noncomputable def g23 : List AV → Option (Bool × AV) := (inlineC PR e23 5 2000 23)
theorem g23_ok : CallOk PR 23 g23 := (.inl ⟨n23, inlineC_ok cx23 rfl rfl⟩)

/-! reliquary/modulus.Base -/
noncomputable def e181 : Env := envD eqsT [] [] [] [] [9] false []
theorem e181_ok : EnvOk PR e181 := envD_ok eqsT_ok TabPOk.nil TabHOk.nil TabLOk.nil TabDOk.nil
theorem cx181 : Ctx PR e181 [] (fun _ => none) 2000 181 := ctx_of e181_ok mixed (fn := Go.Proofs.Tryz.f181) (by kernel_rfl) (by kernel_rfl) (by kernel_rfl) (tabOk_none _)
theorem n181 : Enters PR 181 := enters_of (fn := Go.Proofs.Tryz.f181) (by kernel_rfl) (by kernel_rfl) (by kernel_rfl)
noncomputable def g181 : List AV → Option (Bool × AV) := (inlineC PR e181 1 2000 181)
theorem g181_ok : CallOk PR 181 g181 := (.inl ⟨n181, inlineC_ok cx181 rfl rfl⟩)

/-! reliquary/curve.below -/
noncomputable def e275 : Env := envD eqsT [(98, (fn2 c6.agg c6.agg (kInt .i64) fun a b => chainV (cmpL a b) 0)), (181, g181)] [] [] [] [9] false []
theorem e275_ok : EnvOk PR e275 := envD_ok eqsT_ok (TabPOk.cons cmp_ok (TabPOk.cons g181_ok TabPOk.nil)) TabHOk.nil TabLOk.nil TabDOk.nil
theorem cx275 : Ctx PR e275 [] (fun _ => none) 2000 275 := ctx_of e275_ok mixed (fn := Go.Proofs.Tryz.f275) (by kernel_rfl) (by kernel_rfl) (by kernel_rfl) (tabOk_none _)
theorem n275 : Enters PR 275 := enters_of (fn := Go.Proofs.Tryz.f275) (by kernel_rfl) (by kernel_rfl) (by kernel_rfl)
noncomputable def g275 : List AV → Option (Bool × AV) := (inlineC PR e275 3 2000 275)
theorem g275_ok : CallOk PR 275 g275 := (.inl ⟨n275, inlineC_ok cx275 rfl rfl⟩)

/-! reliquary/curve.below1 -/
noncomputable def e226 : Env := envD eqsT [(275, g275)] [] [] [] [9] false []
theorem e226_ok : EnvOk PR e226 := envD_ok eqsT_ok (TabPOk.cons g275_ok TabPOk.nil) TabHOk.nil TabLOk.nil TabDOk.nil
theorem cx226 : Ctx PR e226 [] (fun _ => none) 2000 226 := ctx_of e226_ok mixed (fn := Go.Proofs.Tryz.f226) (by kernel_rfl) (by kernel_rfl) (by kernel_rfl) (tabOk_none _)
theorem n226 : Enters PR 226 := enters_of (fn := Go.Proofs.Tryz.f226) (by kernel_rfl) (by kernel_rfl) (by kernel_rfl)
noncomputable def g226 : List AV → Option (Bool × AV) := (inlineC PR e226 4 2000 226)
theorem g226_ok : CallOk PR 226 g226 := (.inl ⟨n226, inlineC_ok cx226 rfl rfl⟩)

/-! reliquary/mont.One -/
noncomputable def e280 : Env := envD eqsT [] [] [] [] [9] false []
theorem e280_ok : EnvOk PR e280 := envD_ok eqsT_ok TabPOk.nil TabHOk.nil TabLOk.nil TabDOk.nil
theorem cx280 : Ctx PR e280 [] (fun _ => none) 2000 280 := ctx_of e280_ok mixed (fn := Go.Proofs.Tryz.f280) (by kernel_rfl) (by kernel_rfl) (by kernel_rfl) (tabOk_none _)
theorem n280 : Enters PR 280 := enters_of (fn := Go.Proofs.Tryz.f280) (by kernel_rfl) (by kernel_rfl) (by kernel_rfl)
noncomputable def g280 : List AV → Option (Bool × AV) := (inlineC PR e280 1 2000 280)
theorem g280_ok : CallOk PR 280 g280 := (.inl ⟨n280, inlineC_ok cx280 rfl rfl⟩)

/-! reliquary/mont.prime -/
noncomputable def e316 : Env := envD eqsT [] [] [] [] [9] false []
theorem e316_ok : EnvOk PR e316 := envD_ok eqsT_ok TabPOk.nil TabHOk.nil TabLOk.nil TabDOk.nil
theorem cx316 : Ctx PR e316 [] (fun _ => none) 2000 316 := ctx_of e316_ok mixed (fn := Go.Proofs.Tryz.f316) (by kernel_rfl) (by kernel_rfl) (by kernel_rfl) (tabOk_none _)
theorem n316 : Enters PR 316 := enters_of (fn := Go.Proofs.Tryz.f316) (by kernel_rfl) (by kernel_rfl) (by kernel_rfl)
noncomputable def g316 : List AV → Option (Bool × AV) := (inlineC PR e316 1 2000 316)
theorem g316_ok : CallOk PR 316 g316 := (.inl ⟨n316, inlineC_ok cx316 rfl rfl⟩)

/-! reliquary/mont.less -/
noncomputable def e315 : Env := envD eqsT [(301, (fn3 kU kU kBit kUB sub64)), (316, g316)] [] [] [] [9] false []
theorem e315_ok : EnvOk PR e315 := envD_ok eqsT_ok (TabPOk.cons sub64_ok (TabPOk.cons g316_ok TabPOk.nil)) TabHOk.nil TabLOk.nil TabDOk.nil
theorem cx315 : Ctx PR e315 [] (fun _ => none) 2000 315 := ctx_of e315_ok mixed (fn := Go.Proofs.Tryz.f315) (by kernel_rfl) (by kernel_rfl) (by kernel_rfl) (tabOk_none _)
theorem n315 : Enters PR 315 := enters_of (fn := Go.Proofs.Tryz.f315) (by kernel_rfl) (by kernel_rfl) (by kernel_rfl)
noncomputable def g315 : List AV → Option (Bool × AV) := (inlineC PR e315 5 2000 315)
theorem g315_ok : CallOk PR 315 g315 := (.inl ⟨n315, inlineC_ok cx315 rfl rfl⟩)

/-! reliquary/mont.Mul -/
noncomputable def e278 : Env := envD eqsT [(287, (fn2 kU kU kUU mul64)), (288, (fn3 kU kU kBit kUB add64)), (315, g315), (316, g316)] [] [] [] [9] false []
theorem e278_ok : EnvOk PR e278 := envD_ok eqsT_ok (TabPOk.cons mul64_ok (TabPOk.cons add64_ok (TabPOk.cons g315_ok (TabPOk.cons g316_ok TabPOk.nil)))) TabHOk.nil TabLOk.nil TabDOk.nil
theorem cx278 : Ctx PR e278 [] (fun _ => none) 2000 278 := ctx_of e278_ok mixed (fn := Go.Proofs.Tryz.f278) (by kernel_rfl) (by kernel_rfl) (by kernel_rfl) (tabOk_none _)
theorem n278 : Enters PR 278 := enters_of (fn := Go.Proofs.Tryz.f278) (by kernel_rfl) (by kernel_rfl) (by kernel_rfl)
noncomputable def g278 : List AV → Option (Bool × AV) := (inlineC PR e278 8 2000 278)
theorem g278_ok : CallOk PR 278 g278 := (.inl ⟨n278, inlineC_ok cx278 rfl rfl⟩)

/-! reliquary/mont.wide -/
noncomputable def e318 : Env := envD eqsT [] [] [] [] [9] false []
theorem e318_ok : EnvOk PR e318 := envD_ok eqsT_ok TabPOk.nil TabHOk.nil TabLOk.nil TabDOk.nil
theorem cx318 : Ctx PR e318 [] (fun _ => none) 2000 318 := ctx_of e318_ok mixed (fn := Go.Proofs.Tryz.f318) (by kernel_rfl) (by kernel_rfl) (by kernel_rfl) (tabOk_none _)
theorem n318 : Enters PR 318 := enters_of (fn := Go.Proofs.Tryz.f318) (by kernel_rfl) (by kernel_rfl) (by kernel_rfl)
noncomputable def g318 : List AV → Option (Bool × AV) := (inlineC PR e318 1 2000 318)
theorem g318_ok : CallOk PR 318 g318 := (.inl ⟨n318, inlineC_ok cx318 rfl rfl⟩)

/-! reliquary/mont.To -/
noncomputable def e281 : Env := envD eqsT [(278, g278), (318, g318)] [] [] [] [9] false []
theorem e281_ok : EnvOk PR e281 := envD_ok eqsT_ok (TabPOk.cons g278_ok (TabPOk.cons g318_ok TabPOk.nil)) TabHOk.nil TabLOk.nil TabDOk.nil
theorem cx281 : Ctx PR e281 [] (fun _ => none) 2000 281 := ctx_of e281_ok mixed (fn := Go.Proofs.Tryz.f281) (by kernel_rfl) (by kernel_rfl) (by kernel_rfl) (tabOk_none _)
theorem n281 : Enters PR 281 := enters_of (fn := Go.Proofs.Tryz.f281) (by kernel_rfl) (by kernel_rfl) (by kernel_rfl)
noncomputable def g281 : List AV → Option (Bool × AV) := (inlineC PR e281 3 2000 281)
theorem g281_ok : CallOk PR 281 g281 := (.inl ⟨n281, inlineC_ok cx281 rfl rfl⟩)

/-! reliquary/mont.Add -/
noncomputable def e276 : Env := envD eqsT [(288, (fn3 kU kU kBit kUB add64)), (315, g315)] [] [] [] [9] false []
theorem e276_ok : EnvOk PR e276 := envD_ok eqsT_ok (TabPOk.cons add64_ok (TabPOk.cons g315_ok TabPOk.nil)) TabHOk.nil TabLOk.nil TabDOk.nil
theorem cx276 : Ctx PR e276 [] (fun _ => none) 2000 276 := ctx_of e276_ok mixed (fn := Go.Proofs.Tryz.f276) (by kernel_rfl) (by kernel_rfl) (by kernel_rfl) (tabOk_none _)
theorem n276 : Enters PR 276 := enters_of (fn := Go.Proofs.Tryz.f276) (by kernel_rfl) (by kernel_rfl) (by kernel_rfl)
noncomputable def g276 : List AV → Option (Bool × AV) := (inlineC PR e276 5 2000 276)
theorem g276_ok : CallOk PR 276 g276 := (.inl ⟨n276, inlineC_ok cx276 rfl rfl⟩)

/-! reliquary/mont.Sub -/
noncomputable def e277 : Env := envD eqsT [(288, (fn3 kU kU kBit kUB add64)), (301, (fn3 kU kU kBit kUB sub64)), (316, g316)] [] [] [] [9] false []
theorem e277_ok : EnvOk PR e277 := envD_ok eqsT_ok (TabPOk.cons add64_ok (TabPOk.cons sub64_ok (TabPOk.cons g316_ok TabPOk.nil))) TabHOk.nil TabLOk.nil TabDOk.nil
theorem cx277 : Ctx PR e277 [] (fun _ => none) 2000 277 := ctx_of e277_ok mixed (fn := Go.Proofs.Tryz.f277) (by kernel_rfl) (by kernel_rfl) (by kernel_rfl) (tabOk_none _)
theorem n277 : Enters PR 277 := enters_of (fn := Go.Proofs.Tryz.f277) (by kernel_rfl) (by kernel_rfl) (by kernel_rfl)
noncomputable def g277 : List AV → Option (Bool × AV) := (inlineC PR e277 6 2000 277)
theorem g277_ok : CallOk PR 277 g277 := (.inl ⟨n277, inlineC_ok cx277 rfl rfl⟩)

/-! reliquary/mont.Pow -/
noncomputable def e317 : Env := envD eqsT [(278, g278), (280, g280)] [] [] [] [9] false []
theorem e317_ok : EnvOk PR e317 := envD_ok eqsT_ok (TabPOk.cons g278_ok (TabPOk.cons g280_ok TabPOk.nil)) TabHOk.nil TabLOk.nil TabDOk.nil
theorem cx317 : Ctx PR e317 [] (fun _ => none) 2000 317 := ctx_of e317_ok mixed (fn := Go.Proofs.Tryz.f317) (by kernel_rfl) (by kernel_rfl) (by kernel_rfl) (tabOk_none _)
theorem n317 : Enters PR 317 := enters_of (fn := Go.Proofs.Tryz.f317) (by kernel_rfl) (by kernel_rfl) (by kernel_rfl)
noncomputable def g317 : List AV → Option (Bool × AV) := (inlineC PR e317 5 2000 317)
theorem g317_ok : CallOk PR 317 g317 := (.inl ⟨n317, inlineC_ok cx317 rfl rfl⟩)

/-! reliquary/mont.Inv -/
noncomputable def e279 : Env := envD eqsT [(317, g317)] [] [] [] [9] false []
theorem e279_ok : EnvOk PR e279 := envD_ok eqsT_ok (TabPOk.cons g317_ok TabPOk.nil) TabHOk.nil TabLOk.nil TabDOk.nil
theorem cx279 : Ctx PR e279 [] (fun _ => none) 2000 279 := ctx_of e279_ok mixed (fn := Go.Proofs.Tryz.f279) (by kernel_rfl) (by kernel_rfl) (by kernel_rfl) (tabOk_none _)
theorem n279 : Enters PR 279 := enters_of (fn := Go.Proofs.Tryz.f279) (by kernel_rfl) (by kernel_rfl) (by kernel_rfl)
noncomputable def g279 : List AV → Option (Bool × AV) := (inlineC PR e279 3 2000 279)
theorem g279_ok : CallOk PR 279 g279 := (.inl ⟨n279, inlineC_ok cx279 rfl rfl⟩)

/-! reliquary/curve.first -/
noncomputable def e227 : Env := envD eqsT [(16, (fn1 kU c6.agg ofW)), (280, g280), (281, g281)] [] [] [] [9] false []
theorem e227_ok : EnvOk PR e227 := envD_ok eqsT_ok (TabPOk.cons of_ok (TabPOk.cons g280_ok (TabPOk.cons g281_ok TabPOk.nil))) TabHOk.nil TabLOk.nil TabDOk.nil
theorem cx227 : Ctx PR e227 [] (fun _ => none) 2000 227 := ctx_of e227_ok mixed (fn := Go.Proofs.Tryz.f227) (by kernel_rfl) (by kernel_rfl) (by kernel_rfl) (tabOk_none _)
theorem n227 : Enters PR 227 := enters_of (fn := Go.Proofs.Tryz.f227) (by kernel_rfl) (by kernel_rfl) (by kernel_rfl)
noncomputable def g227 : List AV → AH → Nat → Option (Bool × AV × AH) := deepC PR e227 3 2000 227 4096 true
theorem g227_ok : ActOk PR 4096 227 g227 := deepC_ok cx227 rfl rfl

/-! (reliquary/curve.field[reliquary/mont.El]).on -/
noncomputable def e282 : Env := envA eqsT [(278, g278), (276, g276)] [] [] [] [] [] true []
theorem e282_ok : EnvOk PR e282 := envA_ok eqsT_ok (TabPOk.cons g278_ok (TabPOk.cons g276_ok TabPOk.nil)) TabHOk.nil TabLOk.nil TabAOk.nil
theorem cx282 : Ctx PR e282 [] (fun _ => none) 2000 282 := ctx_of e282_ok mixed (fn := Go.Proofs.Tryz.f282) (by kernel_rfl) (by kernel_rfl) (by kernel_rfl) (tabOk_none _)
theorem n282 : Enters PR 282 := enters_of (fn := Go.Proofs.Tryz.f282) (by kernel_rfl) (by kernel_rfl) (by kernel_rfl)
noncomputable def g282 : List AV → AH → Nat → Option (Bool × AV × AH) := deepC PR e282 6 2000 282 4096 true
theorem g282_ok : ActOk PR 4096 282 g282 := deepC_ok cx282 rfl rfl

/-! (reliquary/curve.field[reliquary/mont.El]).in -/
noncomputable def e228 : Env := envD eqsT [] [] [] [(282, g282)] [9] false [282]
theorem e228_ok : EnvOk PR e228 := envD_ok eqsT_ok TabPOk.nil TabHOk.nil TabLOk.nil (TabDOk.cons n282 g282_ok TabDOk.nil)
theorem cx228 : Ctx PR e228 [] (fun _ => none) 2000 228 := ctx_of e228_ok mixed (fn := Go.Proofs.Tryz.f228) (by kernel_rfl) (by kernel_rfl) (by kernel_rfl) (tabOk_none _)
theorem n228 : Enters PR 228 := enters_of (fn := Go.Proofs.Tryz.f228) (by kernel_rfl) (by kernel_rfl) (by kernel_rfl)
noncomputable def g228 : List AV → AH → Nat → Option (Bool × AV × AH) := deepC PR e228 5 2000 228 4096 true
theorem g228_ok : ActOk PR 4096 228 g228 := deepC_ok cx228 rfl rfl

/-! reliquary/curve.in1 -/
noncomputable def e229 : Env := envD eqsT [(281, g281)] [] [] [] [9] false []
theorem e229_ok : EnvOk PR e229 := envD_ok eqsT_ok (TabPOk.cons g281_ok TabPOk.nil) TabHOk.nil TabLOk.nil TabDOk.nil
theorem cx229 : Ctx PR e229 [] (fun _ => none) 2000 229 := ctx_of e229_ok mixed (fn := Go.Proofs.Tryz.f229) (by kernel_rfl) (by kernel_rfl) (by kernel_rfl) (tabOk_none _)
theorem n229 : Enters PR 229 := enters_of (fn := Go.Proofs.Tryz.f229) (by kernel_rfl) (by kernel_rfl) (by kernel_rfl)
noncomputable def g229 : List AV → Option (Bool × AV) := (inlineC PR e229 4 2000 229)
theorem g229_ok : CallOk PR 229 g229 := (.inl ⟨n229, inlineC_ok cx229 rfl rfl⟩)

/-! reliquary/curve.In1 -/
noncomputable def e168 : Env := envD eqsT [(226, g226), (229, g229)] [] [] [(227, g227), (228, g228)] [9] false [227, 228]
theorem e168_ok : EnvOk PR e168 := envD_ok eqsT_ok (TabPOk.cons g226_ok (TabPOk.cons g229_ok TabPOk.nil)) TabHOk.nil TabLOk.nil (TabDOk.cons n227 g227_ok (TabDOk.cons n228 g228_ok TabDOk.nil))
theorem cx168 : Ctx PR e168 [] (fun _ => none) 2000 168 := ctx_of e168_ok mixed (fn := Go.Proofs.Tryz.f168) (by kernel_rfl) (by kernel_rfl) (by kernel_rfl) (tabOk_none _)
theorem n168 : Enters PR 168 := enters_of (fn := Go.Proofs.Tryz.f168) (by kernel_rfl) (by kernel_rfl) (by kernel_rfl)
end Go.Rq

/- A closed law's functions, each gone through where it is called. Written by a program of ours. -/
namespace Go.Rq
open Go Go.Proofs
def md168_0 : List AV × AV := ([.agg [.u (BitVec.ofNat 64 0), .u (BitVec.ofNat 64 0), .u (BitVec.ofNat 64 0), .u (BitVec.ofNat 64 0), .u (BitVec.ofNat 64 0), .u (BitVec.ofNat 64 0), .u (BitVec.ofNat 64 0), .u (BitVec.ofNat 64 0), .u (BitVec.ofNat 64 0), .u (BitVec.ofNat 64 0), .u (BitVec.ofNat 64 0), .u (BitVec.ofNat 64 0), .v (.bool false)]], .v (.bool false))
set_option maxRecDepth 1000000 in
theorem mf168_0 : canQ (inlineC PR e168 4 2000 168) md168_0.1 = some (true, md168_0.2) := by kernel_rfl
end Go.Rq

/- A closed law's functions, each gone through where it is called. Written by a program of ours. -/
namespace Go.Rq
open Go Go.Proofs

def mt168 : List (List AV × AV) := [md168_0]
theorem mt168_ok : ∀ p ∈ mt168, canQ (inlineC PR e168 4 2000 168) p.1 = some (true, p.2) := fun p hp => by
  rcases List.mem_cons.1 hp with rfl | hp
  · exact mf168_0
  cases hp
noncomputable def g168 : List AV → Option (Bool × AV) := canP (memoE (canQ (inlineC PR e168 4 2000 168)) mt168)
theorem g168_ok : CallOk PR 168 g168 := canP_ok (memoE_ok (canQ_ok (.inl ⟨n168, inlineC_ok cx168 rfl rfl⟩)) mt168_ok)

/-! reliquary/little.In -/
noncomputable def e169 : Env := envD eqsT [(171, g171), (230, (fn2 kCv cLp.agg kBool (inFT tmAll)))] [] [] [] [9] false []
theorem e169_ok : EnvOk PR e169 := envD_ok eqsT_ok (TabPOk.cons g171_ok (TabPOk.cons linT_ok TabPOk.nil)) TabHOk.nil TabLOk.nil TabDOk.nil
theorem cx169 : Ctx PR e169 [] (fun _ => none) 2000 169 := ctx_of e169_ok mixed (fn := Go.Proofs.Tryz.f169) (by kernel_rfl) (by kernel_rfl) (by kernel_rfl) (tabOk_none _)
theorem n169 : Enters PR 169 := enters_of (fn := Go.Proofs.Tryz.f169) (by kernel_rfl) (by kernel_rfl) (by kernel_rfl)
noncomputable def g169 : List AV → Option (Bool × AV) := (inlineC PR e169 5 2000 169)
theorem g169_ok : CallOk PR 169 g169 := (.inl ⟨n169, inlineC_ok cx169 rfl rfl⟩)

/-! reliquary/suite.KeyCheck -/
noncomputable def e101 : Env := envD eqsT [(168, g168), (169, g169)] [] [] [] [9] false []
theorem e101_ok : EnvOk PR e101 := envD_ok eqsT_ok (TabPOk.cons g168_ok (TabPOk.cons g169_ok TabPOk.nil)) TabHOk.nil TabLOk.nil TabDOk.nil
theorem cx101 : Ctx PR e101 [] (fun _ => none) 2000 101 := ctx_of e101_ok mixed (fn := Go.Proofs.Tryz.f101) (by kernel_rfl) (by kernel_rfl) (by kernel_rfl) (tabOk_none _)
theorem n101 : Enters PR 101 := enters_of (fn := Go.Proofs.Tryz.f101) (by kernel_rfl) (by kernel_rfl) (by kernel_rfl)
noncomputable def g101 : List AV → Option (Bool × AV) := (inlineC PR e101 5 2000 101)
theorem g101_ok : CallOk PR 101 g101 := (.inl ⟨n101, inlineC_ok cx101 rfl rfl⟩)

/-! reliquary/little.Order -/
noncomputable def e202 : Env := envD eqsT [(171, g171)] [] [] [] [9] false []
theorem e202_ok : EnvOk PR e202 := envD_ok eqsT_ok (TabPOk.cons g171_ok TabPOk.nil) TabHOk.nil TabLOk.nil TabDOk.nil
theorem cx202 : Ctx PR e202 [] (fun _ => none) 2000 202 := ctx_of e202_ok mixed (fn := Go.Proofs.Tryz.f202) (by kernel_rfl) (by kernel_rfl) (by kernel_rfl) (tabOk_none _)
theorem n202 : Enters PR 202 := enters_of (fn := Go.Proofs.Tryz.f202) (by kernel_rfl) (by kernel_rfl) (by kernel_rfl)
noncomputable def g202 : List AV → Option (Bool × AV) := (inlineC PR e202 4 2000 202)
theorem g202_ok : CallOk PR 202 g202 := (.inl ⟨n202, inlineC_ok cx202 rfl rfl⟩)

/-! reliquary/suite.order -/
noncomputable def e123 : Env := envD eqsT [(16, (fn1 kU c6.agg ofW)), (202, g202)] [] [] [] [9] false []
theorem e123_ok : EnvOk PR e123 := envD_ok eqsT_ok (TabPOk.cons of_ok (TabPOk.cons g202_ok TabPOk.nil)) TabHOk.nil TabLOk.nil TabDOk.nil
theorem cx123 : Ctx PR e123 [] (fun _ => none) 2000 123 := ctx_of e123_ok mixed (fn := Go.Proofs.Tryz.f123) (by kernel_rfl) (by kernel_rfl) (by kernel_rfl) (tabOk_none _)
theorem n123 : Enters PR 123 := enters_of (fn := Go.Proofs.Tryz.f123) (by kernel_rfl) (by kernel_rfl) (by kernel_rfl)
noncomputable def g123 : List AV → Option (Bool × AV) := (inlineC PR e123 4 2000 123)
theorem g123_ok : CallOk PR 123 g123 := (.inl ⟨n123, inlineC_ok cx123 rfl rfl⟩)

/-! reliquary/suite.keys -/
noncomputable def e111 : Env := envD eqsT [(98, (fn2 c6.agg c6.agg (kInt .i64) fun a b => chainV (cmpL a b) 0)), (101, g101), (123, g123)] [] [] [] [9] false []
theorem e111_ok : EnvOk PR e111 := envD_ok eqsT_ok (TabPOk.cons cmp_ok (TabPOk.cons g101_ok (TabPOk.cons g123_ok TabPOk.nil))) TabHOk.nil TabLOk.nil TabDOk.nil
theorem cx111 : Ctx PR e111 [] (fun _ => none) 2000 111 := ctx_of e111_ok mixed (fn := Go.Proofs.Tryz.f111) (by kernel_rfl) (by kernel_rfl) (by kernel_rfl) (tabOk_none _)
theorem n111 : Enters PR 111 := enters_of (fn := Go.Proofs.Tryz.f111) (by kernel_rfl) (by kernel_rfl) (by kernel_rfl)
noncomputable def g111 : List AV → AH → Nat → Option (Bool × AV × AH) := deepC PR e111 6 2000 111 4096 true
theorem g111_ok : ActOk PR 4096 111 g111 := deepC_ok cx111 rfl rfl

/-! reliquary/little.Mul -/
noncomputable def e113 : Env := envD eqsT [(188, (fn3 kCv cLp.agg kU cLp.agg (lTimesT tmAll)))] [] [] [(187, g187)] [9] false [187]
theorem e113_ok : EnvOk PR e113 := envD_ok eqsT_ok (TabPOk.cons tmT_ok TabPOk.nil) TabHOk.nil TabLOk.nil (TabDOk.cons n187 g187_ok TabDOk.nil)
theorem cx113 : Ctx PR e113 [] (fun _ => none) 2000 113 := ctx_of e113_ok mixed (fn := Go.Proofs.Tryz.f113) (by kernel_rfl) (by kernel_rfl) (by kernel_rfl) (tabOk_none _)
theorem n113 : Enters PR 113 := enters_of (fn := Go.Proofs.Tryz.f113) (by kernel_rfl) (by kernel_rfl) (by kernel_rfl)
noncomputable def g113 : List AV → Option (Bool × AV) := (inlineC PR e113 5 2000 113)
theorem g113_ok : CallOk PR 113 g113 := (.inl ⟨n113, inlineC_ok cx113 rfl rfl⟩)

/-! reliquary/suite.KeyMul -/
noncomputable def e25 : Env := envD eqsT [(113, g113)] [] [] [(111, g111)] [9] false [111]
theorem e25_ok : EnvOk PR e25 := envD_ok eqsT_ok (TabPOk.cons g113_ok TabPOk.nil) TabHOk.nil TabLOk.nil (TabDOk.cons n111 g111_ok TabDOk.nil)
theorem cx25 : Ctx PR e25 [] (fun _ => none) 2000 25 := ctx_of e25_ok mixed (fn := Go.Proofs.Tryz.f25) (by kernel_rfl) (by kernel_rfl) (by kernel_rfl) (tabOk_none _)
theorem n25 : Enters PR 25 := enters_of (fn := Go.Proofs.Tryz.f25) (by kernel_rfl) (by kernel_rfl) (by kernel_rfl)
noncomputable def g25 : List AV → Option (Bool × AV) := (inlineC PR e25 6 2000 25)
theorem g25_ok : CallOk PR 25 g25 := (.inl ⟨n25, inlineC_ok cx25 rfl rfl⟩)

/-! reliquary/suite.Order -/
noncomputable def e34 : Env := envD eqsT [(104, g104), (123, g123)] [] [] [] [9] false []
theorem e34_ok : EnvOk PR e34 := envD_ok eqsT_ok (TabPOk.cons g104_ok (TabPOk.cons g123_ok TabPOk.nil)) TabHOk.nil TabLOk.nil TabDOk.nil
theorem cx34 : Ctx PR e34 [] (fun _ => none) 2000 34 := ctx_of e34_ok mixed (fn := Go.Proofs.Tryz.f34) (by kernel_rfl) (by kernel_rfl) (by kernel_rfl) (tabOk_none _)
theorem n34 : Enters PR 34 := enters_of (fn := Go.Proofs.Tryz.f34) (by kernel_rfl) (by kernel_rfl) (by kernel_rfl)
noncomputable def g34 : List AV → Option (Bool × AV) := (inlineC PR e34 4 2000 34)
theorem g34_ok : CallOk PR 34 g34 := (.inl ⟨n34, inlineC_ok cx34 rfl rfl⟩)

/-! reliquary/proof.checked -/
noncomputable def e114 : Env := envD eqsT [(34, g34), (98, (fn2 c6.agg c6.agg (kInt .i64) fun a b => chainV (cmpL a b) 0)), (101, g101)] [] [] [] [9] false []
theorem e114_ok : EnvOk PR e114 := envD_ok eqsT_ok (TabPOk.cons g34_ok (TabPOk.cons cmp_ok (TabPOk.cons g101_ok TabPOk.nil))) TabHOk.nil TabLOk.nil TabDOk.nil
theorem cx114 : Ctx PR e114 [] (fun _ => none) 2000 114 := ctx_of e114_ok mixed (fn := Go.Proofs.Tryz.f114) (by kernel_rfl) (by kernel_rfl) (by kernel_rfl) (tabOk_none _)
theorem n114 : Enters PR 114 := enters_of (fn := Go.Proofs.Tryz.f114) (by kernel_rfl) (by kernel_rfl) (by kernel_rfl)
noncomputable def g114 : List AV → AH → Nat → Option (Bool × AV × AH) := deepC PR e114 6 2000 114 4096 true
theorem g114_ok : ActOk PR 4096 114 g114 := deepC_ok cx114 rfl rfl

/-! reliquary/proof.times -/
noncomputable def e115 : Env := envD eqsT [(25, g25)] [] [] [] [9] false []
theorem e115_ok : EnvOk PR e115 := envD_ok eqsT_ok (TabPOk.cons g25_ok TabPOk.nil) TabHOk.nil TabLOk.nil TabDOk.nil
theorem cx115 : Ctx PR e115 [] (fun _ => none) 2000 115 := ctx_of e115_ok mixed (fn := Go.Proofs.Tryz.f115) (by kernel_rfl) (by kernel_rfl) (by kernel_rfl) (tabOk_none _)
theorem n115 : Enters PR 115 := enters_of (fn := Go.Proofs.Tryz.f115) (by kernel_rfl) (by kernel_rfl) (by kernel_rfl)
noncomputable def g115 : List AV → Option (Bool × AV) := (inlineC PR e115 4 2000 115)
theorem g115_ok : CallOk PR 115 g115 := (.inl ⟨n115, inlineC_ok cx115 rfl rfl⟩)

/-! reliquary/little.written -/
noncomputable def e300 : Env := envD eqsT [] [] [] [] [9] false []
theorem e300_ok : EnvOk PR e300 := envD_ok eqsT_ok TabPOk.nil TabHOk.nil TabLOk.nil TabDOk.nil
theorem cx300 : Ctx PR e300 [] (fun _ => none) 2000 300 := ctx_of e300_ok mixed (fn := Go.Proofs.Tryz.f300) (by kernel_rfl) (by kernel_rfl) (by kernel_rfl) (tabOk_none _)
theorem n300 : Enters PR 300 := enters_of (fn := Go.Proofs.Tryz.f300) (by kernel_rfl) (by kernel_rfl) (by kernel_rfl)
noncomputable def g300 : List AV → Option (Bool × AV) := (inlineC PR e300 6 2000 300)
theorem g300_ok : CallOk PR 300 g300 := (.inl ⟨n300, inlineC_ok cx300 rfl rfl⟩)

/-! reliquary/little.Bytes -/
noncomputable def e252 : Env := envD eqsT [(300, g300)] [] [] [(187, g187)] [9] false [187]
theorem e252_ok : EnvOk PR e252 := envD_ok eqsT_ok (TabPOk.cons g300_ok TabPOk.nil) TabHOk.nil TabLOk.nil (TabDOk.cons n187 g187_ok TabDOk.nil)
theorem cx252 : Ctx PR e252 [] (fun _ => none) 2000 252 := ctx_of e252_ok mixed (fn := Go.Proofs.Tryz.f252) (by kernel_rfl) (by kernel_rfl) (by kernel_rfl) (tabOk_none _)
theorem n252 : Enters PR 252 := enters_of (fn := Go.Proofs.Tryz.f252) (by kernel_rfl) (by kernel_rfl) (by kernel_rfl)
noncomputable def g252 : List AV → AH → Nat → Option (Bool × AV × AH) := deepC PR e252 5 2000 252 4096 true
theorem g252_ok : ActOk PR 4096 252 g252 := deepC_ok cx252 rfl rfl

/-! reliquary/suite.KeyBytes -/
noncomputable def e189 : Env := envD eqsT [(101, g101)] [] [] [(252, g252)] [9] false [252]
theorem e189_ok : EnvOk PR e189 := envD_ok eqsT_ok (TabPOk.cons g101_ok TabPOk.nil) TabHOk.nil TabLOk.nil (TabDOk.cons n252 g252_ok TabDOk.nil)
theorem cx189 : Ctx PR e189 [] (fun _ => none) 2000 189 := ctx_of e189_ok mixed (fn := Go.Proofs.Tryz.f189) (by kernel_rfl) (by kernel_rfl) (by kernel_rfl) (tabOk_none _)
theorem n189 : Enters PR 189 := enters_of (fn := Go.Proofs.Tryz.f189) (by kernel_rfl) (by kernel_rfl) (by kernel_rfl)
noncomputable def g189 : List AV → AH → Nat → Option (Bool × AV × AH) := deepC PR e189 5 2000 189 4096 true
theorem g189_ok : ActOk PR 4096 189 g189 := deepC_ok cx189 rfl rfl

/-! reliquary/suite.text -/
noncomputable def e253 : Env := envD eqsT [(104, g104)] [] [] [(105, g105)] [9] false [105]
theorem e253_ok : EnvOk PR e253 := envD_ok eqsT_ok (TabPOk.cons g104_ok TabPOk.nil) TabHOk.nil TabLOk.nil (TabDOk.cons n105 g105_ok TabDOk.nil)
theorem cx253 : Ctx PR e253 [] (fun _ => none) 2000 253 := ctx_of e253_ok mixed (fn := Go.Proofs.Tryz.f253) (by kernel_rfl) (by kernel_rfl) (by kernel_rfl) (tabOk_none _)
theorem n253 : Enters PR 253 := enters_of (fn := Go.Proofs.Tryz.f253) (by kernel_rfl) (by kernel_rfl) (by kernel_rfl)
noncomputable def g253 : List AV → AH → Nat → Option (Bool × AV × AH) := deepC PR e253 5 2000 253 4096 true
theorem g253_ok : ActOk PR 4096 253 g253 := deepC_ok cx253 rfl rfl

/-! reliquary/suite.HashNum -/
noncomputable def e190 : Env := envD eqsT [(123, g123)] [] [] [(107, g107), (253, g253)] [9] false [107, 253]
theorem e190_ok : EnvOk PR e190 := envD_ok eqsT_ok (TabPOk.cons g123_ok TabPOk.nil) TabHOk.nil TabLOk.nil (TabDOk.cons n107 g107_ok (TabDOk.cons n253 g253_ok TabDOk.nil))
theorem cx190 : Ctx PR e190 [] (fun _ => none) 2000 190 := ctx_of e190_ok mixed (fn := Go.Proofs.Tryz.f190) (by kernel_rfl) (by kernel_rfl) (by kernel_rfl) (tabOk_none _)
theorem n190 : Enters PR 190 := enters_of (fn := Go.Proofs.Tryz.f190) (by kernel_rfl) (by kernel_rfl) (by kernel_rfl)
noncomputable def g190 : List AV → AH → Nat → Option (Bool × AV × AH) := deepC PR e190 5 2000 190 4096 true
theorem g190_ok : ActOk PR 4096 190 g190 := deepC_ok cx190 rfl rfl

/-! reliquary/proof.challenge -/
noncomputable def e116 : Env := envD eqsT [] [] [] [(189, g189), (190, g190)] [9] false [189, 190]
theorem e116_ok : EnvOk PR e116 := envD_ok eqsT_ok TabPOk.nil TabHOk.nil TabLOk.nil (TabDOk.cons n189 g189_ok (TabDOk.cons n190 g190_ok TabDOk.nil))
theorem cx116 : Ctx PR e116 [] (fun _ => none) 2000 116 := ctx_of e116_ok mixed (fn := Go.Proofs.Tryz.f116) (by kernel_rfl) (by kernel_rfl) (by kernel_rfl) (tabOk_none _)
theorem n116 : Enters PR 116 := enters_of (fn := Go.Proofs.Tryz.f116) (by kernel_rfl) (by kernel_rfl) (by kernel_rfl)
noncomputable def g116 : List AV → AH → Nat → Option (Bool × AV × AH) := deepC PR e116 6 2000 116 4096 true
theorem g116_ok : ActOk PR 4096 116 g116 := deepC_ok cx116 rfl rfl

/-! reliquary/suite.scalars -/
noncomputable def e197 : Env := envD eqsT [(98, (fn2 c6.agg c6.agg (kInt .i64) fun a b => chainV (cmpL a b) 0)), (104, g104), (123, g123)] [] [(179, (layP kMd 291 cFa 0 modS))] [] [9] false []
theorem e197_ok : EnvOk PR e197 := envD_ok eqsT_ok (TabPOk.cons cmp_ok (TabPOk.cons g104_ok (TabPOk.cons g123_ok TabPOk.nil))) TabHOk.nil (TabLOk.cons nw_ent newS_okL TabLOk.nil) TabDOk.nil
theorem cx197 : Ctx PR e197 [] (fun _ => none) 2000 197 := ctx_of e197_ok mixed (fn := Go.Proofs.Tryz.f197) (by kernel_rfl) (by kernel_rfl) (by kernel_rfl) (tabOk_none _)
theorem n197 : Enters PR 197 := enters_of (fn := Go.Proofs.Tryz.f197) (by kernel_rfl) (by kernel_rfl) (by kernel_rfl)
noncomputable def g197 : List AV → AH → Nat → Option (Bool × AV × AH) := deepC PR e197 5 2000 197 4096 true
theorem g197_ok : ActOk PR 4096 197 g197 := deepC_ok cx197 rfl rfl

/-! reliquary/suite.Sub$1 -/
noncomputable def e195 : Env := envD eqsT [] [(196, (rdp 291 cFa (mc2 c6.agg c6.agg) c6.agg (fun m x => qsubW m x.1 x.2)))] [] [] [9] false [196]
theorem e195_ok : EnvOk PR e195 := envD_ok eqsT_ok TabPOk.nil (TabHOk.cons qsub_ent qsub_ok TabHOk.nil) TabLOk.nil TabDOk.nil
theorem cx195 : Ctx PR e195 [] (fun _ => none) 2000 195 := ctx_of e195_ok mixed (fn := Go.Proofs.Tryz.f195) (by kernel_rfl) (by kernel_rfl) (by kernel_rfl) (tabOk_none _)
theorem n195 : Enters PR 195 := enters_of (fn := Go.Proofs.Tryz.f195) (by kernel_rfl) (by kernel_rfl) (by kernel_rfl)
noncomputable def g195 : List AV → AH → Nat → Option (Bool × AV × AH) := deepC PR e195 4 2000 195 4096 true
theorem g195_ok : ActOk PR 4096 195 g195 := deepC_ok cx195 rfl rfl

/-! reliquary/suite.Mul$1 -/
noncomputable def e199 : Env := envD eqsT [] [(200, (rdp 291 cFa (mc2 c6.agg c6.agg) c6.agg (fun m x => qmulW m x.1 x.2)))] [] [] [9] false [200]
theorem e199_ok : EnvOk PR e199 := envD_ok eqsT_ok TabPOk.nil (TabHOk.cons qmul_ent qmul_ok TabHOk.nil) TabLOk.nil TabDOk.nil
theorem cx199 : Ctx PR e199 [] (fun _ => none) 2000 199 := ctx_of e199_ok mixed (fn := Go.Proofs.Tryz.f199) (by kernel_rfl) (by kernel_rfl) (by kernel_rfl) (tabOk_none _)
theorem n199 : Enters PR 199 := enters_of (fn := Go.Proofs.Tryz.f199) (by kernel_rfl) (by kernel_rfl) (by kernel_rfl)
noncomputable def g199 : List AV → AH → Nat → Option (Bool × AV × AH) := deepC PR e199 4 2000 199 4096 true
theorem g199_ok : ActOk PR 4096 199 g199 := deepC_ok cx199 rfl rfl

/-! reliquary/suite.Add$1 -/
noncomputable def e254 : Env := envD eqsT [] [(176, (rdp 291 cFa (mc2 c6.agg c6.agg) c6.agg (fun m x => qaddW m x.1 x.2)))] [] [] [9] false [176]
theorem e254_ok : EnvOk PR e254 := envD_ok eqsT_ok TabPOk.nil (TabHOk.cons qadd_ent qadd_ok TabHOk.nil) TabLOk.nil TabDOk.nil
theorem cx254 : Ctx PR e254 [] (fun _ => none) 2000 254 := ctx_of e254_ok mixed (fn := Go.Proofs.Tryz.f254) (by kernel_rfl) (by kernel_rfl) (by kernel_rfl) (tabOk_none _)
theorem n254 : Enters PR 254 := enters_of (fn := Go.Proofs.Tryz.f254) (by kernel_rfl) (by kernel_rfl) (by kernel_rfl)
noncomputable def g254 : List AV → AH → Nat → Option (Bool × AV × AH) := deepC PR e254 4 2000 254 4096 true
theorem g254_ok : ActOk PR 4096 254 g254 := deepC_ok cx254 rfl rfl

/-! reliquary/suite.done -/
noncomputable def e194 : Env := envD eqsT [] [] [] [(197, g197), (195, g195), (199, g199), (254, g254)] [9] false [197, 195, 199, 254]
theorem e194_ok : EnvOk PR e194 := envD_ok eqsT_ok TabPOk.nil TabHOk.nil TabLOk.nil (TabDOk.cons n197 g197_ok (TabDOk.cons n195 g195_ok (TabDOk.cons n199 g199_ok (TabDOk.cons n254 g254_ok TabDOk.nil))))
theorem cx194 : Ctx PR e194 [] (fun _ => none) 2000 194 := ctx_of e194_ok mixed (fn := Go.Proofs.Tryz.f194) (by kernel_rfl) (by kernel_rfl) (by kernel_rfl) (tabOk_none _)
theorem n194 : Enters PR 194 := enters_of (fn := Go.Proofs.Tryz.f194) (by kernel_rfl) (by kernel_rfl) (by kernel_rfl)
noncomputable def g194 : List AV → AH → Nat → Option (Bool × AV × AH) := deepC PR e194 5 2000 194 4096 true
theorem g194_ok : ActOk PR 4096 194 g194 := deepC_ok cx194 rfl rfl

/-! reliquary/suite.Mul -/
noncomputable def e122 : Env := envD eqsT [] [] [] [(194, g194)] [9] false [194]
theorem e122_ok : EnvOk PR e122 := envD_ok eqsT_ok TabPOk.nil TabHOk.nil TabLOk.nil (TabDOk.cons n194 g194_ok TabDOk.nil)
theorem cx122 : Ctx PR e122 [] (fun _ => none) 2000 122 := ctx_of e122_ok mixed (fn := Go.Proofs.Tryz.f122) (by kernel_rfl) (by kernel_rfl) (by kernel_rfl) (tabOk_none _)
theorem n122 : Enters PR 122 := enters_of (fn := Go.Proofs.Tryz.f122) (by kernel_rfl) (by kernel_rfl) (by kernel_rfl)
noncomputable def g122 : List AV → Option (Bool × AV) := (inlineC PR e122 4 2000 122)
theorem g122_ok : CallOk PR 122 g122 := (.inl ⟨n122, inlineC_ok cx122 rfl rfl⟩)

/-! reliquary/suite.Add -/
noncomputable def e191 : Env := envD eqsT [] [] [] [(194, g194)] [9] false [194]
theorem e191_ok : EnvOk PR e191 := envD_ok eqsT_ok TabPOk.nil TabHOk.nil TabLOk.nil (TabDOk.cons n194 g194_ok TabDOk.nil)
theorem cx191 : Ctx PR e191 [] (fun _ => none) 2000 191 := ctx_of e191_ok mixed (fn := Go.Proofs.Tryz.f191) (by kernel_rfl) (by kernel_rfl) (by kernel_rfl) (tabOk_none _)
theorem n191 : Enters PR 191 := enters_of (fn := Go.Proofs.Tryz.f191) (by kernel_rfl) (by kernel_rfl) (by kernel_rfl)
noncomputable def g191 : List AV → Option (Bool × AV) := (inlineC PR e191 4 2000 191)
theorem g191_ok : CallOk PR 191 g191 := (.inl ⟨n191, inlineC_ok cx191 rfl rfl⟩)

/-! reliquary/proof.answer -/
noncomputable def e117 : Env := envD eqsT [(122, g122), (191, g191)] [] [] [] [9] false []
theorem e117_ok : EnvOk PR e117 := envD_ok eqsT_ok (TabPOk.cons g122_ok (TabPOk.cons g191_ok TabPOk.nil)) TabHOk.nil TabLOk.nil TabDOk.nil
theorem cx117 : Ctx PR e117 [] (fun _ => none) 2000 117 := ctx_of e117_ok mixed (fn := Go.Proofs.Tryz.f117) (by kernel_rfl) (by kernel_rfl) (by kernel_rfl) (tabOk_none _)
theorem n117 : Enters PR 117 := enters_of (fn := Go.Proofs.Tryz.f117) (by kernel_rfl) (by kernel_rfl) (by kernel_rfl)
noncomputable def g117 : List AV → Option (Bool × AV) := (inlineC PR e117 5 2000 117)
theorem g117_ok : CallOk PR 117 g117 := (.inl ⟨n117, inlineC_ok cx117 rfl rfl⟩)

/-! reliquary/proof.Know -/
noncomputable def e26 : Env := envD eqsT [(115, g115), (117, g117)] [] [] [(114, g114), (116, g116)] [9] false [114, 116]
theorem e26_ok : EnvOk PR e26 := envD_ok eqsT_ok (TabPOk.cons g115_ok (TabPOk.cons g117_ok TabPOk.nil)) TabHOk.nil TabLOk.nil (TabDOk.cons n114 g114_ok (TabDOk.cons n116 g116_ok TabDOk.nil))
theorem cx26 : Ctx PR e26 [] (fun _ => none) 2000 26 := ctx_of e26_ok mixed (fn := Go.Proofs.Tryz.f26) (by kernel_rfl) (by kernel_rfl) (by kernel_rfl) (tabOk_none _)
theorem n26 : Enters PR 26 := enters_of (fn := Go.Proofs.Tryz.f26) (by kernel_rfl) (by kernel_rfl) (by kernel_rfl)
end Go.Rq

/- A closed law's functions, each gone through where it is called. Written by a program of ours. -/
namespace Go.Rq
open Go Go.Proofs
def md26_0 : MemD := ⟨[.agg [.v (.int .i64 (.ofNat 1)), .u (BitVec.ofNat 64 0), .u (BitVec.ofNat 64 0), .u (BitVec.ofNat 64 0), .u (BitVec.ofNat 64 0), .u (BitVec.ofNat 64 0), .u (BitVec.ofNat 64 0), .u (BitVec.ofNat 64 0), .u (BitVec.ofNat 64 0), .u (BitVec.ofNat 64 0), .u (BitVec.ofNat 64 0), .u (BitVec.ofNat 64 0), .u (BitVec.ofNat 64 0), .v (.bool false), .u (BitVec.ofNat 64 9723), .u (BitVec.ofNat 64 164643), .v (.bool false)], .agg [.u (BitVec.ofNat 64 5), .u (BitVec.ofNat 64 0), .u (BitVec.ofNat 64 0), .u (BitVec.ofNat 64 0), .u (BitVec.ofNat 64 0), .u (BitVec.ofNat 64 0)], .agg [.u (BitVec.ofNat 64 7), .u (BitVec.ofNat 64 0), .u (BitVec.ofNat 64 0), .u (BitVec.ofNat 64 0), .u (BitVec.ofNat 64 0), .u (BitVec.ofNat 64 0)], .slc 0 0 5 5], [(0, some ⟨false, 5, [.v (.int .u8 119), .v (.int .u8 111), .v (.int .u8 114), .v (.int .u8 100), .v (.int .u8 115)]⟩)], .tup [.agg [.v (.int .i64 (.ofNat 1)), .u (BitVec.ofNat 64 0), .u (BitVec.ofNat 64 0), .u (BitVec.ofNat 64 0), .u (BitVec.ofNat 64 0), .u (BitVec.ofNat 64 0), .u (BitVec.ofNat 64 0), .u (BitVec.ofNat 64 0), .u (BitVec.ofNat 64 0), .u (BitVec.ofNat 64 0), .u (BitVec.ofNat 64 0), .u (BitVec.ofNat 64 0), .u (BitVec.ofNat 64 0), .v (.bool false), .u (BitVec.ofNat 64 489674), .u (BitVec.ofNat 64 271737), .v (.bool false), .u (BitVec.ofNat 64 15465), .u (BitVec.ofNat 64 0), .u (BitVec.ofNat 64 0), .u (BitVec.ofNat 64 0), .u (BitVec.ofNat 64 0), .u (BitVec.ofNat 64 0)], .v (.int .i64 (.ofNat 0))]⟩
set_option maxRecDepth 1000000 in
theorem mf26_0 : outC2 (outC (crunF PR e26 6 2000 26 md26_0.as md26_0.h md26_0.h.length)) = some md26_0.r := by kernel_rfl
end Go.Rq

/- A closed law's functions, each gone through where it is called. Written by a program of ours. -/
namespace Go.Rq
open Go Go.Proofs
def md26_1 : MemD := ⟨[.agg [.v (.int .i64 (.ofNat 2)), .u (BitVec.ofNat 64 0), .u (BitVec.ofNat 64 0), .u (BitVec.ofNat 64 0), .u (BitVec.ofNat 64 0), .u (BitVec.ofNat 64 0), .u (BitVec.ofNat 64 0), .u (BitVec.ofNat 64 0), .u (BitVec.ofNat 64 0), .u (BitVec.ofNat 64 0), .u (BitVec.ofNat 64 0), .u (BitVec.ofNat 64 0), .u (BitVec.ofNat 64 0), .v (.bool false), .u (BitVec.ofNat 64 613740293506734924), .u (BitVec.ofNat 64 666621259561003659), .v (.bool false)], .agg [.u (BitVec.ofNat 64 5), .u (BitVec.ofNat 64 0), .u (BitVec.ofNat 64 0), .u (BitVec.ofNat 64 0), .u (BitVec.ofNat 64 0), .u (BitVec.ofNat 64 0)], .agg [.u (BitVec.ofNat 64 7), .u (BitVec.ofNat 64 0), .u (BitVec.ofNat 64 0), .u (BitVec.ofNat 64 0), .u (BitVec.ofNat 64 0), .u (BitVec.ofNat 64 0)], .slc 0 0 5 5], [(0, some ⟨false, 5, [.v (.int .u8 119), .v (.int .u8 111), .v (.int .u8 114), .v (.int .u8 100), .v (.int .u8 115)]⟩)], .tup [.agg [.v (.int .i64 (.ofNat 2)), .u (BitVec.ofNat 64 0), .u (BitVec.ofNat 64 0), .u (BitVec.ofNat 64 0), .u (BitVec.ofNat 64 0), .u (BitVec.ofNat 64 0), .u (BitVec.ofNat 64 0), .u (BitVec.ofNat 64 0), .u (BitVec.ofNat 64 0), .u (BitVec.ofNat 64 0), .u (BitVec.ofNat 64 0), .u (BitVec.ofNat 64 0), .u (BitVec.ofNat 64 0), .v (.bool false), .u (BitVec.ofNat 64 898050630674357684), .u (BitVec.ofNat 64 48816321131405208), .v (.bool false), .u (BitVec.ofNat 64 62520119637055818), .u (BitVec.ofNat 64 0), .u (BitVec.ofNat 64 0), .u (BitVec.ofNat 64 0), .u (BitVec.ofNat 64 0), .u (BitVec.ofNat 64 0)], .v (.int .i64 (.ofNat 0))]⟩
set_option maxRecDepth 1000000 in
theorem mf26_1 : outC2 (outC (crunF PR e26 6 2000 26 md26_1.as md26_1.h md26_1.h.length)) = some md26_1.r := by kernel_rfl
end Go.Rq

/- A closed law's functions, each gone through where it is called. Written by a program of ours. -/
namespace Go.Rq
open Go Go.Proofs

def mt26 : List MemD := [md26_0, md26_1]
theorem mt26_ok : MemOk PR e26 6 2000 26 mt26 := (MemOk.cons mf26_0 (MemOk.cons mf26_1 MemOk.nil))
noncomputable def g26 : List AV → AH → Nat → Option (Bool × AV × AH) := canG (memoD mt26 (deepC2 PR e26 6 2000 26 4096 true))
theorem g26_ok : ActOk PR 4096 26 g26 := memoD_ok cx26 rfl rfl mt26_ok (by kernel_rfl)

/-! reliquary/little.Add -/
noncomputable def e167 : Env := envD eqsT [(225, (fn3 kCv cLp.agg cLp.agg cLp.agg lSum))] [] [] [(187, g187)] [9] false [187]
theorem e167_ok : EnvOk PR e167 := envD_ok eqsT_ok (TabPOk.cons lsm_ok TabPOk.nil) TabHOk.nil TabLOk.nil (TabDOk.cons n187 g187_ok TabDOk.nil)
theorem cx167 : Ctx PR e167 [] (fun _ => none) 2000 167 := ctx_of e167_ok mixed (fn := Go.Proofs.Tryz.f167) (by kernel_rfl) (by kernel_rfl) (by kernel_rfl) (tabOk_none _)
theorem n167 : Enters PR 167 := enters_of (fn := Go.Proofs.Tryz.f167) (by kernel_rfl) (by kernel_rfl) (by kernel_rfl)
noncomputable def g167 : List AV → Option (Bool × AV) := (inlineC PR e167 5 2000 167)
theorem g167_ok : CallOk PR 167 g167 := (.inl ⟨n167, inlineC_ok cx167 rfl rfl⟩)

/-! reliquary/suite.KeyAdd -/
noncomputable def e99 : Env := envD eqsT [(167, g167)] [] [] [(111, g111)] [9] false [111]
theorem e99_ok : EnvOk PR e99 := envD_ok eqsT_ok (TabPOk.cons g167_ok TabPOk.nil) TabHOk.nil TabLOk.nil (TabDOk.cons n111 g111_ok TabDOk.nil)
theorem cx99 : Ctx PR e99 [] (fun _ => none) 2000 99 := ctx_of e99_ok mixed (fn := Go.Proofs.Tryz.f99) (by kernel_rfl) (by kernel_rfl) (by kernel_rfl) (tabOk_none _)
theorem n99 : Enters PR 99 := enters_of (fn := Go.Proofs.Tryz.f99) (by kernel_rfl) (by kernel_rfl) (by kernel_rfl)
noncomputable def g99 : List AV → Option (Bool × AV) := (inlineC PR e99 6 2000 99)
theorem g99_ok : CallOk PR 99 g99 := (.inl ⟨n99, inlineC_ok cx99 rfl rfl⟩)

/-! reliquary/proof.fits -/
noncomputable def e118 : Env := envD eqsT [(99, g99), (115, g115)] [] [] [] [9] false []
theorem e118_ok : EnvOk PR e118 := envD_ok eqsT_ok (TabPOk.cons g99_ok (TabPOk.cons g115_ok TabPOk.nil)) TabHOk.nil TabLOk.nil TabDOk.nil
theorem cx118 : Ctx PR e118 [] (fun _ => none) 2000 118 := ctx_of e118_ok mixed (fn := Go.Proofs.Tryz.f118) (by kernel_rfl) (by kernel_rfl) (by kernel_rfl) (tabOk_none _)
theorem n118 : Enters PR 118 := enters_of (fn := Go.Proofs.Tryz.f118) (by kernel_rfl) (by kernel_rfl) (by kernel_rfl)
noncomputable def g118 : List AV → Option (Bool × AV) := (inlineC PR e118 5 2000 118)
theorem g118_ok : CallOk PR 118 g118 := (.inl ⟨n118, inlineC_ok cx118 rfl rfl⟩)

/-! reliquary/proof.KnowCheck -/
noncomputable def e28 : Env := envD eqsT [(118, g118)] [] [] [(114, g114), (116, g116)] [9] false [114, 116]
theorem e28_ok : EnvOk PR e28 := envD_ok eqsT_ok (TabPOk.cons g118_ok TabPOk.nil) TabHOk.nil TabLOk.nil (TabDOk.cons n114 g114_ok (TabDOk.cons n116 g116_ok TabDOk.nil))
theorem cx28 : Ctx PR e28 [] (fun _ => none) 2000 28 := ctx_of e28_ok mixed (fn := Go.Proofs.Tryz.f28) (by kernel_rfl) (by kernel_rfl) (by kernel_rfl) (tabOk_none _)
theorem n28 : Enters PR 28 := enters_of (fn := Go.Proofs.Tryz.f28) (by kernel_rfl) (by kernel_rfl) (by kernel_rfl)
end Go.Rq

/- A closed law's functions, each gone through where it is called. Written by a program of ours. -/
namespace Go.Rq
open Go Go.Proofs
def md28_0 : MemD := ⟨[.agg [.v (.int .i64 (.ofNat 1)), .u (BitVec.ofNat 64 0), .u (BitVec.ofNat 64 0), .u (BitVec.ofNat 64 0), .u (BitVec.ofNat 64 0), .u (BitVec.ofNat 64 0), .u (BitVec.ofNat 64 0), .u (BitVec.ofNat 64 0), .u (BitVec.ofNat 64 0), .u (BitVec.ofNat 64 0), .u (BitVec.ofNat 64 0), .u (BitVec.ofNat 64 0), .u (BitVec.ofNat 64 0), .v (.bool false), .u (BitVec.ofNat 64 9723), .u (BitVec.ofNat 64 164643), .v (.bool false)], .agg [.v (.int .i64 (.ofNat 1)), .u (BitVec.ofNat 64 0), .u (BitVec.ofNat 64 0), .u (BitVec.ofNat 64 0), .u (BitVec.ofNat 64 0), .u (BitVec.ofNat 64 0), .u (BitVec.ofNat 64 0), .u (BitVec.ofNat 64 0), .u (BitVec.ofNat 64 0), .u (BitVec.ofNat 64 0), .u (BitVec.ofNat 64 0), .u (BitVec.ofNat 64 0), .u (BitVec.ofNat 64 0), .v (.bool false), .u (BitVec.ofNat 64 235929), .u (BitVec.ofNat 64 424835), .v (.bool false)], .agg [.v (.int .i64 (.ofNat 1)), .u (BitVec.ofNat 64 0), .u (BitVec.ofNat 64 0), .u (BitVec.ofNat 64 0), .u (BitVec.ofNat 64 0), .u (BitVec.ofNat 64 0), .u (BitVec.ofNat 64 0), .u (BitVec.ofNat 64 0), .u (BitVec.ofNat 64 0), .u (BitVec.ofNat 64 0), .u (BitVec.ofNat 64 0), .u (BitVec.ofNat 64 0), .u (BitVec.ofNat 64 0), .v (.bool false), .u (BitVec.ofNat 64 489674), .u (BitVec.ofNat 64 271737), .v (.bool false), .u (BitVec.ofNat 64 15465), .u (BitVec.ofNat 64 0), .u (BitVec.ofNat 64 0), .u (BitVec.ofNat 64 0), .u (BitVec.ofNat 64 0), .u (BitVec.ofNat 64 0)], .slc 0 0 5 5], [(0, some ⟨false, 5, [.v (.int .u8 119), .v (.int .u8 111), .v (.int .u8 114), .v (.int .u8 100), .v (.int .u8 115)]⟩)], .tup [.v (.bool true), .v (.int .i64 (.ofNat 0))]⟩
set_option maxRecDepth 1000000 in
theorem mf28_0 : outC2 (outC (crunF PR e28 6 2000 28 md28_0.as md28_0.h md28_0.h.length)) = some md28_0.r := by kernel_rfl
end Go.Rq

/- A closed law's functions, each gone through where it is called. Written by a program of ours. -/
namespace Go.Rq
open Go Go.Proofs
def md28_1 : MemD := ⟨[.agg [.v (.int .i64 (.ofNat 2)), .u (BitVec.ofNat 64 0), .u (BitVec.ofNat 64 0), .u (BitVec.ofNat 64 0), .u (BitVec.ofNat 64 0), .u (BitVec.ofNat 64 0), .u (BitVec.ofNat 64 0), .u (BitVec.ofNat 64 0), .u (BitVec.ofNat 64 0), .u (BitVec.ofNat 64 0), .u (BitVec.ofNat 64 0), .u (BitVec.ofNat 64 0), .u (BitVec.ofNat 64 0), .v (.bool false), .u (BitVec.ofNat 64 613740293506734924), .u (BitVec.ofNat 64 666621259561003659), .v (.bool false)], .agg [.v (.int .i64 (.ofNat 2)), .u (BitVec.ofNat 64 0), .u (BitVec.ofNat 64 0), .u (BitVec.ofNat 64 0), .u (BitVec.ofNat 64 0), .u (BitVec.ofNat 64 0), .u (BitVec.ofNat 64 0), .u (BitVec.ofNat 64 0), .u (BitVec.ofNat 64 0), .u (BitVec.ofNat 64 0), .u (BitVec.ofNat 64 0), .u (BitVec.ofNat 64 0), .u (BitVec.ofNat 64 0), .v (.bool false), .u (BitVec.ofNat 64 582789716376265728), .u (BitVec.ofNat 64 56513719474792152), .v (.bool false)], .agg [.v (.int .i64 (.ofNat 2)), .u (BitVec.ofNat 64 0), .u (BitVec.ofNat 64 0), .u (BitVec.ofNat 64 0), .u (BitVec.ofNat 64 0), .u (BitVec.ofNat 64 0), .u (BitVec.ofNat 64 0), .u (BitVec.ofNat 64 0), .u (BitVec.ofNat 64 0), .u (BitVec.ofNat 64 0), .u (BitVec.ofNat 64 0), .u (BitVec.ofNat 64 0), .u (BitVec.ofNat 64 0), .v (.bool false), .u (BitVec.ofNat 64 898050630674357684), .u (BitVec.ofNat 64 48816321131405208), .v (.bool false), .u (BitVec.ofNat 64 62520119637055818), .u (BitVec.ofNat 64 0), .u (BitVec.ofNat 64 0), .u (BitVec.ofNat 64 0), .u (BitVec.ofNat 64 0), .u (BitVec.ofNat 64 0)], .own 0 1 0 5], [(0, some ⟨false, 5, [.v (.int .u8 111), .v (.int .u8 116), .v (.int .u8 104), .v (.int .u8 101), .v (.int .u8 114)]⟩)], .tup [.v (.bool false), .v (.int .i64 (.ofNat 0))]⟩
set_option maxRecDepth 1000000 in
theorem mf28_1 : outC2 (outC (crunF PR e28 6 2000 28 md28_1.as md28_1.h md28_1.h.length)) = some md28_1.r := by kernel_rfl
end Go.Rq

/- A closed law's functions, each gone through where it is called. Written by a program of ours. -/
namespace Go.Rq
open Go Go.Proofs
def md28_2 : MemD := ⟨[.agg [.v (.int .i64 (.ofNat 2)), .u (BitVec.ofNat 64 0), .u (BitVec.ofNat 64 0), .u (BitVec.ofNat 64 0), .u (BitVec.ofNat 64 0), .u (BitVec.ofNat 64 0), .u (BitVec.ofNat 64 0), .u (BitVec.ofNat 64 0), .u (BitVec.ofNat 64 0), .u (BitVec.ofNat 64 0), .u (BitVec.ofNat 64 0), .u (BitVec.ofNat 64 0), .u (BitVec.ofNat 64 0), .v (.bool false), .u (BitVec.ofNat 64 613740293506734924), .u (BitVec.ofNat 64 666621259561003659), .v (.bool false)], .agg [.v (.int .i64 (.ofNat 2)), .u (BitVec.ofNat 64 0), .u (BitVec.ofNat 64 0), .u (BitVec.ofNat 64 0), .u (BitVec.ofNat 64 0), .u (BitVec.ofNat 64 0), .u (BitVec.ofNat 64 0), .u (BitVec.ofNat 64 0), .u (BitVec.ofNat 64 0), .u (BitVec.ofNat 64 0), .u (BitVec.ofNat 64 0), .u (BitVec.ofNat 64 0), .u (BitVec.ofNat 64 0), .v (.bool false), .u (BitVec.ofNat 64 675716703552256552), .u (BitVec.ofNat 64 966864928233759093), .v (.bool false)], .agg [.v (.int .i64 (.ofNat 2)), .u (BitVec.ofNat 64 0), .u (BitVec.ofNat 64 0), .u (BitVec.ofNat 64 0), .u (BitVec.ofNat 64 0), .u (BitVec.ofNat 64 0), .u (BitVec.ofNat 64 0), .u (BitVec.ofNat 64 0), .u (BitVec.ofNat 64 0), .u (BitVec.ofNat 64 0), .u (BitVec.ofNat 64 0), .u (BitVec.ofNat 64 0), .u (BitVec.ofNat 64 0), .v (.bool false), .u (BitVec.ofNat 64 898050630674357684), .u (BitVec.ofNat 64 48816321131405208), .v (.bool false), .u (BitVec.ofNat 64 62520119637055818), .u (BitVec.ofNat 64 0), .u (BitVec.ofNat 64 0), .u (BitVec.ofNat 64 0), .u (BitVec.ofNat 64 0), .u (BitVec.ofNat 64 0)], .slc 0 0 5 5], [(0, some ⟨false, 5, [.v (.int .u8 119), .v (.int .u8 111), .v (.int .u8 114), .v (.int .u8 100), .v (.int .u8 115)]⟩)], .tup [.v (.bool false), .v (.int .i64 (.ofNat 0))]⟩
set_option maxRecDepth 1000000 in
theorem mf28_2 : outC2 (outC (crunF PR e28 6 2000 28 md28_2.as md28_2.h md28_2.h.length)) = some md28_2.r := by kernel_rfl
end Go.Rq

/- A closed law's functions, each gone through where it is called. Written by a program of ours. -/
namespace Go.Rq
open Go Go.Proofs

def mt28 : List MemD := [md28_0, md28_1, md28_2]
theorem mt28_ok : MemOk PR e28 6 2000 28 mt28 := (MemOk.cons mf28_0 (MemOk.cons mf28_1 (MemOk.cons mf28_2 MemOk.nil)))
noncomputable def g28 : List AV → AH → Nat → Option (Bool × AV × AH) := canG (memoD mt28 (deepC2 PR e28 6 2000 28 4096 true))
theorem g28_ok : ActOk PR 4096 28 g28 := memoD_ok cx28 rfl rfl mt28_ok (by kernel_rfl)

/-! reliquary/proof.Same -/
noncomputable def e29 : Env := envD eqsT [(115, g115), (117, g117)] [] [] [(114, g114), (116, g116)] [9] false [114, 116]
theorem e29_ok : EnvOk PR e29 := envD_ok eqsT_ok (TabPOk.cons g115_ok (TabPOk.cons g117_ok TabPOk.nil)) TabHOk.nil TabLOk.nil (TabDOk.cons n114 g114_ok (TabDOk.cons n116 g116_ok TabDOk.nil))
theorem cx29 : Ctx PR e29 [] (fun _ => none) 2000 29 := ctx_of e29_ok mixed (fn := Go.Proofs.Tryz.f29) (by kernel_rfl) (by kernel_rfl) (by kernel_rfl) (tabOk_none _)
theorem n29 : Enters PR 29 := enters_of (fn := Go.Proofs.Tryz.f29) (by kernel_rfl) (by kernel_rfl) (by kernel_rfl)
end Go.Rq

/- A closed law's functions, each gone through where it is called. Written by a program of ours. -/
namespace Go.Rq
open Go Go.Proofs
def md29_0 : MemD := ⟨[.agg [.v (.int .i64 (.ofNat 2)), .u (BitVec.ofNat 64 0), .u (BitVec.ofNat 64 0), .u (BitVec.ofNat 64 0), .u (BitVec.ofNat 64 0), .u (BitVec.ofNat 64 0), .u (BitVec.ofNat 64 0), .u (BitVec.ofNat 64 0), .u (BitVec.ofNat 64 0), .u (BitVec.ofNat 64 0), .u (BitVec.ofNat 64 0), .u (BitVec.ofNat 64 0), .u (BitVec.ofNat 64 0), .v (.bool false), .u (BitVec.ofNat 64 613740293506734924), .u (BitVec.ofNat 64 666621259561003659), .v (.bool false)], .agg [.v (.int .i64 (.ofNat 2)), .u (BitVec.ofNat 64 0), .u (BitVec.ofNat 64 0), .u (BitVec.ofNat 64 0), .u (BitVec.ofNat 64 0), .u (BitVec.ofNat 64 0), .u (BitVec.ofNat 64 0), .u (BitVec.ofNat 64 0), .u (BitVec.ofNat 64 0), .u (BitVec.ofNat 64 0), .u (BitVec.ofNat 64 0), .u (BitVec.ofNat 64 0), .u (BitVec.ofNat 64 0), .v (.bool false), .u (BitVec.ofNat 64 275425563242282422), .u (BitVec.ofNat 64 1019764028308248193), .v (.bool false)], .agg [.u (BitVec.ofNat 64 5), .u (BitVec.ofNat 64 0), .u (BitVec.ofNat 64 0), .u (BitVec.ofNat 64 0), .u (BitVec.ofNat 64 0), .u (BitVec.ofNat 64 0)], .agg [.u (BitVec.ofNat 64 7), .u (BitVec.ofNat 64 0), .u (BitVec.ofNat 64 0), .u (BitVec.ofNat 64 0), .u (BitVec.ofNat 64 0), .u (BitVec.ofNat 64 0)], .slc 0 0 5 5], [(0, some ⟨false, 5, [.v (.int .u8 119), .v (.int .u8 111), .v (.int .u8 114), .v (.int .u8 100), .v (.int .u8 115)]⟩)], .tup [.agg [.v (.int .i64 (.ofNat 2)), .u (BitVec.ofNat 64 0), .u (BitVec.ofNat 64 0), .u (BitVec.ofNat 64 0), .u (BitVec.ofNat 64 0), .u (BitVec.ofNat 64 0), .u (BitVec.ofNat 64 0), .u (BitVec.ofNat 64 0), .u (BitVec.ofNat 64 0), .u (BitVec.ofNat 64 0), .u (BitVec.ofNat 64 0), .u (BitVec.ofNat 64 0), .u (BitVec.ofNat 64 0), .v (.bool false), .u (BitVec.ofNat 64 898050630674357684), .u (BitVec.ofNat 64 48816321131405208), .v (.bool false), .v (.int .i64 (.ofNat 2)), .u (BitVec.ofNat 64 0), .u (BitVec.ofNat 64 0), .u (BitVec.ofNat 64 0), .u (BitVec.ofNat 64 0), .u (BitVec.ofNat 64 0), .u (BitVec.ofNat 64 0), .u (BitVec.ofNat 64 0), .u (BitVec.ofNat 64 0), .u (BitVec.ofNat 64 0), .u (BitVec.ofNat 64 0), .u (BitVec.ofNat 64 0), .u (BitVec.ofNat 64 0), .v (.bool false), .u (BitVec.ofNat 64 817792840734627714), .u (BitVec.ofNat 64 105302700851883226), .v (.bool false), .u (BitVec.ofNat 64 62405569096523615), .u (BitVec.ofNat 64 0), .u (BitVec.ofNat 64 0), .u (BitVec.ofNat 64 0), .u (BitVec.ofNat 64 0), .u (BitVec.ofNat 64 0)], .v (.int .i64 (.ofNat 0))]⟩
set_option maxRecDepth 1000000 in
theorem mf29_0 : outC2 (outC (crunF PR e29 6 2000 29 md29_0.as md29_0.h md29_0.h.length)) = some md29_0.r := by kernel_rfl
end Go.Rq

/- A closed law's functions, each gone through where it is called. Written by a program of ours. -/
namespace Go.Rq
open Go Go.Proofs

def mt29 : List MemD := [md29_0]
theorem mt29_ok : MemOk PR e29 6 2000 29 mt29 := (MemOk.cons mf29_0 MemOk.nil)
noncomputable def g29 : List AV → AH → Nat → Option (Bool × AV × AH) := canG (memoD mt29 (deepC2 PR e29 6 2000 29 4096 true))
theorem g29_ok : ActOk PR 4096 29 g29 := memoD_ok cx29 rfl rfl mt29_ok (by kernel_rfl)

/-! reliquary/proof.SameCheck -/
noncomputable def e30 : Env := envD eqsT [(118, g118)] [] [] [(114, g114), (116, g116)] [9] false [114, 116]
theorem e30_ok : EnvOk PR e30 := envD_ok eqsT_ok (TabPOk.cons g118_ok TabPOk.nil) TabHOk.nil TabLOk.nil (TabDOk.cons n114 g114_ok (TabDOk.cons n116 g116_ok TabDOk.nil))
theorem cx30 : Ctx PR e30 [] (fun _ => none) 2000 30 := ctx_of e30_ok mixed (fn := Go.Proofs.Tryz.f30) (by kernel_rfl) (by kernel_rfl) (by kernel_rfl) (tabOk_none _)
theorem n30 : Enters PR 30 := enters_of (fn := Go.Proofs.Tryz.f30) (by kernel_rfl) (by kernel_rfl) (by kernel_rfl)
end Go.Rq

/- A closed law's functions, each gone through where it is called. Written by a program of ours. -/
namespace Go.Rq
open Go Go.Proofs
def md30_0 : MemD := ⟨[.agg [.v (.int .i64 (.ofNat 2)), .u (BitVec.ofNat 64 0), .u (BitVec.ofNat 64 0), .u (BitVec.ofNat 64 0), .u (BitVec.ofNat 64 0), .u (BitVec.ofNat 64 0), .u (BitVec.ofNat 64 0), .u (BitVec.ofNat 64 0), .u (BitVec.ofNat 64 0), .u (BitVec.ofNat 64 0), .u (BitVec.ofNat 64 0), .u (BitVec.ofNat 64 0), .u (BitVec.ofNat 64 0), .v (.bool false), .u (BitVec.ofNat 64 613740293506734924), .u (BitVec.ofNat 64 666621259561003659), .v (.bool false)], .agg [.v (.int .i64 (.ofNat 2)), .u (BitVec.ofNat 64 0), .u (BitVec.ofNat 64 0), .u (BitVec.ofNat 64 0), .u (BitVec.ofNat 64 0), .u (BitVec.ofNat 64 0), .u (BitVec.ofNat 64 0), .u (BitVec.ofNat 64 0), .u (BitVec.ofNat 64 0), .u (BitVec.ofNat 64 0), .u (BitVec.ofNat 64 0), .u (BitVec.ofNat 64 0), .u (BitVec.ofNat 64 0), .v (.bool false), .u (BitVec.ofNat 64 582789716376265728), .u (BitVec.ofNat 64 56513719474792152), .v (.bool false)], .agg [.v (.int .i64 (.ofNat 2)), .u (BitVec.ofNat 64 0), .u (BitVec.ofNat 64 0), .u (BitVec.ofNat 64 0), .u (BitVec.ofNat 64 0), .u (BitVec.ofNat 64 0), .u (BitVec.ofNat 64 0), .u (BitVec.ofNat 64 0), .u (BitVec.ofNat 64 0), .u (BitVec.ofNat 64 0), .u (BitVec.ofNat 64 0), .u (BitVec.ofNat 64 0), .u (BitVec.ofNat 64 0), .v (.bool false), .u (BitVec.ofNat 64 275425563242282422), .u (BitVec.ofNat 64 1019764028308248193), .v (.bool false)], .agg [.v (.int .i64 (.ofNat 2)), .u (BitVec.ofNat 64 0), .u (BitVec.ofNat 64 0), .u (BitVec.ofNat 64 0), .u (BitVec.ofNat 64 0), .u (BitVec.ofNat 64 0), .u (BitVec.ofNat 64 0), .u (BitVec.ofNat 64 0), .u (BitVec.ofNat 64 0), .u (BitVec.ofNat 64 0), .u (BitVec.ofNat 64 0), .u (BitVec.ofNat 64 0), .u (BitVec.ofNat 64 0), .v (.bool false), .u (BitVec.ofNat 64 163798990059359596), .u (BitVec.ofNat 64 391867631250252615), .v (.bool false)], .agg [.v (.int .i64 (.ofNat 2)), .u (BitVec.ofNat 64 0), .u (BitVec.ofNat 64 0), .u (BitVec.ofNat 64 0), .u (BitVec.ofNat 64 0), .u (BitVec.ofNat 64 0), .u (BitVec.ofNat 64 0), .u (BitVec.ofNat 64 0), .u (BitVec.ofNat 64 0), .u (BitVec.ofNat 64 0), .u (BitVec.ofNat 64 0), .u (BitVec.ofNat 64 0), .u (BitVec.ofNat 64 0), .v (.bool false), .u (BitVec.ofNat 64 898050630674357684), .u (BitVec.ofNat 64 48816321131405208), .v (.bool false), .v (.int .i64 (.ofNat 2)), .u (BitVec.ofNat 64 0), .u (BitVec.ofNat 64 0), .u (BitVec.ofNat 64 0), .u (BitVec.ofNat 64 0), .u (BitVec.ofNat 64 0), .u (BitVec.ofNat 64 0), .u (BitVec.ofNat 64 0), .u (BitVec.ofNat 64 0), .u (BitVec.ofNat 64 0), .u (BitVec.ofNat 64 0), .u (BitVec.ofNat 64 0), .u (BitVec.ofNat 64 0), .v (.bool false), .u (BitVec.ofNat 64 817792840734627714), .u (BitVec.ofNat 64 105302700851883226), .v (.bool false), .u (BitVec.ofNat 64 62405569096523615), .u (BitVec.ofNat 64 0), .u (BitVec.ofNat 64 0), .u (BitVec.ofNat 64 0), .u (BitVec.ofNat 64 0), .u (BitVec.ofNat 64 0)], .slc 0 0 5 5], [(0, some ⟨false, 5, [.v (.int .u8 119), .v (.int .u8 111), .v (.int .u8 114), .v (.int .u8 100), .v (.int .u8 115)]⟩)], .tup [.v (.bool true), .v (.int .i64 (.ofNat 0))]⟩
set_option maxRecDepth 1000000 in
theorem mf30_0 : outC2 (outC (crunF PR e30 6 2000 30 md30_0.as md30_0.h md30_0.h.length)) = some md30_0.r := by kernel_rfl
end Go.Rq

/- A closed law's functions, each gone through where it is called. Written by a program of ours. -/
namespace Go.Rq
open Go Go.Proofs
def md30_1 : MemD := ⟨[.agg [.v (.int .i64 (.ofNat 2)), .u (BitVec.ofNat 64 0), .u (BitVec.ofNat 64 0), .u (BitVec.ofNat 64 0), .u (BitVec.ofNat 64 0), .u (BitVec.ofNat 64 0), .u (BitVec.ofNat 64 0), .u (BitVec.ofNat 64 0), .u (BitVec.ofNat 64 0), .u (BitVec.ofNat 64 0), .u (BitVec.ofNat 64 0), .u (BitVec.ofNat 64 0), .u (BitVec.ofNat 64 0), .v (.bool false), .u (BitVec.ofNat 64 613740293506734924), .u (BitVec.ofNat 64 666621259561003659), .v (.bool false)], .agg [.v (.int .i64 (.ofNat 2)), .u (BitVec.ofNat 64 0), .u (BitVec.ofNat 64 0), .u (BitVec.ofNat 64 0), .u (BitVec.ofNat 64 0), .u (BitVec.ofNat 64 0), .u (BitVec.ofNat 64 0), .u (BitVec.ofNat 64 0), .u (BitVec.ofNat 64 0), .u (BitVec.ofNat 64 0), .u (BitVec.ofNat 64 0), .u (BitVec.ofNat 64 0), .u (BitVec.ofNat 64 0), .v (.bool false), .u (BitVec.ofNat 64 582789716376265728), .u (BitVec.ofNat 64 56513719474792152), .v (.bool false)], .agg [.v (.int .i64 (.ofNat 2)), .u (BitVec.ofNat 64 0), .u (BitVec.ofNat 64 0), .u (BitVec.ofNat 64 0), .u (BitVec.ofNat 64 0), .u (BitVec.ofNat 64 0), .u (BitVec.ofNat 64 0), .u (BitVec.ofNat 64 0), .u (BitVec.ofNat 64 0), .u (BitVec.ofNat 64 0), .u (BitVec.ofNat 64 0), .u (BitVec.ofNat 64 0), .u (BitVec.ofNat 64 0), .v (.bool false), .u (BitVec.ofNat 64 275425563242282422), .u (BitVec.ofNat 64 1019764028308248193), .v (.bool false)], .agg [.v (.int .i64 (.ofNat 2)), .u (BitVec.ofNat 64 0), .u (BitVec.ofNat 64 0), .u (BitVec.ofNat 64 0), .u (BitVec.ofNat 64 0), .u (BitVec.ofNat 64 0), .u (BitVec.ofNat 64 0), .u (BitVec.ofNat 64 0), .u (BitVec.ofNat 64 0), .u (BitVec.ofNat 64 0), .u (BitVec.ofNat 64 0), .u (BitVec.ofNat 64 0), .u (BitVec.ofNat 64 0), .v (.bool false), .u (BitVec.ofNat 64 821020941406989194), .u (BitVec.ofNat 64 460104120734648520), .v (.bool false)], .agg [.v (.int .i64 (.ofNat 2)), .u (BitVec.ofNat 64 0), .u (BitVec.ofNat 64 0), .u (BitVec.ofNat 64 0), .u (BitVec.ofNat 64 0), .u (BitVec.ofNat 64 0), .u (BitVec.ofNat 64 0), .u (BitVec.ofNat 64 0), .u (BitVec.ofNat 64 0), .u (BitVec.ofNat 64 0), .u (BitVec.ofNat 64 0), .u (BitVec.ofNat 64 0), .u (BitVec.ofNat 64 0), .v (.bool false), .u (BitVec.ofNat 64 898050630674357684), .u (BitVec.ofNat 64 48816321131405208), .v (.bool false), .v (.int .i64 (.ofNat 2)), .u (BitVec.ofNat 64 0), .u (BitVec.ofNat 64 0), .u (BitVec.ofNat 64 0), .u (BitVec.ofNat 64 0), .u (BitVec.ofNat 64 0), .u (BitVec.ofNat 64 0), .u (BitVec.ofNat 64 0), .u (BitVec.ofNat 64 0), .u (BitVec.ofNat 64 0), .u (BitVec.ofNat 64 0), .u (BitVec.ofNat 64 0), .u (BitVec.ofNat 64 0), .v (.bool false), .u (BitVec.ofNat 64 817792840734627714), .u (BitVec.ofNat 64 105302700851883226), .v (.bool false), .u (BitVec.ofNat 64 62405569096523615), .u (BitVec.ofNat 64 0), .u (BitVec.ofNat 64 0), .u (BitVec.ofNat 64 0), .u (BitVec.ofNat 64 0), .u (BitVec.ofNat 64 0)], .slc 0 0 5 5], [(0, some ⟨false, 5, [.v (.int .u8 119), .v (.int .u8 111), .v (.int .u8 114), .v (.int .u8 100), .v (.int .u8 115)]⟩)], .tup [.v (.bool false), .v (.int .i64 (.ofNat 0))]⟩
set_option maxRecDepth 1000000 in
theorem mf30_1 : outC2 (outC (crunF PR e30 6 2000 30 md30_1.as md30_1.h md30_1.h.length)) = some md30_1.r := by kernel_rfl
end Go.Rq

/- A closed law's functions, each gone through where it is called. Written by a program of ours. -/
namespace Go.Rq
open Go Go.Proofs

def mt30 : List MemD := [md30_0, md30_1]
theorem mt30_ok : MemOk PR e30 6 2000 30 mt30 := (MemOk.cons mf30_0 (MemOk.cons mf30_1 MemOk.nil))
noncomputable def g30 : List AV → AH → Nat → Option (Bool × AV × AH) := canG (memoD mt30 (deepC2 PR e30 6 2000 30 4096 true))
theorem g30_ok : ActOk PR 4096 30 g30 := memoD_ok cx30 rfl rfl mt30_ok (by kernel_rfl)

/-! reliquary/little.Neg -/
noncomputable def e193 : Env := envD eqsT [(245, (fn3 kCv kU kU kU lSub))] [] [] [(187, g187)] [9] false [187]
theorem e193_ok : EnvOk PR e193 := envD_ok eqsT_ok (TabPOk.cons ls_ok TabPOk.nil) TabHOk.nil TabLOk.nil (TabDOk.cons n187 g187_ok TabDOk.nil)
theorem cx193 : Ctx PR e193 [] (fun _ => none) 2000 193 := ctx_of e193_ok mixed (fn := Go.Proofs.Tryz.f193) (by kernel_rfl) (by kernel_rfl) (by kernel_rfl) (tabOk_none _)
theorem n193 : Enters PR 193 := enters_of (fn := Go.Proofs.Tryz.f193) (by kernel_rfl) (by kernel_rfl) (by kernel_rfl)
noncomputable def g193 : List AV → Option (Bool × AV) := (inlineC PR e193 5 2000 193)
theorem g193_ok : CallOk PR 193 g193 := (.inl ⟨n193, inlineC_ok cx193 rfl rfl⟩)

/-! reliquary/suite.KeyNeg -/
noncomputable def e119 : Env := envD eqsT [(193, g193)] [] [] [(111, g111)] [9] false [111]
theorem e119_ok : EnvOk PR e119 := envD_ok eqsT_ok (TabPOk.cons g193_ok TabPOk.nil) TabHOk.nil TabLOk.nil (TabDOk.cons n111 g111_ok TabDOk.nil)
theorem cx119 : Ctx PR e119 [] (fun _ => none) 2000 119 := ctx_of e119_ok mixed (fn := Go.Proofs.Tryz.f119) (by kernel_rfl) (by kernel_rfl) (by kernel_rfl) (tabOk_none _)
theorem n119 : Enters PR 119 := enters_of (fn := Go.Proofs.Tryz.f119) (by kernel_rfl) (by kernel_rfl) (by kernel_rfl)
noncomputable def g119 : List AV → Option (Bool × AV) := (inlineC PR e119 6 2000 119)
theorem g119_ok : CallOk PR 119 g119 := (.inl ⟨n119, inlineC_ok cx119 rfl rfl⟩)

/-! reliquary/proof.Feign -/
noncomputable def e31 : Env := envD eqsT [(99, g99), (115, g115), (119, g119)] [] [] [(114, g114)] [9] false [114]
theorem e31_ok : EnvOk PR e31 := envD_ok eqsT_ok (TabPOk.cons g99_ok (TabPOk.cons g115_ok (TabPOk.cons g119_ok TabPOk.nil))) TabHOk.nil TabLOk.nil (TabDOk.cons n114 g114_ok TabDOk.nil)
theorem cx31 : Ctx PR e31 [] (fun _ => none) 2000 31 := ctx_of e31_ok mixed (fn := Go.Proofs.Tryz.f31) (by kernel_rfl) (by kernel_rfl) (by kernel_rfl) (tabOk_none _)
theorem n31 : Enters PR 31 := enters_of (fn := Go.Proofs.Tryz.f31) (by kernel_rfl) (by kernel_rfl) (by kernel_rfl)
noncomputable def g31 : List AV → Option (Bool × AV) := (inlineC PR e31 6 2000 31)
theorem g31_ok : CallOk PR 31 g31 := (.inl ⟨n31, inlineC_ok cx31 rfl rfl⟩)

/-! reliquary/proof.Fits -/
noncomputable def e32 : Env := envD eqsT [(118, g118)] [] [] [(114, g114)] [9] false [114]
theorem e32_ok : EnvOk PR e32 := envD_ok eqsT_ok (TabPOk.cons g118_ok TabPOk.nil) TabHOk.nil TabLOk.nil (TabDOk.cons n114 g114_ok TabDOk.nil)
theorem cx32 : Ctx PR e32 [] (fun _ => none) 2000 32 := ctx_of e32_ok mixed (fn := Go.Proofs.Tryz.f32) (by kernel_rfl) (by kernel_rfl) (by kernel_rfl) (tabOk_none _)
theorem n32 : Enters PR 32 := enters_of (fn := Go.Proofs.Tryz.f32) (by kernel_rfl) (by kernel_rfl) (by kernel_rfl)
noncomputable def g32 : List AV → Option (Bool × AV) := (inlineC PR e32 5 2000 32)
theorem g32_ok : CallOk PR 32 g32 := (.inl ⟨n32, inlineC_ok cx32 rfl rfl⟩)

/-! reliquary/suite.Sub -/
noncomputable def e120 : Env := envD eqsT [] [] [] [(194, g194)] [9] false [194]
theorem e120_ok : EnvOk PR e120 := envD_ok eqsT_ok TabPOk.nil TabHOk.nil TabLOk.nil (TabDOk.cons n194 g194_ok TabDOk.nil)
theorem cx120 : Ctx PR e120 [] (fun _ => none) 2000 120 := ctx_of e120_ok mixed (fn := Go.Proofs.Tryz.f120) (by kernel_rfl) (by kernel_rfl) (by kernel_rfl) (tabOk_none _)
theorem n120 : Enters PR 120 := enters_of (fn := Go.Proofs.Tryz.f120) (by kernel_rfl) (by kernel_rfl) (by kernel_rfl)
noncomputable def g120 : List AV → Option (Bool × AV) := (inlineC PR e120 4 2000 120)
theorem g120_ok : CallOk PR 120 g120 := (.inl ⟨n120, inlineC_ok cx120 rfl rfl⟩)

/-! reliquary/words.Shift -/
noncomputable def e241 : Env := envD eqsT [] [] [] [] [9] false []
theorem e241_ok : EnvOk PR e241 := envD_ok eqsT_ok TabPOk.nil TabHOk.nil TabLOk.nil TabDOk.nil
theorem cx241 : Ctx PR e241 [] (fun _ => none) 2000 241 := ctx_of e241_ok mixed (fn := Go.Proofs.Tryz.f241) (by kernel_rfl) (by kernel_rfl) (by kernel_rfl) (tabOk_none _)
theorem n241 : Enters PR 241 := enters_of (fn := Go.Proofs.Tryz.f241) (by kernel_rfl) (by kernel_rfl) (by kernel_rfl)
noncomputable def g241 : List AV → Option (Bool × AV) := (inlineC PR e241 7 2000 241)
theorem g241_ok : CallOk PR 241 g241 := (.inl ⟨n241, inlineC_ok cx241 rfl rfl⟩)

/-! (*reliquary/modulus.Modulus).half -/
noncomputable def e258 : Env := envD eqsT [(235, (fn2 c6.agg c6.agg kWB wAddW)), (241, g241)] [] [] [] [9] false []
theorem e258_ok : EnvOk PR e258 := envD_ok eqsT_ok (TabPOk.cons wadd_ok (TabPOk.cons g241_ok TabPOk.nil)) TabHOk.nil TabLOk.nil TabDOk.nil
theorem cx258 : Ctx PR e258 [] (fun _ => none) 2000 258 := ctx_of e258_ok mixed (fn := Go.Proofs.Tryz.f258) (by kernel_rfl) (by kernel_rfl) (by kernel_rfl) (tabOk_none _)
theorem n258 : Enters PR 258 := enters_of (fn := Go.Proofs.Tryz.f258) (by kernel_rfl) (by kernel_rfl) (by kernel_rfl)
noncomputable def g258 : List AV → AH → Option (Bool × AV × AH) := viewG PR e258 [] 2000 258
theorem g258_ok : HeapOk PR 258 g258 := view_ok cx258

/-! (*reliquary/modulus.Modulus).Inv -/
noncomputable def e198 : Env := envD eqsT [(16, (fn1 kU c6.agg ofW)), (98, (fn2 c6.agg c6.agg (kInt .i64) fun a b => chainV (cmpL a b) 0)), (241, g241), (257, (fn2 c6.agg c6.agg kWB wSubW))] [(174, (rdp 291 cFa (mc1 c6.agg) c6.agg moRedW)), (196, (rdp 291 cFa (mc2 c6.agg c6.agg) c6.agg (fun m x => qsubW m x.1 x.2))), (232, (rdp 291 cFa mc0 kBool (fun m _ => moNone m))), (258, g258)] [] [] [9] false [174, 196, 232, 258]
theorem e198_ok : EnvOk PR e198 := envD_ok eqsT_ok (TabPOk.cons of_ok (TabPOk.cons cmp_ok (TabPOk.cons g241_ok (TabPOk.cons wsub_ok TabPOk.nil)))) (TabHOk.cons mred_ent mred_ok (TabHOk.cons qsub_ent qsub_ok (TabHOk.cons mn_ent mn_ok (TabHOk.cons n258 g258_ok TabHOk.nil)))) TabLOk.nil TabDOk.nil
theorem cx198 : Ctx PR e198 [] (fun _ => none) 2000 198 := ctx_of e198_ok mixed (fn := Go.Proofs.Tryz.f198) (by kernel_rfl) (by kernel_rfl) (by kernel_rfl) (tabOk_none _)
theorem n198 : Enters PR 198 := enters_of (fn := Go.Proofs.Tryz.f198) (by kernel_rfl) (by kernel_rfl) (by kernel_rfl)
noncomputable def g198 : List AV → AH → Nat → Option (Bool × AV × AH) := deepC PR e198 7 2000 198 4096 true
theorem g198_ok : ActOk PR 4096 198 g198 := deepC_ok cx198 rfl rfl

/-! reliquary/suite.Inv -/
noncomputable def e121 : Env := envD eqsT [] [] [] [(197, g197), (198, g198)] [9] false [197, 198]
theorem e121_ok : EnvOk PR e121 := envD_ok eqsT_ok TabPOk.nil TabHOk.nil TabLOk.nil (TabDOk.cons n197 g197_ok (TabDOk.cons n198 g198_ok TabDOk.nil))
theorem cx121 : Ctx PR e121 [] (fun _ => none) 2000 121 := ctx_of e121_ok mixed (fn := Go.Proofs.Tryz.f121) (by kernel_rfl) (by kernel_rfl) (by kernel_rfl) (tabOk_none _)
theorem n121 : Enters PR 121 := enters_of (fn := Go.Proofs.Tryz.f121) (by kernel_rfl) (by kernel_rfl) (by kernel_rfl)
end Go.Rq

/- A closed law's functions, each gone through where it is called. Written by a program of ours. -/
namespace Go.Rq
open Go Go.Proofs
def md121_0 : List AV × AV := ([.v (.int .i64 (.ofNat 1)), .agg [.u (BitVec.ofNat 64 65520), .u (BitVec.ofNat 64 0), .u (BitVec.ofNat 64 0), .u (BitVec.ofNat 64 0), .u (BitVec.ofNat 64 0), .u (BitVec.ofNat 64 0)]], .tup [.agg [.u (BitVec.ofNat 64 65520), .u (BitVec.ofNat 64 0), .u (BitVec.ofNat 64 0), .u (BitVec.ofNat 64 0), .u (BitVec.ofNat 64 0), .u (BitVec.ofNat 64 0)], .v (.int .i64 (.ofNat 0))])
set_option maxRecDepth 1000000 in
theorem mf121_0 : canQ (inlineC PR e121 5 2000 121) md121_0.1 = some (true, md121_0.2) := by kernel_rfl
end Go.Rq

/- A closed law's functions, each gone through where it is called. Written by a program of ours. -/
namespace Go.Rq
open Go Go.Proofs

def mt121 : List (List AV × AV) := [md121_0]
theorem mt121_ok : ∀ p ∈ mt121, canQ (inlineC PR e121 5 2000 121) p.1 = some (true, p.2) := fun p hp => by
  rcases List.mem_cons.1 hp with rfl | hp
  · exact mf121_0
  cases hp
noncomputable def g121 : List AV → Option (Bool × AV) := canP (memoE (canQ (inlineC PR e121 5 2000 121)) mt121)
theorem g121_ok : CallOk PR 121 g121 := canP_ok (memoE_ok (canQ_ok (.inl ⟨n121, inlineC_ok cx121 rfl rfl⟩)) mt121_ok)

/-! reliquary/proof.Extract -/
noncomputable def e33 : Env := envD eqsT [(34, g34), (98, (fn2 c6.agg c6.agg (kInt .i64) fun a b => chainV (cmpL a b) 0)), (120, g120), (121, g121), (122, g122)] [] [] [] [9] false []
theorem e33_ok : EnvOk PR e33 := envD_ok eqsT_ok (TabPOk.cons g34_ok (TabPOk.cons cmp_ok (TabPOk.cons g120_ok (TabPOk.cons g121_ok (TabPOk.cons g122_ok TabPOk.nil))))) TabHOk.nil TabLOk.nil TabDOk.nil
theorem cx33 : Ctx PR e33 [] (fun _ => none) 2000 33 := ctx_of e33_ok mixed (fn := Go.Proofs.Tryz.f33) (by kernel_rfl) (by kernel_rfl) (by kernel_rfl) (tabOk_none _)
theorem n33 : Enters PR 33 := enters_of (fn := Go.Proofs.Tryz.f33) (by kernel_rfl) (by kernel_rfl) (by kernel_rfl)
noncomputable def g33 : List AV → Option (Bool × AV) := (inlineC PR e33 7 2000 33)
theorem g33_ok : CallOk PR 33 g33 := (.inl ⟨n33, inlineC_ok cx33 rfl rfl⟩)

/-! reliquary/reliquarylaw21.awake -/
noncomputable def e35 : Env := envD eqsT [(16, (fn1 kU c6.agg ofW)), (23, g23), (25, g25), (33, g33)] [] [(27, tx21)] [(26, g26), (28, g28)] [9] false [26, 28]
theorem e35_ok : EnvOk PR e35 := envD_ok eqsT_ok (TabPOk.cons of_ok (TabPOk.cons g23_ok (TabPOk.cons g25_ok (TabPOk.cons g33_ok TabPOk.nil)))) TabHOk.nil (TabLOk.cons tx21_ent tx21_ok TabLOk.nil) (TabDOk.cons n26 g26_ok (TabDOk.cons n28 g28_ok TabDOk.nil))
theorem cx35 : Ctx PR e35 [] (fun _ => none) 2000 35 := ctx_of e35_ok mixed (fn := Go.Proofs.Tryz.f35) (by kernel_rfl) (by kernel_rfl) (by kernel_rfl) (tabOk_none _)
theorem n35 : Enters PR 35 := enters_of (fn := Go.Proofs.Tryz.f35) (by kernel_rfl) (by kernel_rfl) (by kernel_rfl)
noncomputable def g35 : List AV → Option (Bool × AV) := (inlineC PR e35 6 2000 35)
theorem g35_ok : CallOk PR 35 g35 := (.inl ⟨n35, inlineC_ok cx35 rfl rfl⟩)

/-! reliquary/reliquarykit.SameBytes -/
noncomputable def e36 : Env := envD eqsT [] [] [] [] [9] false []
theorem e36_ok : EnvOk PR e36 := envD_ok eqsT_ok TabPOk.nil TabHOk.nil TabLOk.nil TabDOk.nil
theorem cx36 : Ctx PR e36 [] (fun _ => none) 2000 36 := ctx_of e36_ok mixed (fn := Go.Proofs.Tryz.f36) (by kernel_rfl) (by kernel_rfl) (by kernel_rfl) (tabOk_none _)
theorem n36 : Enters PR 36 := enters_of (fn := Go.Proofs.Tryz.f36) (by kernel_rfl) (by kernel_rfl) (by kernel_rfl)
noncomputable def g36 : List AV → AH → Nat → Option (Bool × AV × AH) := deepC PR e36 4 2000 36 4096 true
theorem g36_ok : ActOk PR 4096 36 g36 := deepC_ok cx36 rfl rfl

/-! reliquary/reliquarylaw21.ProofKnown -/
noncomputable def e4 : Env := envD eqsT [(16, (fn1 kU c6.agg ofW)), (23, g23), (24, (memoA bsT)), (25, g25), (31, g31), (32, g32), (33, g33), (34, g34), (35, g35)] [] [(27, tx21)] [(26, g26), (28, g28), (29, g29), (30, g30), (36, g36)] [9] false [26, 28, 29, 30, 36]
theorem e4_ok : EnvOk PR e4 := envD_ok eqsT_ok (TabPOk.cons of_ok (TabPOk.cons g23_ok (TabPOk.cons bs_ok (TabPOk.cons g25_ok (TabPOk.cons g31_ok (TabPOk.cons g32_ok (TabPOk.cons g33_ok (TabPOk.cons g34_ok (TabPOk.cons g35_ok TabPOk.nil))))))))) TabHOk.nil (TabLOk.cons tx21_ent tx21_ok TabLOk.nil) (TabDOk.cons n26 g26_ok (TabDOk.cons n28 g28_ok (TabDOk.cons n29 g29_ok (TabDOk.cons n30 g30_ok (TabDOk.cons n36 g36_ok TabDOk.nil)))))
theorem cx4 : Ctx PR e4 [] (fun _ => none) 2000 4 := ctx_of e4_ok mixed (fn := Go.Proofs.Tryz.f4) (by kernel_rfl) (by kernel_rfl) (by kernel_rfl) (tabOk_none _)
theorem n4 : Enters PR 4 := enters_of (fn := Go.Proofs.Tryz.f4) (by kernel_rfl) (by kernel_rfl) (by kernel_rfl)
noncomputable def g4 : List AV → Option (Bool × AV) := (inlineC PR e4 8 2000 4)
theorem g4_ok : CallOk PR 4 g4 := (.inl ⟨n4, inlineC_ok cx4 rfl rfl⟩)
end Go.Rq

/- The law ProofKnown, run through at once. -/
namespace Go.Rq
open Go Go.Proofs
theorem law_pure : PureOk PR 4 g4 := inlineC_ok cx4 rfl rfl
set_option maxRecDepth 1000000 in
theorem law_run : g4 [] = some (true, .v (.bool true)) := by kernel_rfl
end Go.Rq
