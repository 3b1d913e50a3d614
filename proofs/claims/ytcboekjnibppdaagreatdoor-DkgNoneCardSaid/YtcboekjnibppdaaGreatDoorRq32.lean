/- A closed law's functions, each gone through where it is called. Written by a program of ours. -/
import Derived.Test.YtcboekjnibppdaaGreatDoorRq30
import Derived.Test.YtcboekjnibppdaaGreatDoorRq31
import Derived.Test.YtcboekjnibppdaaGreatDoorRq09
namespace Go.Rq
open Go Go.Proofs

/-! reliquary/little.Gen -/
noncomputable def e103 : Env := envD eqsT [(171, g171)] [] [] [] [] false []
theorem e103_ok : EnvOk PR e103 := envD_ok eqsT_ok (TabPOk.cons g171_ok TabPOk.nil) TabHOk.nil TabLOk.nil TabDOk.nil
theorem cx103 : Ctx PR e103 [] (fun _ => none) 2000 103 := ctx_of e103_ok mixed (fn := Go.Proofs.Tryz.f103) (by kernel_rfl) (by kernel_rfl) (by kernel_rfl) (tabOk_none _)
theorem n103 : Enters PR 103 := enters_of (fn := Go.Proofs.Tryz.f103) (by kernel_rfl) (by kernel_rfl) (by kernel_rfl)
noncomputable def g103 : List AV → Option (Bool × AV) := (inlineC PR e103 4 2000 103)
theorem g103_ok : CallOk PR 103 g103 := (.inl ⟨n103, inlineC_ok cx103 rfl rfl⟩)

/-! reliquary/suite.Gen -/
noncomputable def e23 : Env := envD eqsT [(103, g103)] [] [] [] [] false []
theorem e23_ok : EnvOk PR e23 := envD_ok eqsT_ok (TabPOk.cons g103_ok TabPOk.nil) TabHOk.nil TabLOk.nil TabDOk.nil
theorem cx23 : Ctx PR e23 [] (fun _ => none) 2000 23 := ctx_of e23_ok mixed (fn := Go.Proofs.Tryz.f23) (by kernel_rfl) (by kernel_rfl) (by kernel_rfl) (tabOk_none _)
theorem n23 : Enters PR 23 := enters_of (fn := Go.Proofs.Tryz.f23) (by kernel_rfl) (by kernel_rfl) (by kernel_rfl)
noncomputable def g23 : List AV → Option (Bool × AV) := (inlineC PR e23 5 2000 23)
theorem g23_ok : CallOk PR 23 g23 := (.inl ⟨n23, inlineC_ok cx23 rfl rfl⟩)

/-! reliquary/modulus.Base -/
noncomputable def e181 : Env := envD eqsT [] [] [] [] [] false []
theorem e181_ok : EnvOk PR e181 := envD_ok eqsT_ok TabPOk.nil TabHOk.nil TabLOk.nil TabDOk.nil
theorem cx181 : Ctx PR e181 [] (fun _ => none) 2000 181 := ctx_of e181_ok mixed (fn := Go.Proofs.Tryz.f181) (by kernel_rfl) (by kernel_rfl) (by kernel_rfl) (tabOk_none _)
theorem n181 : Enters PR 181 := enters_of (fn := Go.Proofs.Tryz.f181) (by kernel_rfl) (by kernel_rfl) (by kernel_rfl)
noncomputable def g181 : List AV → Option (Bool × AV) := (inlineC PR e181 1 2000 181)
theorem g181_ok : CallOk PR 181 g181 := (.inl ⟨n181, inlineC_ok cx181 rfl rfl⟩)

/-! reliquary/curve.below -/
noncomputable def e275 : Env := envD eqsT [(98, (fn2 c6.agg c6.agg (kInt .i64) fun a b => chainV (cmpL a b) 0)), (181, g181)] [] [] [] [] false []
theorem e275_ok : EnvOk PR e275 := envD_ok eqsT_ok (TabPOk.cons cmp_ok (TabPOk.cons g181_ok TabPOk.nil)) TabHOk.nil TabLOk.nil TabDOk.nil
theorem cx275 : Ctx PR e275 [] (fun _ => none) 2000 275 := ctx_of e275_ok mixed (fn := Go.Proofs.Tryz.f275) (by kernel_rfl) (by kernel_rfl) (by kernel_rfl) (tabOk_none _)
theorem n275 : Enters PR 275 := enters_of (fn := Go.Proofs.Tryz.f275) (by kernel_rfl) (by kernel_rfl) (by kernel_rfl)
noncomputable def g275 : List AV → Option (Bool × AV) := (inlineC PR e275 3 2000 275)
theorem g275_ok : CallOk PR 275 g275 := (.inl ⟨n275, inlineC_ok cx275 rfl rfl⟩)

/-! reliquary/curve.below1 -/
noncomputable def e226 : Env := envD eqsT [(275, g275)] [] [] [] [] false []
theorem e226_ok : EnvOk PR e226 := envD_ok eqsT_ok (TabPOk.cons g275_ok TabPOk.nil) TabHOk.nil TabLOk.nil TabDOk.nil
theorem cx226 : Ctx PR e226 [] (fun _ => none) 2000 226 := ctx_of e226_ok mixed (fn := Go.Proofs.Tryz.f226) (by kernel_rfl) (by kernel_rfl) (by kernel_rfl) (tabOk_none _)
theorem n226 : Enters PR 226 := enters_of (fn := Go.Proofs.Tryz.f226) (by kernel_rfl) (by kernel_rfl) (by kernel_rfl)
noncomputable def g226 : List AV → Option (Bool × AV) := (inlineC PR e226 4 2000 226)
theorem g226_ok : CallOk PR 226 g226 := (.inl ⟨n226, inlineC_ok cx226 rfl rfl⟩)

/-! reliquary/mont.One -/
noncomputable def e280 : Env := envD eqsT [] [] [] [] [] false []
theorem e280_ok : EnvOk PR e280 := envD_ok eqsT_ok TabPOk.nil TabHOk.nil TabLOk.nil TabDOk.nil
theorem cx280 : Ctx PR e280 [] (fun _ => none) 2000 280 := ctx_of e280_ok mixed (fn := Go.Proofs.Tryz.f280) (by kernel_rfl) (by kernel_rfl) (by kernel_rfl) (tabOk_none _)
theorem n280 : Enters PR 280 := enters_of (fn := Go.Proofs.Tryz.f280) (by kernel_rfl) (by kernel_rfl) (by kernel_rfl)
noncomputable def g280 : List AV → Option (Bool × AV) := (inlineC PR e280 1 2000 280)
theorem g280_ok : CallOk PR 280 g280 := (.inl ⟨n280, inlineC_ok cx280 rfl rfl⟩)

/-! reliquary/mont.prime -/
noncomputable def e316 : Env := envD eqsT [] [] [] [] [] false []
theorem e316_ok : EnvOk PR e316 := envD_ok eqsT_ok TabPOk.nil TabHOk.nil TabLOk.nil TabDOk.nil
theorem cx316 : Ctx PR e316 [] (fun _ => none) 2000 316 := ctx_of e316_ok mixed (fn := Go.Proofs.Tryz.f316) (by kernel_rfl) (by kernel_rfl) (by kernel_rfl) (tabOk_none _)
theorem n316 : Enters PR 316 := enters_of (fn := Go.Proofs.Tryz.f316) (by kernel_rfl) (by kernel_rfl) (by kernel_rfl)
noncomputable def g316 : List AV → Option (Bool × AV) := (inlineC PR e316 1 2000 316)
theorem g316_ok : CallOk PR 316 g316 := (.inl ⟨n316, inlineC_ok cx316 rfl rfl⟩)

/-! reliquary/mont.less -/
noncomputable def e315 : Env := envD eqsT [(301, (fn3 kU kU kBit kUB sub64)), (316, g316)] [] [] [] [] false []
theorem e315_ok : EnvOk PR e315 := envD_ok eqsT_ok (TabPOk.cons sub64_ok (TabPOk.cons g316_ok TabPOk.nil)) TabHOk.nil TabLOk.nil TabDOk.nil
theorem cx315 : Ctx PR e315 [] (fun _ => none) 2000 315 := ctx_of e315_ok mixed (fn := Go.Proofs.Tryz.f315) (by kernel_rfl) (by kernel_rfl) (by kernel_rfl) (tabOk_none _)
theorem n315 : Enters PR 315 := enters_of (fn := Go.Proofs.Tryz.f315) (by kernel_rfl) (by kernel_rfl) (by kernel_rfl)
noncomputable def g315 : List AV → Option (Bool × AV) := (inlineC PR e315 5 2000 315)
theorem g315_ok : CallOk PR 315 g315 := (.inl ⟨n315, inlineC_ok cx315 rfl rfl⟩)

/-! reliquary/mont.Mul -/
noncomputable def e278 : Env := envD eqsT [(287, (fn2 kU kU kUU mul64)), (288, (fn3 kU kU kBit kUB add64)), (315, g315), (316, g316)] [] [] [] [] false []
theorem e278_ok : EnvOk PR e278 := envD_ok eqsT_ok (TabPOk.cons mul64_ok (TabPOk.cons add64_ok (TabPOk.cons g315_ok (TabPOk.cons g316_ok TabPOk.nil)))) TabHOk.nil TabLOk.nil TabDOk.nil
theorem cx278 : Ctx PR e278 [] (fun _ => none) 2000 278 := ctx_of e278_ok mixed (fn := Go.Proofs.Tryz.f278) (by kernel_rfl) (by kernel_rfl) (by kernel_rfl) (tabOk_none _)
theorem n278 : Enters PR 278 := enters_of (fn := Go.Proofs.Tryz.f278) (by kernel_rfl) (by kernel_rfl) (by kernel_rfl)
noncomputable def g278 : List AV → Option (Bool × AV) := (inlineC PR e278 8 2000 278)
theorem g278_ok : CallOk PR 278 g278 := (.inl ⟨n278, inlineC_ok cx278 rfl rfl⟩)

/-! reliquary/mont.wide -/
noncomputable def e318 : Env := envD eqsT [] [] [] [] [] false []
theorem e318_ok : EnvOk PR e318 := envD_ok eqsT_ok TabPOk.nil TabHOk.nil TabLOk.nil TabDOk.nil
theorem cx318 : Ctx PR e318 [] (fun _ => none) 2000 318 := ctx_of e318_ok mixed (fn := Go.Proofs.Tryz.f318) (by kernel_rfl) (by kernel_rfl) (by kernel_rfl) (tabOk_none _)
theorem n318 : Enters PR 318 := enters_of (fn := Go.Proofs.Tryz.f318) (by kernel_rfl) (by kernel_rfl) (by kernel_rfl)
noncomputable def g318 : List AV → Option (Bool × AV) := (inlineC PR e318 1 2000 318)
theorem g318_ok : CallOk PR 318 g318 := (.inl ⟨n318, inlineC_ok cx318 rfl rfl⟩)

/-! reliquary/mont.To -/
noncomputable def e281 : Env := envD eqsT [(278, g278), (318, g318)] [] [] [] [] false []
theorem e281_ok : EnvOk PR e281 := envD_ok eqsT_ok (TabPOk.cons g278_ok (TabPOk.cons g318_ok TabPOk.nil)) TabHOk.nil TabLOk.nil TabDOk.nil
theorem cx281 : Ctx PR e281 [] (fun _ => none) 2000 281 := ctx_of e281_ok mixed (fn := Go.Proofs.Tryz.f281) (by kernel_rfl) (by kernel_rfl) (by kernel_rfl) (tabOk_none _)
theorem n281 : Enters PR 281 := enters_of (fn := Go.Proofs.Tryz.f281) (by kernel_rfl) (by kernel_rfl) (by kernel_rfl)
noncomputable def g281 : List AV → Option (Bool × AV) := (inlineC PR e281 3 2000 281)
theorem g281_ok : CallOk PR 281 g281 := (.inl ⟨n281, inlineC_ok cx281 rfl rfl⟩)

/-! reliquary/mont.Add -/
noncomputable def e276 : Env := envD eqsT [(288, (fn3 kU kU kBit kUB add64)), (315, g315)] [] [] [] [] false []
theorem e276_ok : EnvOk PR e276 := envD_ok eqsT_ok (TabPOk.cons add64_ok (TabPOk.cons g315_ok TabPOk.nil)) TabHOk.nil TabLOk.nil TabDOk.nil
theorem cx276 : Ctx PR e276 [] (fun _ => none) 2000 276 := ctx_of e276_ok mixed (fn := Go.Proofs.Tryz.f276) (by kernel_rfl) (by kernel_rfl) (by kernel_rfl) (tabOk_none _)
theorem n276 : Enters PR 276 := enters_of (fn := Go.Proofs.Tryz.f276) (by kernel_rfl) (by kernel_rfl) (by kernel_rfl)
noncomputable def g276 : List AV → Option (Bool × AV) := (inlineC PR e276 5 2000 276)
theorem g276_ok : CallOk PR 276 g276 := (.inl ⟨n276, inlineC_ok cx276 rfl rfl⟩)

/-! reliquary/mont.Sub -/
noncomputable def e277 : Env := envD eqsT [(288, (fn3 kU kU kBit kUB add64)), (301, (fn3 kU kU kBit kUB sub64)), (316, g316)] [] [] [] [] false []
theorem e277_ok : EnvOk PR e277 := envD_ok eqsT_ok (TabPOk.cons add64_ok (TabPOk.cons sub64_ok (TabPOk.cons g316_ok TabPOk.nil))) TabHOk.nil TabLOk.nil TabDOk.nil
theorem cx277 : Ctx PR e277 [] (fun _ => none) 2000 277 := ctx_of e277_ok mixed (fn := Go.Proofs.Tryz.f277) (by kernel_rfl) (by kernel_rfl) (by kernel_rfl) (tabOk_none _)
theorem n277 : Enters PR 277 := enters_of (fn := Go.Proofs.Tryz.f277) (by kernel_rfl) (by kernel_rfl) (by kernel_rfl)
noncomputable def g277 : List AV → Option (Bool × AV) := (inlineC PR e277 6 2000 277)
theorem g277_ok : CallOk PR 277 g277 := (.inl ⟨n277, inlineC_ok cx277 rfl rfl⟩)

/-! reliquary/mont.Pow -/
noncomputable def e317 : Env := envD eqsT [(278, g278), (280, g280)] [] [] [] [] false []
theorem e317_ok : EnvOk PR e317 := envD_ok eqsT_ok (TabPOk.cons g278_ok (TabPOk.cons g280_ok TabPOk.nil)) TabHOk.nil TabLOk.nil TabDOk.nil
theorem cx317 : Ctx PR e317 [] (fun _ => none) 2000 317 := ctx_of e317_ok mixed (fn := Go.Proofs.Tryz.f317) (by kernel_rfl) (by kernel_rfl) (by kernel_rfl) (tabOk_none _)
theorem n317 : Enters PR 317 := enters_of (fn := Go.Proofs.Tryz.f317) (by kernel_rfl) (by kernel_rfl) (by kernel_rfl)
noncomputable def g317 : List AV → Option (Bool × AV) := (inlineC PR e317 5 2000 317)
theorem g317_ok : CallOk PR 317 g317 := (.inl ⟨n317, inlineC_ok cx317 rfl rfl⟩)

/-! reliquary/mont.Inv -/
noncomputable def e279 : Env := envD eqsT [(317, g317)] [] [] [] [] false []
theorem e279_ok : EnvOk PR e279 := envD_ok eqsT_ok (TabPOk.cons g317_ok TabPOk.nil) TabHOk.nil TabLOk.nil TabDOk.nil
theorem cx279 : Ctx PR e279 [] (fun _ => none) 2000 279 := ctx_of e279_ok mixed (fn := Go.Proofs.Tryz.f279) (by kernel_rfl) (by kernel_rfl) (by kernel_rfl) (tabOk_none _)
theorem n279 : Enters PR 279 := enters_of (fn := Go.Proofs.Tryz.f279) (by kernel_rfl) (by kernel_rfl) (by kernel_rfl)
noncomputable def g279 : List AV → Option (Bool × AV) := (inlineC PR e279 3 2000 279)
theorem g279_ok : CallOk PR 279 g279 := (.inl ⟨n279, inlineC_ok cx279 rfl rfl⟩)

/-! reliquary/curve.first -/
noncomputable def e227 : Env := envD eqsT [(16, (fn1 kU c6.agg ofW)), (280, g280), (281, g281)] [] [] [] [] false []
theorem e227_ok : EnvOk PR e227 := envD_ok eqsT_ok (TabPOk.cons of_ok (TabPOk.cons g280_ok (TabPOk.cons g281_ok TabPOk.nil))) TabHOk.nil TabLOk.nil TabDOk.nil
theorem cx227 : Ctx PR e227 [] (fun _ => none) 2000 227 := ctx_of e227_ok mixed (fn := Go.Proofs.Tryz.f227) (by kernel_rfl) (by kernel_rfl) (by kernel_rfl) (tabOk_none _)
theorem n227 : Enters PR 227 := enters_of (fn := Go.Proofs.Tryz.f227) (by kernel_rfl) (by kernel_rfl) (by kernel_rfl)
noncomputable def g227 : List AV → AH → Nat → Option (Bool × AV × AH) := deepC PR e227 3 2000 227 4096 true
theorem g227_ok : ActOk PR 4096 227 g227 := deepC_ok cx227 rfl rfl

/-! (reliquary/curve.field[reliquary/mont.El]).on -/
noncomputable def e282 : Env := envA eqsT [(278, g278), (276, g276)] [] [] [] [] [] true []
theorem e282_ok : EnvOk PR e282 := envA_ok eqsT_ok (TabPOk.cons g278_ok (TabPOk.cons g276_ok TabPOk.nil)) TabHOk.nil TabLOk.nil TabAOk.nil
theorem cx282 : Ctx PR e282 [] (fun _ => none) 2000 282 := ctx_of e282_ok mixed (fn := Go.Proofs.Tryz.f282) (by kernel_rfl) (by kernel_rfl) (by kernel_rfl) (tabOk_none _)
theorem n282 : Enters PR 282 := enters_of (fn := Go.Proofs.Tryz.f282) (by kernel_rfl) (by kernel_rfl) (by kernel_rfl)
noncomputable def g282 : List AV → AH → Nat → Option (Bool × AV × AH) := deepC PR e282 6 2000 282 4096 true
theorem g282_ok : ActOk PR 4096 282 g282 := deepC_ok cx282 rfl rfl

/-! (reliquary/curve.field[reliquary/mont.El]).in -/
noncomputable def e228 : Env := envD eqsT [] [] [] [(282, g282)] [] false [282]
theorem e228_ok : EnvOk PR e228 := envD_ok eqsT_ok TabPOk.nil TabHOk.nil TabLOk.nil (TabDOk.cons n282 g282_ok TabDOk.nil)
theorem cx228 : Ctx PR e228 [] (fun _ => none) 2000 228 := ctx_of e228_ok mixed (fn := Go.Proofs.Tryz.f228) (by kernel_rfl) (by kernel_rfl) (by kernel_rfl) (tabOk_none _)
theorem n228 : Enters PR 228 := enters_of (fn := Go.Proofs.Tryz.f228) (by kernel_rfl) (by kernel_rfl) (by kernel_rfl)
noncomputable def g228 : List AV → AH → Nat → Option (Bool × AV × AH) := deepC PR e228 5 2000 228 4096 true
theorem g228_ok : ActOk PR 4096 228 g228 := deepC_ok cx228 rfl rfl

/-! reliquary/curve.in1 -/
noncomputable def e229 : Env := envD eqsT [(281, g281)] [] [] [] [] false []
theorem e229_ok : EnvOk PR e229 := envD_ok eqsT_ok (TabPOk.cons g281_ok TabPOk.nil) TabHOk.nil TabLOk.nil TabDOk.nil
theorem cx229 : Ctx PR e229 [] (fun _ => none) 2000 229 := ctx_of e229_ok mixed (fn := Go.Proofs.Tryz.f229) (by kernel_rfl) (by kernel_rfl) (by kernel_rfl) (tabOk_none _)
theorem n229 : Enters PR 229 := enters_of (fn := Go.Proofs.Tryz.f229) (by kernel_rfl) (by kernel_rfl) (by kernel_rfl)
noncomputable def g229 : List AV → Option (Bool × AV) := (inlineC PR e229 4 2000 229)
theorem g229_ok : CallOk PR 229 g229 := (.inl ⟨n229, inlineC_ok cx229 rfl rfl⟩)

/-! reliquary/curve.In1 -/
noncomputable def e168 : Env := envD eqsT [(226, g226), (229, g229)] [] [] [(227, g227), (228, g228)] [] false [227, 228]
theorem e168_ok : EnvOk PR e168 := envD_ok eqsT_ok (TabPOk.cons g226_ok (TabPOk.cons g229_ok TabPOk.nil)) TabHOk.nil TabLOk.nil (TabDOk.cons n227 g227_ok (TabDOk.cons n228 g228_ok TabDOk.nil))
theorem cx168 : Ctx PR e168 [] (fun _ => none) 2000 168 := ctx_of e168_ok mixed (fn := Go.Proofs.Tryz.f168) (by kernel_rfl) (by kernel_rfl) (by kernel_rfl) (tabOk_none _)
theorem n168 : Enters PR 168 := enters_of (fn := Go.Proofs.Tryz.f168) (by kernel_rfl) (by kernel_rfl) (by kernel_rfl)
end Go.Rq

/- A closed law's functions, each gone through where it is called. Written by a program of ours. -/
namespace Go.Rq
open Go Go.Proofs
def md168_0 : List AV × AV := ([.agg [.u (BitVec.ofNat 64 0), .u (BitVec.ofNat 64 0), .u (BitVec.ofNat 64 0), .u (BitVec.ofNat 64 0), .u (BitVec.ofNat 64 0), .u (BitVec.ofNat 64 0), .u (BitVec.ofNat 64 0), .u (BitVec.ofNat 64 0), .u (BitVec.ofNat 64 0), .u (BitVec.ofNat 64 0), .u (BitVec.ofNat 64 0), .u (BitVec.ofNat 64 0), .v (.bool false)]], .v (.bool false))
set_option maxRecDepth 1000000 in
theorem mf168_0 : canQ (inlineC PR e168 4 2000 168) md168_0.1 = some (true, md168_0.2) := by kernel_rfl
end Go.Rq

/- A closed law's functions, each gone through where it is called. Written by a program of ours. -/
namespace Go.Rq
open Go Go.Proofs

def mt168 : List (List AV × AV) := [md168_0]
theorem mt168_ok : ∀ p ∈ mt168, canQ (inlineC PR e168 4 2000 168) p.1 = some (true, p.2) := fun p hp => by
  rcases List.mem_cons.1 hp with rfl | hp
  · exact mf168_0
  cases hp
noncomputable def g168 : List AV → Option (Bool × AV) := canP (memoE (canQ (inlineC PR e168 4 2000 168)) mt168)
theorem g168_ok : CallOk PR 168 g168 := canP_ok (memoE_ok (canQ_ok (.inl ⟨n168, inlineC_ok cx168 rfl rfl⟩)) mt168_ok)

/-! reliquary/little.In -/
noncomputable def e169 : Env := envD eqsT [(171, g171), (230, (fn2 kCv cLp.agg kBool (inFT tmAll)))] [] [] [] [] false []
theorem e169_ok : EnvOk PR e169 := envD_ok eqsT_ok (TabPOk.cons g171_ok (TabPOk.cons linT_ok TabPOk.nil)) TabHOk.nil TabLOk.nil TabDOk.nil
theorem cx169 : Ctx PR e169 [] (fun _ => none) 2000 169 := ctx_of e169_ok mixed (fn := Go.Proofs.Tryz.f169) (by kernel_rfl) (by kernel_rfl) (by kernel_rfl) (tabOk_none _)
theorem n169 : Enters PR 169 := enters_of (fn := Go.Proofs.Tryz.f169) (by kernel_rfl) (by kernel_rfl) (by kernel_rfl)
noncomputable def g169 : List AV → Option (Bool × AV) := (inlineC PR e169 5 2000 169)
theorem g169_ok : CallOk PR 169 g169 := (.inl ⟨n169, inlineC_ok cx169 rfl rfl⟩)

/-! reliquary/suite.KeyCheck -/
noncomputable def e101 : Env := envD eqsT [(168, g168), (169, g169)] [] [] [] [] false []
theorem e101_ok : EnvOk PR e101 := envD_ok eqsT_ok (TabPOk.cons g168_ok (TabPOk.cons g169_ok TabPOk.nil)) TabHOk.nil TabLOk.nil TabDOk.nil
theorem cx101 : Ctx PR e101 [] (fun _ => none) 2000 101 := ctx_of e101_ok mixed (fn := Go.Proofs.Tryz.f101) (by kernel_rfl) (by kernel_rfl) (by kernel_rfl) (tabOk_none _)
theorem n101 : Enters PR 101 := enters_of (fn := Go.Proofs.Tryz.f101) (by kernel_rfl) (by kernel_rfl) (by kernel_rfl)
noncomputable def g101 : List AV → Option (Bool × AV) := (inlineC PR e101 5 2000 101)
theorem g101_ok : CallOk PR 101 g101 := (.inl ⟨n101, inlineC_ok cx101 rfl rfl⟩)

/-! reliquary/little.Order -/
noncomputable def e202 : Env := envD eqsT [(171, g171)] [] [] [] [] false []
theorem e202_ok : EnvOk PR e202 := envD_ok eqsT_ok (TabPOk.cons g171_ok TabPOk.nil) TabHOk.nil TabLOk.nil TabDOk.nil
theorem cx202 : Ctx PR e202 [] (fun _ => none) 2000 202 := ctx_of e202_ok mixed (fn := Go.Proofs.Tryz.f202) (by kernel_rfl) (by kernel_rfl) (by kernel_rfl) (tabOk_none _)
theorem n202 : Enters PR 202 := enters_of (fn := Go.Proofs.Tryz.f202) (by kernel_rfl) (by kernel_rfl) (by kernel_rfl)
noncomputable def g202 : List AV → Option (Bool × AV) := (inlineC PR e202 4 2000 202)
theorem g202_ok : CallOk PR 202 g202 := (.inl ⟨n202, inlineC_ok cx202 rfl rfl⟩)

/-! reliquary/suite.order -/
noncomputable def e123 : Env := envD eqsT [(16, (fn1 kU c6.agg ofW)), (202, g202)] [] [] [] [] false []
theorem e123_ok : EnvOk PR e123 := envD_ok eqsT_ok (TabPOk.cons of_ok (TabPOk.cons g202_ok TabPOk.nil)) TabHOk.nil TabLOk.nil TabDOk.nil
theorem cx123 : Ctx PR e123 [] (fun _ => none) 2000 123 := ctx_of e123_ok mixed (fn := Go.Proofs.Tryz.f123) (by kernel_rfl) (by kernel_rfl) (by kernel_rfl) (tabOk_none _)
theorem n123 : Enters PR 123 := enters_of (fn := Go.Proofs.Tryz.f123) (by kernel_rfl) (by kernel_rfl) (by kernel_rfl)
noncomputable def g123 : List AV → Option (Bool × AV) := (inlineC PR e123 4 2000 123)
theorem g123_ok : CallOk PR 123 g123 := (.inl ⟨n123, inlineC_ok cx123 rfl rfl⟩)

/-! reliquary/suite.keys -/
noncomputable def e111 : Env := envD eqsT [(98, (fn2 c6.agg c6.agg (kInt .i64) fun a b => chainV (cmpL a b) 0)), (101, g101), (123, g123)] [] [] [] [] false []
theorem e111_ok : EnvOk PR e111 := envD_ok eqsT_ok (TabPOk.cons cmp_ok (TabPOk.cons g101_ok (TabPOk.cons g123_ok TabPOk.nil))) TabHOk.nil TabLOk.nil TabDOk.nil
theorem cx111 : Ctx PR e111 [] (fun _ => none) 2000 111 := ctx_of e111_ok mixed (fn := Go.Proofs.Tryz.f111) (by kernel_rfl) (by kernel_rfl) (by kernel_rfl) (tabOk_none _)
theorem n111 : Enters PR 111 := enters_of (fn := Go.Proofs.Tryz.f111) (by kernel_rfl) (by kernel_rfl) (by kernel_rfl)
noncomputable def g111 : List AV → AH → Nat → Option (Bool × AV × AH) := deepC PR e111 6 2000 111 4096 true
theorem g111_ok : ActOk PR 4096 111 g111 := deepC_ok cx111 rfl rfl

/-! reliquary/little.Mul -/
noncomputable def e113 : Env := envD eqsT [(188, (fn3 kCv cLp.agg kU cLp.agg (lTimesT tmAll)))] [] [] [(187, g187)] [] false [187]
theorem e113_ok : EnvOk PR e113 := envD_ok eqsT_ok (TabPOk.cons tmT_ok TabPOk.nil) TabHOk.nil TabLOk.nil (TabDOk.cons n187 g187_ok TabDOk.nil)
theorem cx113 : Ctx PR e113 [] (fun _ => none) 2000 113 := ctx_of e113_ok mixed (fn := Go.Proofs.Tryz.f113) (by kernel_rfl) (by kernel_rfl) (by kernel_rfl) (tabOk_none _)
theorem n113 : Enters PR 113 := enters_of (fn := Go.Proofs.Tryz.f113) (by kernel_rfl) (by kernel_rfl) (by kernel_rfl)
noncomputable def g113 : List AV → Option (Bool × AV) := (inlineC PR e113 5 2000 113)
theorem g113_ok : CallOk PR 113 g113 := (.inl ⟨n113, inlineC_ok cx113 rfl rfl⟩)

/-! reliquary/suite.KeyMul -/
noncomputable def e25 : Env := envD eqsT [(113, g113)] [] [] [(111, g111)] [] false [111]
theorem e25_ok : EnvOk PR e25 := envD_ok eqsT_ok (TabPOk.cons g113_ok TabPOk.nil) TabHOk.nil TabLOk.nil (TabDOk.cons n111 g111_ok TabDOk.nil)
theorem cx25 : Ctx PR e25 [] (fun _ => none) 2000 25 := ctx_of e25_ok mixed (fn := Go.Proofs.Tryz.f25) (by kernel_rfl) (by kernel_rfl) (by kernel_rfl) (tabOk_none _)
theorem n25 : Enters PR 25 := enters_of (fn := Go.Proofs.Tryz.f25) (by kernel_rfl) (by kernel_rfl) (by kernel_rfl)
noncomputable def g25 : List AV → Option (Bool × AV) := (inlineC PR e25 6 2000 25)
theorem g25_ok : CallOk PR 25 g25 := (.inl ⟨n25, inlineC_ok cx25 rfl rfl⟩)

/-! reliquary/suite.Order -/
noncomputable def e34 : Env := envD eqsT [(104, g104), (123, g123)] [] [] [] [] false []
theorem e34_ok : EnvOk PR e34 := envD_ok eqsT_ok (TabPOk.cons g104_ok (TabPOk.cons g123_ok TabPOk.nil)) TabHOk.nil TabLOk.nil TabDOk.nil
theorem cx34 : Ctx PR e34 [] (fun _ => none) 2000 34 := ctx_of e34_ok mixed (fn := Go.Proofs.Tryz.f34) (by kernel_rfl) (by kernel_rfl) (by kernel_rfl) (tabOk_none _)
theorem n34 : Enters PR 34 := enters_of (fn := Go.Proofs.Tryz.f34) (by kernel_rfl) (by kernel_rfl) (by kernel_rfl)
noncomputable def g34 : List AV → Option (Bool × AV) := (inlineC PR e34 4 2000 34)
theorem g34_ok : CallOk PR 34 g34 := (.inl ⟨n34, inlineC_ok cx34 rfl rfl⟩)

/-! reliquary/little.Add -/
noncomputable def e167 : Env := envD eqsT [(225, (fn3 kCv cLp.agg cLp.agg cLp.agg lSum))] [] [] [(187, g187)] [] false [187]
theorem e167_ok : EnvOk PR e167 := envD_ok eqsT_ok (TabPOk.cons lsm_ok TabPOk.nil) TabHOk.nil TabLOk.nil (TabDOk.cons n187 g187_ok TabDOk.nil)
theorem cx167 : Ctx PR e167 [] (fun _ => none) 2000 167 := ctx_of e167_ok mixed (fn := Go.Proofs.Tryz.f167) (by kernel_rfl) (by kernel_rfl) (by kernel_rfl) (tabOk_none _)
theorem n167 : Enters PR 167 := enters_of (fn := Go.Proofs.Tryz.f167) (by kernel_rfl) (by kernel_rfl) (by kernel_rfl)
noncomputable def g167 : List AV → Option (Bool × AV) := (inlineC PR e167 5 2000 167)
theorem g167_ok : CallOk PR 167 g167 := (.inl ⟨n167, inlineC_ok cx167 rfl rfl⟩)

/-! reliquary/suite.KeyAdd -/
noncomputable def e99 : Env := envD eqsT [(167, g167)] [] [] [(111, g111)] [] false [111]
theorem e99_ok : EnvOk PR e99 := envD_ok eqsT_ok (TabPOk.cons g167_ok TabPOk.nil) TabHOk.nil TabLOk.nil (TabDOk.cons n111 g111_ok TabDOk.nil)
theorem cx99 : Ctx PR e99 [] (fun _ => none) 2000 99 := ctx_of e99_ok mixed (fn := Go.Proofs.Tryz.f99) (by kernel_rfl) (by kernel_rfl) (by kernel_rfl) (tabOk_none _)
theorem n99 : Enters PR 99 := enters_of (fn := Go.Proofs.Tryz.f99) (by kernel_rfl) (by kernel_rfl) (by kernel_rfl)
noncomputable def g99 : List AV → Option (Bool × AV) := (inlineC PR e99 6 2000 99)
theorem g99_ok : CallOk PR 99 g99 := (.inl ⟨n99, inlineC_ok cx99 rfl rfl⟩)

/-! reliquary/pledge.One -/
noncomputable def e15 : Env := envD eqsT [(23, g23), (24, (memoA bsT)), (25, g25), (34, g34), (98, (fn2 c6.agg c6.agg (kInt .i64) fun a b => chainV (cmpL a b) 0)), (99, g99)] [] [] [] [] false []
theorem e15_ok : EnvOk PR e15 := envD_ok eqsT_ok (TabPOk.cons g23_ok (TabPOk.cons bs_ok (TabPOk.cons g25_ok (TabPOk.cons g34_ok (TabPOk.cons cmp_ok (TabPOk.cons g99_ok TabPOk.nil)))))) TabHOk.nil TabLOk.nil TabDOk.nil
theorem cx15 : Ctx PR e15 [] (fun _ => none) 2000 15 := ctx_of e15_ok mixed (fn := Go.Proofs.Tryz.f15) (by kernel_rfl) (by kernel_rfl) (by kernel_rfl) (tabOk_none _)
theorem n15 : Enters PR 15 := enters_of (fn := Go.Proofs.Tryz.f15) (by kernel_rfl) (by kernel_rfl) (by kernel_rfl)
noncomputable def g15 : List AV → Option (Bool × AV) := (inlineC PR e15 7 2000 15)
theorem g15_ok : CallOk PR 15 g15 := (.inl ⟨n15, inlineC_ok cx15 rfl rfl⟩)

/-! reliquary/pledge.Commit -/
noncomputable def e13 : Env := envD eqsT [(15, g15), (34, g34)] [] [] [] [] false []
theorem e13_ok : EnvOk PR e13 := envD_ok eqsT_ok (TabPOk.cons g15_ok (TabPOk.cons g34_ok TabPOk.nil)) TabHOk.nil TabLOk.nil TabDOk.nil
theorem cx13 : Ctx PR e13 [] (fun _ => none) 2000 13 := ctx_of e13_ok mixed (fn := Go.Proofs.Tryz.f13) (by kernel_rfl) (by kernel_rfl) (by kernel_rfl) (tabOk_none _)
theorem n13 : Enters PR 13 := enters_of (fn := Go.Proofs.Tryz.f13) (by kernel_rfl) (by kernel_rfl) (by kernel_rfl)
noncomputable def g13 : List AV → AH → Nat → Option (Bool × AV × AH) := deepC PR e13 7 2000 13 4096 true
theorem g13_ok : ActOk PR 4096 13 g13 := deepC_ok cx13 rfl rfl

/-! reliquary/reliquarylaw22.two -/
noncomputable def e74 : Env := envD eqsT [(16, (fn1 kU c6.agg ofW))] [] [] [] [] false []
theorem e74_ok : EnvOk PR e74 := envD_ok eqsT_ok (TabPOk.cons of_ok TabPOk.nil) TabHOk.nil TabLOk.nil TabDOk.nil
theorem cx74 : Ctx PR e74 [] (fun _ => none) 2000 74 := ctx_of e74_ok mixed (fn := Go.Proofs.Tryz.f74) (by kernel_rfl) (by kernel_rfl) (by kernel_rfl) (tabOk_none _)
theorem n74 : Enters PR 74 := enters_of (fn := Go.Proofs.Tryz.f74) (by kernel_rfl) (by kernel_rfl) (by kernel_rfl)
noncomputable def g74 : List AV → AH → Nat → Option (Bool × AV × AH) := deepC PR e74 4 2000 74 4096 true
theorem g74_ok : ActOk PR 4096 74 g74 := deepC_ok cx74 rfl rfl

/-! reliquary/pledge.Check -/
noncomputable def e22 : Env := envD eqsT [(101, g101)] [] [] [] [] false []
theorem e22_ok : EnvOk PR e22 := envD_ok eqsT_ok (TabPOk.cons g101_ok TabPOk.nil) TabHOk.nil TabLOk.nil TabDOk.nil
theorem cx22 : Ctx PR e22 [] (fun _ => none) 2000 22 := ctx_of e22_ok mixed (fn := Go.Proofs.Tryz.f22) (by kernel_rfl) (by kernel_rfl) (by kernel_rfl) (tabOk_none _)
theorem n22 : Enters PR 22 := enters_of (fn := Go.Proofs.Tryz.f22) (by kernel_rfl) (by kernel_rfl) (by kernel_rfl)
noncomputable def g22 : List AV → AH → Nat → Option (Bool × AV × AH) := deepC PR e22 6 2000 22 4096 true
theorem g22_ok : ActOk PR 4096 22 g22 := deepC_ok cx22 rfl rfl

/-! reliquary/share.Faults -/
noncomputable def e125 : Env := envD eqsT [] [] [] [] [] false []
theorem e125_ok : EnvOk PR e125 := envD_ok eqsT_ok TabPOk.nil TabHOk.nil TabLOk.nil TabDOk.nil
theorem cx125 : Ctx PR e125 [] (fun _ => none) 2000 125 := ctx_of e125_ok mixed (fn := Go.Proofs.Tryz.f125) (by kernel_rfl) (by kernel_rfl) (by kernel_rfl) (tabOk_none _)
theorem n125 : Enters PR 125 := enters_of (fn := Go.Proofs.Tryz.f125) (by kernel_rfl) (by kernel_rfl) (by kernel_rfl)
noncomputable def g125 : List AV → Option (Bool × AV) := (inlineC PR e125 3 2000 125)
theorem g125_ok : CallOk PR 125 g125 := (.inl ⟨n125, inlineC_ok cx125 rfl rfl⟩)

/-! (*reliquary/dkg.Session).none -/
noncomputable def e156 : Env := envD eqsT [] [] [] [] [] false []
theorem e156_ok : EnvOk PR e156 := envD_ok eqsT_ok TabPOk.nil TabHOk.nil TabLOk.nil TabDOk.nil
theorem cx156 : Ctx PR e156 [] (fun _ => none) 2000 156 := ctx_of e156_ok mixed (fn := Go.Proofs.Tryz.f156) (by kernel_rfl) (by kernel_rfl) (by kernel_rfl) (tabOk_none _)
theorem n156 : Enters PR 156 := enters_of (fn := Go.Proofs.Tryz.f156) (by kernel_rfl) (by kernel_rfl) (by kernel_rfl)
noncomputable def g156 : List AV → AH → Nat → Option (Bool × AV × AH) := deepC PR e156 4 2000 156 4096 true
theorem g156_ok : ActOk PR 4096 156 g156 := deepC_ok cx156 rfl rfl

/-! (*reliquary/dkg.Session).Faults -/
noncomputable def e86 : Env := envD eqsT [(125, g125)] [] [] [(156, g156)] [] false [156]
theorem e86_ok : EnvOk PR e86 := envD_ok eqsT_ok (TabPOk.cons g125_ok TabPOk.nil) TabHOk.nil TabLOk.nil (TabDOk.cons n156 g156_ok TabDOk.nil)
theorem cx86 : Ctx PR e86 [] (fun _ => none) 2000 86 := ctx_of e86_ok mixed (fn := Go.Proofs.Tryz.f86) (by kernel_rfl) (by kernel_rfl) (by kernel_rfl) (tabOk_none _)
theorem n86 : Enters PR 86 := enters_of (fn := Go.Proofs.Tryz.f86) (by kernel_rfl) (by kernel_rfl) (by kernel_rfl)
noncomputable def g86 : List AV → AH → Nat → Option (Bool × AV × AH) := deepC PR e86 4 2000 86 4096 true
theorem g86_ok : ActOk PR 4096 86 g86 := deepC_ok cx86 rfl rfl

/-! slices.Clone[[]reliquary/api.Key,reliquary/api.Key] -/
noncomputable def e133 : Env := envD eqsT [] [] [] [] [] false []
theorem e133_ok : EnvOk PR e133 := envD_ok eqsT_ok TabPOk.nil TabHOk.nil TabLOk.nil TabDOk.nil
theorem cx133 : Ctx PR e133 [] (fun _ => none) 2000 133 := ctx_of e133_ok mixed (fn := Go.Proofs.Tryz.f133) (by kernel_rfl) (by kernel_rfl) (by kernel_rfl) (tabOk_none _)
theorem n133 : Enters PR 133 := enters_of (fn := Go.Proofs.Tryz.f133) (by kernel_rfl) (by kernel_rfl) (by kernel_rfl)
noncomputable def g133 : List AV → AH → Nat → Option (Bool × AV × AH) := deepC PR e133 3 2000 133 4096 true
theorem g133_ok : ActOk PR 4096 133 g133 := deepC_ok cx133 rfl rfl

/-! (*reliquary/dkg.Session).nodes$1 -/
noncomputable def e221 : Env := envD eqsT [] [] [] [] [] false []
theorem e221_ok : EnvOk PR e221 := envD_ok eqsT_ok TabPOk.nil TabHOk.nil TabLOk.nil TabDOk.nil
theorem cx221 : Ctx PR e221 [] (fun _ => none) 2000 221 := ctx_of e221_ok mixed (fn := Go.Proofs.Tryz.f221) (by kernel_rfl) (by kernel_rfl) (by kernel_rfl) (tabOk_none _)
theorem n221 : Enters PR 221 := enters_of (fn := Go.Proofs.Tryz.f221) (by kernel_rfl) (by kernel_rfl) (by kernel_rfl)
noncomputable def g221 : List AV → AH → Nat → Option (Bool × AV × AH) := deepC PR e221 4 2000 221 4096 true
theorem g221_ok : ActOk PR 4096 221 g221 := deepC_ok cx221 rfl rfl

/-! reliquary/share.places$1 -/
noncomputable def e303 : Env := envD eqsT [] [] [] [] [] false []
theorem e303_ok : EnvOk PR e303 := envD_ok eqsT_ok TabPOk.nil TabHOk.nil TabLOk.nil TabDOk.nil
theorem cx303 : Ctx PR e303 [] (fun _ => none) 2000 303 := ctx_of e303_ok mixed (fn := Go.Proofs.Tryz.f303) (by kernel_rfl) (by kernel_rfl) (by kernel_rfl) (tabOk_none _)
theorem n303 : Enters PR 303 := enters_of (fn := Go.Proofs.Tryz.f303) (by kernel_rfl) (by kernel_rfl) (by kernel_rfl)
noncomputable def g303 : List AV → Option (Bool × AV) := (inlineC PR e303 4 2000 303)
theorem g303_ok : CallOk PR 303 g303 := (.inl ⟨n303, inlineC_ok cx303 rfl rfl⟩)

/-! (*reliquary/dkg.Session).Accuse$1 -/
noncomputable def e163 : Env := envD eqsT [] [] [] [] [] false []
theorem e163_ok : EnvOk PR e163 := envD_ok eqsT_ok TabPOk.nil TabHOk.nil TabLOk.nil TabDOk.nil
theorem cx163 : Ctx PR e163 [] (fun _ => none) 2000 163 := ctx_of e163_ok mixed (fn := Go.Proofs.Tryz.f163) (by kernel_rfl) (by kernel_rfl) (by kernel_rfl) (tabOk_none _)
theorem n163 : Enters PR 163 := enters_of (fn := Go.Proofs.Tryz.f163) (by kernel_rfl) (by kernel_rfl) (by kernel_rfl)
noncomputable def g163 : List AV → AH → Nat → Option (Bool × AV × AH) := deepC PR e163 3 2000 163 4096 true
theorem g163_ok : ActOk PR 4096 163 g163 := deepC_ok cx163 rfl rfl

/-! slices.IndexFunc[[]int,int] -/
noncomputable def e224 : Env := envD eqsT [(303, g303)] [] [] [(221, g221), (163, g163)] [] false [221, 163]
theorem e224_ok : EnvOk PR e224 := envD_ok eqsT_ok (TabPOk.cons g303_ok TabPOk.nil) TabHOk.nil TabLOk.nil (TabDOk.cons n221 g221_ok (TabDOk.cons n163 g163_ok TabDOk.nil))
theorem cx224 : Ctx PR e224 [] (fun _ => none) 2000 224 := ctx_of e224_ok mixed (fn := Go.Proofs.Tryz.f224) (by kernel_rfl) (by kernel_rfl) (by kernel_rfl) (tabOk_none _)
theorem n224 : Enters PR 224 := enters_of (fn := Go.Proofs.Tryz.f224) (by kernel_rfl) (by kernel_rfl) (by kernel_rfl)
noncomputable def g224 : List AV → AH → Nat → Option (Bool × AV × AH) := deepC PR e224 5 2000 224 4096 true
theorem g224_ok : ActOk PR 4096 224 g224 := deepC_ok cx224 rfl rfl

/-! slices.ContainsFunc[[]int,int] -/
noncomputable def e220 : Env := envD eqsT [] [] [] [(224, g224)] [] false [224]
theorem e220_ok : EnvOk PR e220 := envD_ok eqsT_ok TabPOk.nil TabHOk.nil TabLOk.nil (TabDOk.cons n224 g224_ok TabDOk.nil)
theorem cx220 : Ctx PR e220 [] (fun _ => none) 2000 220 := ctx_of e220_ok mixed (fn := Go.Proofs.Tryz.f220) (by kernel_rfl) (by kernel_rfl) (by kernel_rfl) (tabOk_none _)
theorem n220 : Enters PR 220 := enters_of (fn := Go.Proofs.Tryz.f220) (by kernel_rfl) (by kernel_rfl) (by kernel_rfl)
noncomputable def g220 : List AV → AH → Nat → Option (Bool × AV × AH) := deepC PR e220 4 2000 220 4096 true
theorem g220_ok : ActOk PR 4096 220 g220 := deepC_ok cx220 rfl rfl

/-! (*reliquary/dkg.Session).nodes -/
noncomputable def e152 : Env := envD eqsT [] [] [] [(156, g156), (220, g220)] [] false [156, 220]
theorem e152_ok : EnvOk PR e152 := envD_ok eqsT_ok TabPOk.nil TabHOk.nil TabLOk.nil (TabDOk.cons n156 g156_ok (TabDOk.cons n220 g220_ok TabDOk.nil))
theorem cx152 : Ctx PR e152 [] (fun _ => none) 2000 152 := ctx_of e152_ok mixed (fn := Go.Proofs.Tryz.f152) (by kernel_rfl) (by kernel_rfl) (by kernel_rfl) (tabOk_none _)
theorem n152 : Enters PR 152 := enters_of (fn := Go.Proofs.Tryz.f152) (by kernel_rfl) (by kernel_rfl) (by kernel_rfl)
noncomputable def g152 : List AV → AH → Nat → Option (Bool × AV × AH) := deepC PR e152 4 2000 152 4096 true
theorem g152_ok : ActOk PR 4096 152 g152 := deepC_ok cx152 rfl rfl

/-! (*reliquary/dkg.Session).Deal -/
noncomputable def e75 : Env := envD eqsT [] [] [] [(22, g22), (86, g86), (133, g133), (152, g152)] [] false [22, 86, 133, 152]
theorem e75_ok : EnvOk PR e75 := envD_ok eqsT_ok TabPOk.nil TabHOk.nil TabLOk.nil (TabDOk.cons n22 g22_ok (TabDOk.cons n86 g86_ok (TabDOk.cons n133 g133_ok (TabDOk.cons n152 g152_ok TabDOk.nil))))
theorem cx75 : Ctx PR e75 [] (fun _ => none) 2000 75 := ctx_of e75_ok mixed (fn := Go.Proofs.Tryz.f75) (by kernel_rfl) (by kernel_rfl) (by kernel_rfl) (tabOk_none _)
theorem n75 : Enters PR 75 := enters_of (fn := Go.Proofs.Tryz.f75) (by kernel_rfl) (by kernel_rfl) (by kernel_rfl)
noncomputable def g75 : List AV → AH → Nat → Option (Bool × AV × AH) := deepC PR e75 6 2000 75 4096 false
theorem g75_ok : ActOk PR 4096 75 g75 := deepC_ok cx75 rfl rfl

/-! (*reliquary/dkg.Session).Quorum -/
noncomputable def e87 : Env := envD eqsT [] [] [] [(86, g86), (156, g156)] [] false [86, 156]
theorem e87_ok : EnvOk PR e87 := envD_ok eqsT_ok TabPOk.nil TabHOk.nil TabLOk.nil (TabDOk.cons n86 g86_ok (TabDOk.cons n156 g156_ok TabDOk.nil))
theorem cx87 : Ctx PR e87 [] (fun _ => none) 2000 87 := ctx_of e87_ok mixed (fn := Go.Proofs.Tryz.f87) (by kernel_rfl) (by kernel_rfl) (by kernel_rfl) (tabOk_none _)
theorem n87 : Enters PR 87 := enters_of (fn := Go.Proofs.Tryz.f87) (by kernel_rfl) (by kernel_rfl) (by kernel_rfl)
noncomputable def g87 : List AV → AH → Nat → Option (Bool × AV × AH) := deepC PR e87 4 2000 87 4096 true
theorem g87_ok : ActOk PR 4096 87 g87 := deepC_ok cx87 rfl rfl

/-! (*reliquary/dkg.Session).live -/
noncomputable def e158 : Env := envD eqsT [] [] [] [] [] false []
theorem e158_ok : EnvOk PR e158 := envD_ok eqsT_ok TabPOk.nil TabHOk.nil TabLOk.nil TabDOk.nil
theorem cx158 : Ctx PR e158 [] (fun _ => none) 2000 158 := ctx_of e158_ok mixed (fn := Go.Proofs.Tryz.f158) (by kernel_rfl) (by kernel_rfl) (by kernel_rfl) (tabOk_none _)
theorem n158 : Enters PR 158 := enters_of (fn := Go.Proofs.Tryz.f158) (by kernel_rfl) (by kernel_rfl) (by kernel_rfl)
noncomputable def g158 : List AV → AH → Nat → Option (Bool × AV × AH) := deepC PR e158 5 2000 158 4096 true
theorem g158_ok : ActOk PR 4096 158 g158 := deepC_ok cx158 rfl rfl

/-! reliquary/pledge.Sum -/
noncomputable def e19 : Env := envD eqsT [(99, g99)] [] [] [(22, g22)] [] false [22]
theorem e19_ok : EnvOk PR e19 := envD_ok eqsT_ok (TabPOk.cons g99_ok TabPOk.nil) TabHOk.nil TabLOk.nil (TabDOk.cons n22 g22_ok TabDOk.nil)
theorem cx19 : Ctx PR e19 [] (fun _ => none) 2000 19 := ctx_of e19_ok mixed (fn := Go.Proofs.Tryz.f19) (by kernel_rfl) (by kernel_rfl) (by kernel_rfl) (tabOk_none _)
theorem n19 : Enters PR 19 := enters_of (fn := Go.Proofs.Tryz.f19) (by kernel_rfl) (by kernel_rfl) (by kernel_rfl)
noncomputable def g19 : List AV → AH → Nat → Option (Bool × AV × AH) := deepC PR e19 7 2000 19 4096 true
theorem g19_ok : ActOk PR 4096 19 g19 := deepC_ok cx19 rfl rfl

/-! (*reliquary/dkg.Session).close -/
noncomputable def e159 : Env := envD eqsT [] [] [] [(19, g19), (86, g86)] [] false [19, 86]
theorem e159_ok : EnvOk PR e159 := envD_ok eqsT_ok TabPOk.nil TabHOk.nil TabLOk.nil (TabDOk.cons n19 g19_ok (TabDOk.cons n86 g86_ok TabDOk.nil))
theorem cx159 : Ctx PR e159 [] (fun _ => none) 2000 159 := ctx_of e159_ok mixed (fn := Go.Proofs.Tryz.f159) (by kernel_rfl) (by kernel_rfl) (by kernel_rfl) (tabOk_none _)
theorem n159 : Enters PR 159 := enters_of (fn := Go.Proofs.Tryz.f159) (by kernel_rfl) (by kernel_rfl) (by kernel_rfl)
noncomputable def g159 : List AV → AH → Nat → Option (Bool × AV × AH) := deepC PR e159 6 2000 159 4096 false
theorem g159_ok : ActOk PR 4096 159 g159 := deepC_ok cx159 rfl rfl

/-! (*reliquary/dkg.Session).Ack -/
noncomputable def e76 : Env := envD eqsT [] [] [] [(87, g87), (152, g152), (158, g158), (159, g159)] [] false [87, 152, 158]
theorem e76_ok : EnvOk PR e76 := envD_ok eqsT_ok TabPOk.nil TabHOk.nil TabLOk.nil (TabDOk.cons n87 g87_ok (TabDOk.cons n152 g152_ok (TabDOk.cons n158 g158_ok (TabDOk.cons n159 g159_ok TabDOk.nil))))
theorem cx76 : Ctx PR e76 [] (fun _ => none) 2000 76 := ctx_of e76_ok mixed (fn := Go.Proofs.Tryz.f76) (by kernel_rfl) (by kernel_rfl) (by kernel_rfl) (tabOk_none _)
theorem n76 : Enters PR 76 := enters_of (fn := Go.Proofs.Tryz.f76) (by kernel_rfl) (by kernel_rfl) (by kernel_rfl)
noncomputable def g76 : List AV → AH → Nat → Option (Bool × AV × AH) := deepC PR e76 7 2000 76 4096 false
theorem g76_ok : ActOk PR 4096 76 g76 := deepC_ok cx76 rfl rfl

/-! slices.Clone[[]byte,byte] -/
noncomputable def e134 : Env := envD eqsT [] [] [] [] [] false []
theorem e134_ok : EnvOk PR e134 := envD_ok eqsT_ok TabPOk.nil TabHOk.nil TabLOk.nil TabDOk.nil
theorem cx134 : Ctx PR e134 [] (fun _ => none) 2000 134 := ctx_of e134_ok mixed (fn := Go.Proofs.Tryz.f134) (by kernel_rfl) (by kernel_rfl) (by kernel_rfl) (tabOk_none _)
theorem n134 : Enters PR 134 := enters_of (fn := Go.Proofs.Tryz.f134) (by kernel_rfl) (by kernel_rfl) (by kernel_rfl)
noncomputable def g134 : List AV → AH → Nat → Option (Bool × AV × AH) := deepC PR e134 3 2000 134 4096 true
theorem g134_ok : ActOk PR 4096 134 g134 := deepC_ok cx134 rfl rfl

/-! reliquary/dkg.New -/
noncomputable def e77 : Env := envD eqsT [(34, g34)] [] [] [(134, g134)] [] false [134]
theorem e77_ok : EnvOk PR e77 := envD_ok eqsT_ok (TabPOk.cons g34_ok TabPOk.nil) TabHOk.nil TabLOk.nil (TabDOk.cons n134 g134_ok TabDOk.nil)
theorem cx77 : Ctx PR e77 [] (fun _ => none) 2000 77 := ctx_of e77_ok mixed (fn := Go.Proofs.Tryz.f77) (by kernel_rfl) (by kernel_rfl) (by kernel_rfl) (tabOk_none _)
theorem n77 : Enters PR 77 := enters_of (fn := Go.Proofs.Tryz.f77) (by kernel_rfl) (by kernel_rfl) (by kernel_rfl)
noncomputable def g77 : List AV → AH → Nat → Option (Bool × AV × AH) := deepC PR e77 6 2000 77 4096 true
theorem g77_ok : ActOk PR 4096 77 g77 := deepC_ok cx77 rfl rfl

/-! (*reliquary/dkg.Session).Closed -/
noncomputable def e85 : Env := envD eqsT [] [] [] [(156, g156)] [] false [156]
theorem e85_ok : EnvOk PR e85 := envD_ok eqsT_ok TabPOk.nil TabHOk.nil TabLOk.nil (TabDOk.cons n156 g156_ok TabDOk.nil)
theorem cx85 : Ctx PR e85 [] (fun _ => none) 2000 85 := ctx_of e85_ok mixed (fn := Go.Proofs.Tryz.f85) (by kernel_rfl) (by kernel_rfl) (by kernel_rfl) (tabOk_none _)
theorem n85 : Enters PR 85 := enters_of (fn := Go.Proofs.Tryz.f85) (by kernel_rfl) (by kernel_rfl) (by kernel_rfl)
noncomputable def g85 : List AV → AH → Nat → Option (Bool × AV × AH) := deepC PR e85 4 2000 85 4096 true
theorem g85_ok : ActOk PR 4096 85 g85 := deepC_ok cx85 rfl rfl

/-! slices.Clone[[]int,int] -/
noncomputable def e164 : Env := envD eqsT [] [] [] [] [] false []
theorem e164_ok : EnvOk PR e164 := envD_ok eqsT_ok TabPOk.nil TabHOk.nil TabLOk.nil TabDOk.nil
theorem cx164 : Ctx PR e164 [] (fun _ => none) 2000 164 := ctx_of e164_ok mixed (fn := Go.Proofs.Tryz.f164) (by kernel_rfl) (by kernel_rfl) (by kernel_rfl) (tabOk_none _)
theorem n164 : Enters PR 164 := enters_of (fn := Go.Proofs.Tryz.f164) (by kernel_rfl) (by kernel_rfl) (by kernel_rfl)
noncomputable def g164 : List AV → AH → Nat → Option (Bool × AV × AH) := deepC PR e164 3 2000 164 4096 true
theorem g164_ok : ActOk PR 4096 164 g164 := deepC_ok cx164 rfl rfl

/-! (*reliquary/dkg.Session).Dealers -/
noncomputable def e84 : Env := envD eqsT [] [] [] [(85, g85), (164, g164)] [] false [85, 164]
theorem e84_ok : EnvOk PR e84 := envD_ok eqsT_ok TabPOk.nil TabHOk.nil TabLOk.nil (TabDOk.cons n85 g85_ok (TabDOk.cons n164 g164_ok TabDOk.nil))
theorem cx84 : Ctx PR e84 [] (fun _ => none) 2000 84 := ctx_of e84_ok mixed (fn := Go.Proofs.Tryz.f84) (by kernel_rfl) (by kernel_rfl) (by kernel_rfl) (tabOk_none _)
theorem n84 : Enters PR 84 := enters_of (fn := Go.Proofs.Tryz.f84) (by kernel_rfl) (by kernel_rfl) (by kernel_rfl)
noncomputable def g84 : List AV → AH → Nat → Option (Bool × AV × AH) := deepC PR e84 4 2000 84 4096 true
theorem g84_ok : ActOk PR 4096 84 g84 := deepC_ok cx84 rfl rfl

/-! reliquary/reliquarykit.SameInts -/
noncomputable def e151 : Env := envD eqsT [] [] [] [] [] false []
theorem e151_ok : EnvOk PR e151 := envD_ok eqsT_ok TabPOk.nil TabHOk.nil TabLOk.nil TabDOk.nil
theorem cx151 : Ctx PR e151 [] (fun _ => none) 2000 151 := ctx_of e151_ok mixed (fn := Go.Proofs.Tryz.f151) (by kernel_rfl) (by kernel_rfl) (by kernel_rfl) (tabOk_none _)
theorem n151 : Enters PR 151 := enters_of (fn := Go.Proofs.Tryz.f151) (by kernel_rfl) (by kernel_rfl) (by kernel_rfl)
noncomputable def g151 : List AV → AH → Nat → Option (Bool × AV × AH) := deepC PR e151 5 2000 151 4096 true
theorem g151_ok : ActOk PR 4096 151 g151 := deepC_ok cx151 rfl rfl

/-! reliquary/reliquarylaw22.closed -/
noncomputable def e69 : Env := envD eqsT [] [] [] [(13, g13), (74, g74), (75, g75), (76, g76), (77, g77), (84, g84), (85, g85), (151, g151)] [] false [13, 74, 77, 84, 85, 151]
theorem e69_ok : EnvOk PR e69 := envD_ok eqsT_ok TabPOk.nil TabHOk.nil TabLOk.nil (TabDOk.cons n13 g13_ok (TabDOk.cons n74 g74_ok (TabDOk.cons n75 g75_ok (TabDOk.cons n76 g76_ok (TabDOk.cons n77 g77_ok (TabDOk.cons n84 g84_ok (TabDOk.cons n85 g85_ok (TabDOk.cons n151 g151_ok TabDOk.nil))))))))
theorem cx69 : Ctx PR e69 [] (fun _ => none) 2000 69 := ctx_of e69_ok mixed (fn := Go.Proofs.Tryz.f69) (by kernel_rfl) (by kernel_rfl) (by kernel_rfl) (tabOk_none _)
theorem n69 : Enters PR 69 := enters_of (fn := Go.Proofs.Tryz.f69) (by kernel_rfl) (by kernel_rfl) (by kernel_rfl)
noncomputable def g69 : List AV → AH → Nat → Option (Bool × AV × AH) := deepC PR e69 7 2000 69 4096 true
theorem g69_ok : ActOk PR 4096 69 g69 := deepC_ok cx69 rfl rfl

/-! (reliquary/pledge.pledge).at -/
noncomputable def e100 : Env := envD eqsT [(16, (fn1 kU c6.agg ofW)), (25, g25), (99, g99)] [] [] [] [] false []
theorem e100_ok : EnvOk PR e100 := envD_ok eqsT_ok (TabPOk.cons of_ok (TabPOk.cons g25_ok (TabPOk.cons g99_ok TabPOk.nil))) TabHOk.nil TabLOk.nil TabDOk.nil
theorem cx100 : Ctx PR e100 [] (fun _ => none) 2000 100 := ctx_of e100_ok mixed (fn := Go.Proofs.Tryz.f100) (by kernel_rfl) (by kernel_rfl) (by kernel_rfl) (tabOk_none _)
theorem n100 : Enters PR 100 := enters_of (fn := Go.Proofs.Tryz.f100) (by kernel_rfl) (by kernel_rfl) (by kernel_rfl)
noncomputable def g100 : List AV → AH → Nat → Option (Bool × AV × AH) := deepC PR e100 6 2000 100 4096 true
theorem g100_ok : ActOk PR 4096 100 g100 := deepC_ok cx100 rfl rfl

/-! reliquary/pledge.At -/
noncomputable def e18 : Env := envD eqsT [] [] [] [(22, g22), (100, g100)] [] false [22, 100]
theorem e18_ok : EnvOk PR e18 := envD_ok eqsT_ok TabPOk.nil TabHOk.nil TabLOk.nil (TabDOk.cons n22 g22_ok (TabDOk.cons n100 g100_ok TabDOk.nil))
theorem cx18 : Ctx PR e18 [] (fun _ => none) 2000 18 := ctx_of e18_ok mixed (fn := Go.Proofs.Tryz.f18) (by kernel_rfl) (by kernel_rfl) (by kernel_rfl) (tabOk_none _)
theorem n18 : Enters PR 18 := enters_of (fn := Go.Proofs.Tryz.f18) (by kernel_rfl) (by kernel_rfl) (by kernel_rfl)
end Go.Rq

/- A closed law's functions, each gone through where it is called. Written by a program of ours. -/
namespace Go.Rq
open Go Go.Proofs
def md18_0 : MemD := ⟨[.own 0 17 0 2, .v (.int .i64 (.ofNat 2))], [(0, some ⟨false, 37, [.v (.int .i64 (.ofNat 1)), .u (BitVec.ofNat 64 0), .u (BitVec.ofNat 64 0), .u (BitVec.ofNat 64 0), .u (BitVec.ofNat 64 0), .u (BitVec.ofNat 64 0), .u (BitVec.ofNat 64 0), .u (BitVec.ofNat 64 0), .u (BitVec.ofNat 64 0), .u (BitVec.ofNat 64 0), .u (BitVec.ofNat 64 0), .u (BitVec.ofNat 64 0), .u (BitVec.ofNat 64 0), .v (.bool false), .u (BitVec.ofNat 64 170245), .u (BitVec.ofNat 64 463505), .v (.bool false), .v (.int .i64 (.ofNat 1)), .u (BitVec.ofNat 64 0), .u (BitVec.ofNat 64 0), .u (BitVec.ofNat 64 0), .u (BitVec.ofNat 64 0), .u (BitVec.ofNat 64 0), .u (BitVec.ofNat 64 0), .u (BitVec.ofNat 64 0), .u (BitVec.ofNat 64 0), .u (BitVec.ofNat 64 0), .u (BitVec.ofNat 64 0), .u (BitVec.ofNat 64 0), .u (BitVec.ofNat 64 0), .v (.bool false), .u (BitVec.ofNat 64 90220), .u (BitVec.ofNat 64 338230), .v (.bool false)]⟩)], .tup [.agg [.v (.int .i64 (.ofNat 1)), .u (BitVec.ofNat 64 0), .u (BitVec.ofNat 64 0), .u (BitVec.ofNat 64 0), .u (BitVec.ofNat 64 0), .u (BitVec.ofNat 64 0), .u (BitVec.ofNat 64 0), .u (BitVec.ofNat 64 0), .u (BitVec.ofNat 64 0), .u (BitVec.ofNat 64 0), .u (BitVec.ofNat 64 0), .u (BitVec.ofNat 64 0), .u (BitVec.ofNat 64 0), .v (.bool false), .u (BitVec.ofNat 64 479657), .u (BitVec.ofNat 64 29933), .v (.bool false)], .v (.int .i64 (.ofNat 0))]⟩
set_option maxRecDepth 1000000 in
theorem mf18_0 : outC2 (outC (crunF PR e18 5 2000 18 md18_0.as md18_0.h md18_0.h.length)) = some md18_0.r := by kernel_rfl
def md18_1 : MemD := ⟨[.own 0 17 0 2, .v (.int .i64 (.ofNat 3))], [(0, some ⟨false, 37, [.v (.int .i64 (.ofNat 1)), .u (BitVec.ofNat 64 0), .u (BitVec.ofNat 64 0), .u (BitVec.ofNat 64 0), .u (BitVec.ofNat 64 0), .u (BitVec.ofNat 64 0), .u (BitVec.ofNat 64 0), .u (BitVec.ofNat 64 0), .u (BitVec.ofNat 64 0), .u (BitVec.ofNat 64 0), .u (BitVec.ofNat 64 0), .u (BitVec.ofNat 64 0), .u (BitVec.ofNat 64 0), .v (.bool false), .u (BitVec.ofNat 64 170245), .u (BitVec.ofNat 64 463505), .v (.bool false), .v (.int .i64 (.ofNat 1)), .u (BitVec.ofNat 64 0), .u (BitVec.ofNat 64 0), .u (BitVec.ofNat 64 0), .u (BitVec.ofNat 64 0), .u (BitVec.ofNat 64 0), .u (BitVec.ofNat 64 0), .u (BitVec.ofNat 64 0), .u (BitVec.ofNat 64 0), .u (BitVec.ofNat 64 0), .u (BitVec.ofNat 64 0), .u (BitVec.ofNat 64 0), .u (BitVec.ofNat 64 0), .v (.bool false), .u (BitVec.ofNat 64 90220), .u (BitVec.ofNat 64 338230), .v (.bool false)]⟩)], .tup [.agg [.v (.int .i64 (.ofNat 1)), .u (BitVec.ofNat 64 0), .u (BitVec.ofNat 64 0), .u (BitVec.ofNat 64 0), .u (BitVec.ofNat 64 0), .u (BitVec.ofNat 64 0), .u (BitVec.ofNat 64 0), .u (BitVec.ofNat 64 0), .u (BitVec.ofNat 64 0), .u (BitVec.ofNat 64 0), .u (BitVec.ofNat 64 0), .u (BitVec.ofNat 64 0), .u (BitVec.ofNat 64 0), .v (.bool false), .u (BitVec.ofNat 64 108129), .u (BitVec.ofNat 64 649076), .v (.bool false)], .v (.int .i64 (.ofNat 0))]⟩
set_option maxRecDepth 1000000 in
theorem mf18_1 : outC2 (outC (crunF PR e18 5 2000 18 md18_1.as md18_1.h md18_1.h.length)) = some md18_1.r := by kernel_rfl
end Go.Rq

/- A closed law's functions, each gone through where it is called. Written by a program of ours. -/
namespace Go.Rq
open Go Go.Proofs
def md18_2 : MemD := ⟨[.own 0 17 0 2, .v (.int .i64 (.ofNat 2))], [(0, some ⟨false, 37, [.v (.int .i64 (.ofNat 1)), .u (BitVec.ofNat 64 0), .u (BitVec.ofNat 64 0), .u (BitVec.ofNat 64 0), .u (BitVec.ofNat 64 0), .u (BitVec.ofNat 64 0), .u (BitVec.ofNat 64 0), .u (BitVec.ofNat 64 0), .u (BitVec.ofNat 64 0), .u (BitVec.ofNat 64 0), .u (BitVec.ofNat 64 0), .u (BitVec.ofNat 64 0), .u (BitVec.ofNat 64 0), .v (.bool false), .u (BitVec.ofNat 64 175939), .u (BitVec.ofNat 64 21521), .v (.bool false), .v (.int .i64 (.ofNat 1)), .u (BitVec.ofNat 64 0), .u (BitVec.ofNat 64 0), .u (BitVec.ofNat 64 0), .u (BitVec.ofNat 64 0), .u (BitVec.ofNat 64 0), .u (BitVec.ofNat 64 0), .u (BitVec.ofNat 64 0), .u (BitVec.ofNat 64 0), .u (BitVec.ofNat 64 0), .u (BitVec.ofNat 64 0), .u (BitVec.ofNat 64 0), .u (BitVec.ofNat 64 0), .v (.bool false), .u (BitVec.ofNat 64 729085), .u (BitVec.ofNat 64 626936), .v (.bool false)]⟩)], .tup [.agg [.v (.int .i64 (.ofNat 1)), .u (BitVec.ofNat 64 0), .u (BitVec.ofNat 64 0), .u (BitVec.ofNat 64 0), .u (BitVec.ofNat 64 0), .u (BitVec.ofNat 64 0), .u (BitVec.ofNat 64 0), .u (BitVec.ofNat 64 0), .u (BitVec.ofNat 64 0), .u (BitVec.ofNat 64 0), .u (BitVec.ofNat 64 0), .u (BitVec.ofNat 64 0), .u (BitVec.ofNat 64 0), .v (.bool false), .u (BitVec.ofNat 64 68846), .u (BitVec.ofNat 64 540238), .v (.bool false)], .v (.int .i64 (.ofNat 0))]⟩
set_option maxRecDepth 1000000 in
theorem mf18_2 : outC2 (outC (crunF PR e18 5 2000 18 md18_2.as md18_2.h md18_2.h.length)) = some md18_2.r := by kernel_rfl
def md18_3 : MemD := ⟨[.own 0 17 0 2, .v (.int .i64 (.ofNat 3))], [(0, some ⟨false, 37, [.v (.int .i64 (.ofNat 1)), .u (BitVec.ofNat 64 0), .u (BitVec.ofNat 64 0), .u (BitVec.ofNat 64 0), .u (BitVec.ofNat 64 0), .u (BitVec.ofNat 64 0), .u (BitVec.ofNat 64 0), .u (BitVec.ofNat 64 0), .u (BitVec.ofNat 64 0), .u (BitVec.ofNat 64 0), .u (BitVec.ofNat 64 0), .u (BitVec.ofNat 64 0), .u (BitVec.ofNat 64 0), .v (.bool false), .u (BitVec.ofNat 64 175939), .u (BitVec.ofNat 64 21521), .v (.bool false), .v (.int .i64 (.ofNat 1)), .u (BitVec.ofNat 64 0), .u (BitVec.ofNat 64 0), .u (BitVec.ofNat 64 0), .u (BitVec.ofNat 64 0), .u (BitVec.ofNat 64 0), .u (BitVec.ofNat 64 0), .u (BitVec.ofNat 64 0), .u (BitVec.ofNat 64 0), .u (BitVec.ofNat 64 0), .u (BitVec.ofNat 64 0), .u (BitVec.ofNat 64 0), .u (BitVec.ofNat 64 0), .v (.bool false), .u (BitVec.ofNat 64 729085), .u (BitVec.ofNat 64 626936), .v (.bool false)]⟩)], .tup [.agg [.v (.int .i64 (.ofNat 1)), .u (BitVec.ofNat 64 0), .u (BitVec.ofNat 64 0), .u (BitVec.ofNat 64 0), .u (BitVec.ofNat 64 0), .u (BitVec.ofNat 64 0), .u (BitVec.ofNat 64 0), .u (BitVec.ofNat 64 0), .u (BitVec.ofNat 64 0), .u (BitVec.ofNat 64 0), .u (BitVec.ofNat 64 0), .u (BitVec.ofNat 64 0), .u (BitVec.ofNat 64 0), .v (.bool false), .u (BitVec.ofNat 64 322017), .u (BitVec.ofNat 64 440776), .v (.bool false)], .v (.int .i64 (.ofNat 0))]⟩
set_option maxRecDepth 1000000 in
theorem mf18_3 : outC2 (outC (crunF PR e18 5 2000 18 md18_3.as md18_3.h md18_3.h.length)) = some md18_3.r := by kernel_rfl
end Go.Rq

/- A closed law's functions, each gone through where it is called. Written by a program of ours. -/
namespace Go.Rq
open Go Go.Proofs

def mt18 : List MemD := [md18_0, md18_1, md18_2, md18_3]
theorem mt18_ok : MemOk PR e18 5 2000 18 mt18 := (MemOk.cons mf18_0 (MemOk.cons mf18_1 (MemOk.cons mf18_2 (MemOk.cons mf18_3 MemOk.nil))))
noncomputable def g18 : List AV → AH → Nat → Option (Bool × AV × AH) := canG (memoD mt18 (deepC2 PR e18 5 2000 18 4096 true))
theorem g18_ok : ActOk PR 4096 18 g18 := memoD_ok cx18 rfl rfl mt18_ok (by kernel_rfl)

/-! reliquary/pledge.Holds -/
noncomputable def e20 : Env := envD eqsT [(15, g15)] [] [] [(18, g18)] [] false [18]
theorem e20_ok : EnvOk PR e20 := envD_ok eqsT_ok (TabPOk.cons g15_ok TabPOk.nil) TabHOk.nil TabLOk.nil (TabDOk.cons n18 g18_ok TabDOk.nil)
theorem cx20 : Ctx PR e20 [] (fun _ => none) 2000 20 := ctx_of e20_ok mixed (fn := Go.Proofs.Tryz.f20) (by kernel_rfl) (by kernel_rfl) (by kernel_rfl) (tabOk_none _)
theorem n20 : Enters PR 20 := enters_of (fn := Go.Proofs.Tryz.f20) (by kernel_rfl) (by kernel_rfl) (by kernel_rfl)
end Go.Rq

/- A closed law's functions, each gone through where it is called. Written by a program of ours. -/
namespace Go.Rq
open Go Go.Proofs
def md20_0 : MemD := ⟨[.own 0 17 0 2, .v (.int .i64 (.ofNat 2)), .agg [.u (BitVec.ofNat 64 11), .u (BitVec.ofNat 64 0), .u (BitVec.ofNat 64 0), .u (BitVec.ofNat 64 0), .u (BitVec.ofNat 64 0), .u (BitVec.ofNat 64 0)], .agg [.u (BitVec.ofNat 64 3), .u (BitVec.ofNat 64 0), .u (BitVec.ofNat 64 0), .u (BitVec.ofNat 64 0), .u (BitVec.ofNat 64 0), .u (BitVec.ofNat 64 0)]], [(0, some ⟨false, 37, [.v (.int .i64 (.ofNat 1)), .u (BitVec.ofNat 64 0), .u (BitVec.ofNat 64 0), .u (BitVec.ofNat 64 0), .u (BitVec.ofNat 64 0), .u (BitVec.ofNat 64 0), .u (BitVec.ofNat 64 0), .u (BitVec.ofNat 64 0), .u (BitVec.ofNat 64 0), .u (BitVec.ofNat 64 0), .u (BitVec.ofNat 64 0), .u (BitVec.ofNat 64 0), .u (BitVec.ofNat 64 0), .v (.bool false), .u (BitVec.ofNat 64 170245), .u (BitVec.ofNat 64 463505), .v (.bool false), .v (.int .i64 (.ofNat 1)), .u (BitVec.ofNat 64 0), .u (BitVec.ofNat 64 0), .u (BitVec.ofNat 64 0), .u (BitVec.ofNat 64 0), .u (BitVec.ofNat 64 0), .u (BitVec.ofNat 64 0), .u (BitVec.ofNat 64 0), .u (BitVec.ofNat 64 0), .u (BitVec.ofNat 64 0), .u (BitVec.ofNat 64 0), .u (BitVec.ofNat 64 0), .u (BitVec.ofNat 64 0), .v (.bool false), .u (BitVec.ofNat 64 90220), .u (BitVec.ofNat 64 338230), .v (.bool false)]⟩)], .tup [.v (.bool true), .v (.int .i64 (.ofNat 0))]⟩
set_option maxRecDepth 1000000 in
theorem mf20_0 : outC2 (outC (crunF PR e20 6 2000 20 md20_0.as md20_0.h md20_0.h.length)) = some md20_0.r := by kernel_rfl
def md20_1 : MemD := ⟨[.own 0 17 0 2, .v (.int .i64 (.ofNat 3)), .agg [.u (BitVec.ofNat 64 14), .u (BitVec.ofNat 64 0), .u (BitVec.ofNat 64 0), .u (BitVec.ofNat 64 0), .u (BitVec.ofNat 64 0), .u (BitVec.ofNat 64 0)], .agg [.u (BitVec.ofNat 64 4), .u (BitVec.ofNat 64 0), .u (BitVec.ofNat 64 0), .u (BitVec.ofNat 64 0), .u (BitVec.ofNat 64 0), .u (BitVec.ofNat 64 0)]], [(0, some ⟨false, 37, [.v (.int .i64 (.ofNat 1)), .u (BitVec.ofNat 64 0), .u (BitVec.ofNat 64 0), .u (BitVec.ofNat 64 0), .u (BitVec.ofNat 64 0), .u (BitVec.ofNat 64 0), .u (BitVec.ofNat 64 0), .u (BitVec.ofNat 64 0), .u (BitVec.ofNat 64 0), .u (BitVec.ofNat 64 0), .u (BitVec.ofNat 64 0), .u (BitVec.ofNat 64 0), .u (BitVec.ofNat 64 0), .v (.bool false), .u (BitVec.ofNat 64 170245), .u (BitVec.ofNat 64 463505), .v (.bool false), .v (.int .i64 (.ofNat 1)), .u (BitVec.ofNat 64 0), .u (BitVec.ofNat 64 0), .u (BitVec.ofNat 64 0), .u (BitVec.ofNat 64 0), .u (BitVec.ofNat 64 0), .u (BitVec.ofNat 64 0), .u (BitVec.ofNat 64 0), .u (BitVec.ofNat 64 0), .u (BitVec.ofNat 64 0), .u (BitVec.ofNat 64 0), .u (BitVec.ofNat 64 0), .u (BitVec.ofNat 64 0), .v (.bool false), .u (BitVec.ofNat 64 90220), .u (BitVec.ofNat 64 338230), .v (.bool false)]⟩)], .tup [.v (.bool true), .v (.int .i64 (.ofNat 0))]⟩
set_option maxRecDepth 1000000 in
theorem mf20_1 : outC2 (outC (crunF PR e20 6 2000 20 md20_1.as md20_1.h md20_1.h.length)) = some md20_1.r := by kernel_rfl
end Go.Rq

/- A closed law's functions, each gone through where it is called. Written by a program of ours. -/
namespace Go.Rq
open Go Go.Proofs
def md20_2 : MemD := ⟨[.own 0 17 0 2, .v (.int .i64 (.ofNat 2)), .agg [.u (BitVec.ofNat 64 22), .u (BitVec.ofNat 64 0), .u (BitVec.ofNat 64 0), .u (BitVec.ofNat 64 0), .u (BitVec.ofNat 64 0), .u (BitVec.ofNat 64 0)], .agg [.u (BitVec.ofNat 64 5), .u (BitVec.ofNat 64 0), .u (BitVec.ofNat 64 0), .u (BitVec.ofNat 64 0), .u (BitVec.ofNat 64 0), .u (BitVec.ofNat 64 0)]], [(0, some ⟨false, 37, [.v (.int .i64 (.ofNat 1)), .u (BitVec.ofNat 64 0), .u (BitVec.ofNat 64 0), .u (BitVec.ofNat 64 0), .u (BitVec.ofNat 64 0), .u (BitVec.ofNat 64 0), .u (BitVec.ofNat 64 0), .u (BitVec.ofNat 64 0), .u (BitVec.ofNat 64 0), .u (BitVec.ofNat 64 0), .u (BitVec.ofNat 64 0), .u (BitVec.ofNat 64 0), .u (BitVec.ofNat 64 0), .v (.bool false), .u (BitVec.ofNat 64 175939), .u (BitVec.ofNat 64 21521), .v (.bool false), .v (.int .i64 (.ofNat 1)), .u (BitVec.ofNat 64 0), .u (BitVec.ofNat 64 0), .u (BitVec.ofNat 64 0), .u (BitVec.ofNat 64 0), .u (BitVec.ofNat 64 0), .u (BitVec.ofNat 64 0), .u (BitVec.ofNat 64 0), .u (BitVec.ofNat 64 0), .u (BitVec.ofNat 64 0), .u (BitVec.ofNat 64 0), .u (BitVec.ofNat 64 0), .u (BitVec.ofNat 64 0), .v (.bool false), .u (BitVec.ofNat 64 729085), .u (BitVec.ofNat 64 626936), .v (.bool false)]⟩)], .tup [.v (.bool true), .v (.int .i64 (.ofNat 0))]⟩
set_option maxRecDepth 1000000 in
theorem mf20_2 : outC2 (outC (crunF PR e20 6 2000 20 md20_2.as md20_2.h md20_2.h.length)) = some md20_2.r := by kernel_rfl
def md20_3 : MemD := ⟨[.own 0 17 0 2, .v (.int .i64 (.ofNat 2)), .agg [.u (BitVec.ofNat 64 22), .u (BitVec.ofNat 64 0), .u (BitVec.ofNat 64 0), .u (BitVec.ofNat 64 0), .u (BitVec.ofNat 64 0), .u (BitVec.ofNat 64 0)], .agg [.u (BitVec.ofNat 64 6), .u (BitVec.ofNat 64 0), .u (BitVec.ofNat 64 0), .u (BitVec.ofNat 64 0), .u (BitVec.ofNat 64 0), .u (BitVec.ofNat 64 0)]], [(0, some ⟨false, 37, [.v (.int .i64 (.ofNat 1)), .u (BitVec.ofNat 64 0), .u (BitVec.ofNat 64 0), .u (BitVec.ofNat 64 0), .u (BitVec.ofNat 64 0), .u (BitVec.ofNat 64 0), .u (BitVec.ofNat 64 0), .u (BitVec.ofNat 64 0), .u (BitVec.ofNat 64 0), .u (BitVec.ofNat 64 0), .u (BitVec.ofNat 64 0), .u (BitVec.ofNat 64 0), .u (BitVec.ofNat 64 0), .v (.bool false), .u (BitVec.ofNat 64 175939), .u (BitVec.ofNat 64 21521), .v (.bool false), .v (.int .i64 (.ofNat 1)), .u (BitVec.ofNat 64 0), .u (BitVec.ofNat 64 0), .u (BitVec.ofNat 64 0), .u (BitVec.ofNat 64 0), .u (BitVec.ofNat 64 0), .u (BitVec.ofNat 64 0), .u (BitVec.ofNat 64 0), .u (BitVec.ofNat 64 0), .u (BitVec.ofNat 64 0), .u (BitVec.ofNat 64 0), .u (BitVec.ofNat 64 0), .u (BitVec.ofNat 64 0), .v (.bool false), .u (BitVec.ofNat 64 729085), .u (BitVec.ofNat 64 626936), .v (.bool false)]⟩)], .tup [.v (.bool false), .v (.int .i64 (.ofNat 0))]⟩
set_option maxRecDepth 1000000 in
theorem mf20_3 : outC2 (outC (crunF PR e20 6 2000 20 md20_3.as md20_3.h md20_3.h.length)) = some md20_3.r := by kernel_rfl
end Go.Rq

/- A closed law's functions, each gone through where it is called. Written by a program of ours. -/
namespace Go.Rq
open Go Go.Proofs
def md20_4 : MemD := ⟨[.own 0 17 0 2, .v (.int .i64 (.ofNat 3)), .agg [.u (BitVec.ofNat 64 27), .u (BitVec.ofNat 64 0), .u (BitVec.ofNat 64 0), .u (BitVec.ofNat 64 0), .u (BitVec.ofNat 64 0), .u (BitVec.ofNat 64 0)], .agg [.u (BitVec.ofNat 64 7), .u (BitVec.ofNat 64 0), .u (BitVec.ofNat 64 0), .u (BitVec.ofNat 64 0), .u (BitVec.ofNat 64 0), .u (BitVec.ofNat 64 0)]], [(0, some ⟨false, 37, [.v (.int .i64 (.ofNat 1)), .u (BitVec.ofNat 64 0), .u (BitVec.ofNat 64 0), .u (BitVec.ofNat 64 0), .u (BitVec.ofNat 64 0), .u (BitVec.ofNat 64 0), .u (BitVec.ofNat 64 0), .u (BitVec.ofNat 64 0), .u (BitVec.ofNat 64 0), .u (BitVec.ofNat 64 0), .u (BitVec.ofNat 64 0), .u (BitVec.ofNat 64 0), .u (BitVec.ofNat 64 0), .v (.bool false), .u (BitVec.ofNat 64 175939), .u (BitVec.ofNat 64 21521), .v (.bool false), .v (.int .i64 (.ofNat 1)), .u (BitVec.ofNat 64 0), .u (BitVec.ofNat 64 0), .u (BitVec.ofNat 64 0), .u (BitVec.ofNat 64 0), .u (BitVec.ofNat 64 0), .u (BitVec.ofNat 64 0), .u (BitVec.ofNat 64 0), .u (BitVec.ofNat 64 0), .u (BitVec.ofNat 64 0), .u (BitVec.ofNat 64 0), .u (BitVec.ofNat 64 0), .u (BitVec.ofNat 64 0), .v (.bool false), .u (BitVec.ofNat 64 729085), .u (BitVec.ofNat 64 626936), .v (.bool false)]⟩)], .tup [.v (.bool true), .v (.int .i64 (.ofNat 0))]⟩
set_option maxRecDepth 1000000 in
theorem mf20_4 : outC2 (outC (crunF PR e20 6 2000 20 md20_4.as md20_4.h md20_4.h.length)) = some md20_4.r := by kernel_rfl
end Go.Rq

/- A closed law's functions, each gone through where it is called. Written by a program of ours. -/
namespace Go.Rq
open Go Go.Proofs

def mt20 : List MemD := [md20_0, md20_1, md20_2, md20_3, md20_4]
theorem mt20_ok : MemOk PR e20 6 2000 20 mt20 := (MemOk.cons mf20_0 (MemOk.cons mf20_1 (MemOk.cons mf20_2 (MemOk.cons mf20_3 (MemOk.cons mf20_4 MemOk.nil)))))
noncomputable def g20 : List AV → AH → Nat → Option (Bool × AV × AH) := canG (memoD mt20 (deepC2 PR e20 6 2000 20 4096 true))
theorem g20_ok : ActOk PR 4096 20 g20 := memoD_ok cx20 rfl rfl mt20_ok (by kernel_rfl)

/-! reliquary/proof.checked -/
noncomputable def e114 : Env := envD eqsT [(34, g34), (98, (fn2 c6.agg c6.agg (kInt .i64) fun a b => chainV (cmpL a b) 0)), (101, g101)] [] [] [] [] false []
theorem e114_ok : EnvOk PR e114 := envD_ok eqsT_ok (TabPOk.cons g34_ok (TabPOk.cons cmp_ok (TabPOk.cons g101_ok TabPOk.nil))) TabHOk.nil TabLOk.nil TabDOk.nil
theorem cx114 : Ctx PR e114 [] (fun _ => none) 2000 114 := ctx_of e114_ok mixed (fn := Go.Proofs.Tryz.f114) (by kernel_rfl) (by kernel_rfl) (by kernel_rfl) (tabOk_none _)
theorem n114 : Enters PR 114 := enters_of (fn := Go.Proofs.Tryz.f114) (by kernel_rfl) (by kernel_rfl) (by kernel_rfl)
noncomputable def g114 : List AV → AH → Nat → Option (Bool × AV × AH) := deepC PR e114 6 2000 114 4096 true
theorem g114_ok : ActOk PR 4096 114 g114 := deepC_ok cx114 rfl rfl

/-! reliquary/proof.times -/
noncomputable def e115 : Env := envD eqsT [(25, g25)] [] [] [] [] false []
theorem e115_ok : EnvOk PR e115 := envD_ok eqsT_ok (TabPOk.cons g25_ok TabPOk.nil) TabHOk.nil TabLOk.nil TabDOk.nil
theorem cx115 : Ctx PR e115 [] (fun _ => none) 2000 115 := ctx_of e115_ok mixed (fn := Go.Proofs.Tryz.f115) (by kernel_rfl) (by kernel_rfl) (by kernel_rfl) (tabOk_none _)
theorem n115 : Enters PR 115 := enters_of (fn := Go.Proofs.Tryz.f115) (by kernel_rfl) (by kernel_rfl) (by kernel_rfl)
noncomputable def g115 : List AV → Option (Bool × AV) := (inlineC PR e115 4 2000 115)
theorem g115_ok : CallOk PR 115 g115 := (.inl ⟨n115, inlineC_ok cx115 rfl rfl⟩)

/-! reliquary/little.written -/
noncomputable def e300 : Env := envD eqsT [] [] [] [] [] false []
theorem e300_ok : EnvOk PR e300 := envD_ok eqsT_ok TabPOk.nil TabHOk.nil TabLOk.nil TabDOk.nil
theorem cx300 : Ctx PR e300 [] (fun _ => none) 2000 300 := ctx_of e300_ok mixed (fn := Go.Proofs.Tryz.f300) (by kernel_rfl) (by kernel_rfl) (by kernel_rfl) (tabOk_none _)
theorem n300 : Enters PR 300 := enters_of (fn := Go.Proofs.Tryz.f300) (by kernel_rfl) (by kernel_rfl) (by kernel_rfl)
noncomputable def g300 : List AV → Option (Bool × AV) := (inlineC PR e300 6 2000 300)
theorem g300_ok : CallOk PR 300 g300 := (.inl ⟨n300, inlineC_ok cx300 rfl rfl⟩)

/-! reliquary/little.Bytes -/
noncomputable def e252 : Env := envD eqsT [(300, g300)] [] [] [(187, g187)] [] false [187]
theorem e252_ok : EnvOk PR e252 := envD_ok eqsT_ok (TabPOk.cons g300_ok TabPOk.nil) TabHOk.nil TabLOk.nil (TabDOk.cons n187 g187_ok TabDOk.nil)
theorem cx252 : Ctx PR e252 [] (fun _ => none) 2000 252 := ctx_of e252_ok mixed (fn := Go.Proofs.Tryz.f252) (by kernel_rfl) (by kernel_rfl) (by kernel_rfl) (tabOk_none _)
theorem n252 : Enters PR 252 := enters_of (fn := Go.Proofs.Tryz.f252) (by kernel_rfl) (by kernel_rfl) (by kernel_rfl)
noncomputable def g252 : List AV → AH → Nat → Option (Bool × AV × AH) := deepC PR e252 5 2000 252 4096 true
theorem g252_ok : ActOk PR 4096 252 g252 := deepC_ok cx252 rfl rfl

/-! reliquary/suite.KeyBytes -/
noncomputable def e189 : Env := envD eqsT [(101, g101)] [] [] [(252, g252)] [] false [252]
theorem e189_ok : EnvOk PR e189 := envD_ok eqsT_ok (TabPOk.cons g101_ok TabPOk.nil) TabHOk.nil TabLOk.nil (TabDOk.cons n252 g252_ok TabDOk.nil)
theorem cx189 : Ctx PR e189 [] (fun _ => none) 2000 189 := ctx_of e189_ok mixed (fn := Go.Proofs.Tryz.f189) (by kernel_rfl) (by kernel_rfl) (by kernel_rfl) (tabOk_none _)
theorem n189 : Enters PR 189 := enters_of (fn := Go.Proofs.Tryz.f189) (by kernel_rfl) (by kernel_rfl) (by kernel_rfl)
noncomputable def g189 : List AV → AH → Nat → Option (Bool × AV × AH) := deepC PR e189 5 2000 189 4096 true
theorem g189_ok : ActOk PR 4096 189 g189 := deepC_ok cx189 rfl rfl

/-! reliquary/suite.text -/
noncomputable def e253 : Env := envD eqsT [(104, g104)] [] [] [(105, g105)] [] false [105]
theorem e253_ok : EnvOk PR e253 := envD_ok eqsT_ok (TabPOk.cons g104_ok TabPOk.nil) TabHOk.nil TabLOk.nil (TabDOk.cons n105 g105_ok TabDOk.nil)
theorem cx253 : Ctx PR e253 [] (fun _ => none) 2000 253 := ctx_of e253_ok mixed (fn := Go.Proofs.Tryz.f253) (by kernel_rfl) (by kernel_rfl) (by kernel_rfl) (tabOk_none _)
theorem n253 : Enters PR 253 := enters_of (fn := Go.Proofs.Tryz.f253) (by kernel_rfl) (by kernel_rfl) (by kernel_rfl)
noncomputable def g253 : List AV → AH → Nat → Option (Bool × AV × AH) := deepC PR e253 5 2000 253 4096 true
theorem g253_ok : ActOk PR 4096 253 g253 := deepC_ok cx253 rfl rfl

/-! reliquary/suite.HashNum -/
noncomputable def e190 : Env := envD eqsT [(123, g123)] [] [] [(107, g107), (253, g253)] [] false [107, 253]
theorem e190_ok : EnvOk PR e190 := envD_ok eqsT_ok (TabPOk.cons g123_ok TabPOk.nil) TabHOk.nil TabLOk.nil (TabDOk.cons n107 g107_ok (TabDOk.cons n253 g253_ok TabDOk.nil))
theorem cx190 : Ctx PR e190 [] (fun _ => none) 2000 190 := ctx_of e190_ok mixed (fn := Go.Proofs.Tryz.f190) (by kernel_rfl) (by kernel_rfl) (by kernel_rfl) (tabOk_none _)
theorem n190 : Enters PR 190 := enters_of (fn := Go.Proofs.Tryz.f190) (by kernel_rfl) (by kernel_rfl) (by kernel_rfl)
noncomputable def g190 : List AV → AH → Nat → Option (Bool × AV × AH) := deepC PR e190 5 2000 190 4096 true
theorem g190_ok : ActOk PR 4096 190 g190 := deepC_ok cx190 rfl rfl

/-! reliquary/proof.challenge -/
noncomputable def e116 : Env := envD eqsT [] [] [] [(189, g189), (190, g190)] [] false [189, 190]
theorem e116_ok : EnvOk PR e116 := envD_ok eqsT_ok TabPOk.nil TabHOk.nil TabLOk.nil (TabDOk.cons n189 g189_ok (TabDOk.cons n190 g190_ok TabDOk.nil))
theorem cx116 : Ctx PR e116 [] (fun _ => none) 2000 116 := ctx_of e116_ok mixed (fn := Go.Proofs.Tryz.f116) (by kernel_rfl) (by kernel_rfl) (by kernel_rfl) (tabOk_none _)
theorem n116 : Enters PR 116 := enters_of (fn := Go.Proofs.Tryz.f116) (by kernel_rfl) (by kernel_rfl) (by kernel_rfl)
noncomputable def g116 : List AV → AH → Nat → Option (Bool × AV × AH) := deepC PR e116 6 2000 116 4096 true
theorem g116_ok : ActOk PR 4096 116 g116 := deepC_ok cx116 rfl rfl

/-! reliquary/suite.scalars -/
noncomputable def e197 : Env := envD eqsT [(98, (fn2 c6.agg c6.agg (kInt .i64) fun a b => chainV (cmpL a b) 0)), (104, g104), (123, g123)] [] [(179, (layP kMd 291 cFa 0 modS))] [] [] false []
theorem e197_ok : EnvOk PR e197 := envD_ok eqsT_ok (TabPOk.cons cmp_ok (TabPOk.cons g104_ok (TabPOk.cons g123_ok TabPOk.nil))) TabHOk.nil (TabLOk.cons nw_ent newS_okL TabLOk.nil) TabDOk.nil
theorem cx197 : Ctx PR e197 [] (fun _ => none) 2000 197 := ctx_of e197_ok mixed (fn := Go.Proofs.Tryz.f197) (by kernel_rfl) (by kernel_rfl) (by kernel_rfl) (tabOk_none _)
theorem n197 : Enters PR 197 := enters_of (fn := Go.Proofs.Tryz.f197) (by kernel_rfl) (by kernel_rfl) (by kernel_rfl)
noncomputable def g197 : List AV → AH → Nat → Option (Bool × AV × AH) := deepC PR e197 5 2000 197 4096 true
theorem g197_ok : ActOk PR 4096 197 g197 := deepC_ok cx197 rfl rfl

/-! reliquary/suite.Sub$1 -/
noncomputable def e195 : Env := envD eqsT [] [(196, (rdp 291 cFa (mc2 c6.agg c6.agg) c6.agg (fun m x => qsubW m x.1 x.2)))] [] [] [] false [196]
theorem e195_ok : EnvOk PR e195 := envD_ok eqsT_ok TabPOk.nil (TabHOk.cons qsub_ent qsub_ok TabHOk.nil) TabLOk.nil TabDOk.nil
theorem cx195 : Ctx PR e195 [] (fun _ => none) 2000 195 := ctx_of e195_ok mixed (fn := Go.Proofs.Tryz.f195) (by kernel_rfl) (by kernel_rfl) (by kernel_rfl) (tabOk_none _)
theorem n195 : Enters PR 195 := enters_of (fn := Go.Proofs.Tryz.f195) (by kernel_rfl) (by kernel_rfl) (by kernel_rfl)
noncomputable def g195 : List AV → AH → Nat → Option (Bool × AV × AH) := deepC PR e195 4 2000 195 4096 true
theorem g195_ok : ActOk PR 4096 195 g195 := deepC_ok cx195 rfl rfl

/-! reliquary/suite.Mul$1 -/
noncomputable def e199 : Env := envD eqsT [] [(200, (rdp 291 cFa (mc2 c6.agg c6.agg) c6.agg (fun m x => qmulW m x.1 x.2)))] [] [] [] false [200]
theorem e199_ok : EnvOk PR e199 := envD_ok eqsT_ok TabPOk.nil (TabHOk.cons qmul_ent qmul_ok TabHOk.nil) TabLOk.nil TabDOk.nil
theorem cx199 : Ctx PR e199 [] (fun _ => none) 2000 199 := ctx_of e199_ok mixed (fn := Go.Proofs.Tryz.f199) (by kernel_rfl) (by kernel_rfl) (by kernel_rfl) (tabOk_none _)
theorem n199 : Enters PR 199 := enters_of (fn := Go.Proofs.Tryz.f199) (by kernel_rfl) (by kernel_rfl) (by kernel_rfl)
noncomputable def g199 : List AV → AH → Nat → Option (Bool × AV × AH) := deepC PR e199 4 2000 199 4096 true
theorem g199_ok : ActOk PR 4096 199 g199 := deepC_ok cx199 rfl rfl

/-! reliquary/suite.Add$1 -/
noncomputable def e254 : Env := envD eqsT [] [(176, (rdp 291 cFa (mc2 c6.agg c6.agg) c6.agg (fun m x => qaddW m x.1 x.2)))] [] [] [] false [176]
theorem e254_ok : EnvOk PR e254 := envD_ok eqsT_ok TabPOk.nil (TabHOk.cons qadd_ent qadd_ok TabHOk.nil) TabLOk.nil TabDOk.nil
theorem cx254 : Ctx PR e254 [] (fun _ => none) 2000 254 := ctx_of e254_ok mixed (fn := Go.Proofs.Tryz.f254) (by kernel_rfl) (by kernel_rfl) (by kernel_rfl) (tabOk_none _)
theorem n254 : Enters PR 254 := enters_of (fn := Go.Proofs.Tryz.f254) (by kernel_rfl) (by kernel_rfl) (by kernel_rfl)
noncomputable def g254 : List AV → AH → Nat → Option (Bool × AV × AH) := deepC PR e254 4 2000 254 4096 true
theorem g254_ok : ActOk PR 4096 254 g254 := deepC_ok cx254 rfl rfl

/-! reliquary/suite.done -/
noncomputable def e194 : Env := envD eqsT [] [] [] [(197, g197), (195, g195), (199, g199), (254, g254)] [] false [197, 195, 199, 254]
theorem e194_ok : EnvOk PR e194 := envD_ok eqsT_ok TabPOk.nil TabHOk.nil TabLOk.nil (TabDOk.cons n197 g197_ok (TabDOk.cons n195 g195_ok (TabDOk.cons n199 g199_ok (TabDOk.cons n254 g254_ok TabDOk.nil))))
theorem cx194 : Ctx PR e194 [] (fun _ => none) 2000 194 := ctx_of e194_ok mixed (fn := Go.Proofs.Tryz.f194) (by kernel_rfl) (by kernel_rfl) (by kernel_rfl) (tabOk_none _)
theorem n194 : Enters PR 194 := enters_of (fn := Go.Proofs.Tryz.f194) (by kernel_rfl) (by kernel_rfl) (by kernel_rfl)
noncomputable def g194 : List AV → AH → Nat → Option (Bool × AV × AH) := deepC PR e194 5 2000 194 4096 true
theorem g194_ok : ActOk PR 4096 194 g194 := deepC_ok cx194 rfl rfl

/-! reliquary/suite.Mul -/
noncomputable def e122 : Env := envD eqsT [] [] [] [(194, g194)] [] false [194]
theorem e122_ok : EnvOk PR e122 := envD_ok eqsT_ok TabPOk.nil TabHOk.nil TabLOk.nil (TabDOk.cons n194 g194_ok TabDOk.nil)
theorem cx122 : Ctx PR e122 [] (fun _ => none) 2000 122 := ctx_of e122_ok mixed (fn := Go.Proofs.Tryz.f122) (by kernel_rfl) (by kernel_rfl) (by kernel_rfl) (tabOk_none _)
theorem n122 : Enters PR 122 := enters_of (fn := Go.Proofs.Tryz.f122) (by kernel_rfl) (by kernel_rfl) (by kernel_rfl)
noncomputable def g122 : List AV → Option (Bool × AV) := (inlineC PR e122 4 2000 122)
theorem g122_ok : CallOk PR 122 g122 := (.inl ⟨n122, inlineC_ok cx122 rfl rfl⟩)

/-! reliquary/suite.Add -/
noncomputable def e191 : Env := envD eqsT [] [] [] [(194, g194)] [] false [194]
theorem e191_ok : EnvOk PR e191 := envD_ok eqsT_ok TabPOk.nil TabHOk.nil TabLOk.nil (TabDOk.cons n194 g194_ok TabDOk.nil)
theorem cx191 : Ctx PR e191 [] (fun _ => none) 2000 191 := ctx_of e191_ok mixed (fn := Go.Proofs.Tryz.f191) (by kernel_rfl) (by kernel_rfl) (by kernel_rfl) (tabOk_none _)
theorem n191 : Enters PR 191 := enters_of (fn := Go.Proofs.Tryz.f191) (by kernel_rfl) (by kernel_rfl) (by kernel_rfl)
noncomputable def g191 : List AV → Option (Bool × AV) := (inlineC PR e191 4 2000 191)
theorem g191_ok : CallOk PR 191 g191 := (.inl ⟨n191, inlineC_ok cx191 rfl rfl⟩)

/-! reliquary/proof.answer -/
noncomputable def e117 : Env := envD eqsT [(122, g122), (191, g191)] [] [] [] [] false []
theorem e117_ok : EnvOk PR e117 := envD_ok eqsT_ok (TabPOk.cons g122_ok (TabPOk.cons g191_ok TabPOk.nil)) TabHOk.nil TabLOk.nil TabDOk.nil
theorem cx117 : Ctx PR e117 [] (fun _ => none) 2000 117 := ctx_of e117_ok mixed (fn := Go.Proofs.Tryz.f117) (by kernel_rfl) (by kernel_rfl) (by kernel_rfl) (tabOk_none _)
theorem n117 : Enters PR 117 := enters_of (fn := Go.Proofs.Tryz.f117) (by kernel_rfl) (by kernel_rfl) (by kernel_rfl)
noncomputable def g117 : List AV → Option (Bool × AV) := (inlineC PR e117 5 2000 117)
theorem g117_ok : CallOk PR 117 g117 := (.inl ⟨n117, inlineC_ok cx117 rfl rfl⟩)

/-! reliquary/proof.Know -/
noncomputable def e26 : Env := envD eqsT [(115, g115), (117, g117)] [] [] [(114, g114), (116, g116)] [] false [114, 116]
theorem e26_ok : EnvOk PR e26 := envD_ok eqsT_ok (TabPOk.cons g115_ok (TabPOk.cons g117_ok TabPOk.nil)) TabHOk.nil TabLOk.nil (TabDOk.cons n114 g114_ok (TabDOk.cons n116 g116_ok TabDOk.nil))
theorem cx26 : Ctx PR e26 [] (fun _ => none) 2000 26 := ctx_of e26_ok mixed (fn := Go.Proofs.Tryz.f26) (by kernel_rfl) (by kernel_rfl) (by kernel_rfl) (tabOk_none _)
theorem n26 : Enters PR 26 := enters_of (fn := Go.Proofs.Tryz.f26) (by kernel_rfl) (by kernel_rfl) (by kernel_rfl)
end Go.Rq

/- A closed law's functions, each gone through where it is called. Written by a program of ours. -/
namespace Go.Rq
open Go Go.Proofs
def md26_0 : MemD := ⟨[.agg [.v (.int .i64 (.ofNat 1)), .u (BitVec.ofNat 64 0), .u (BitVec.ofNat 64 0), .u (BitVec.ofNat 64 0), .u (BitVec.ofNat 64 0), .u (BitVec.ofNat 64 0), .u (BitVec.ofNat 64 0), .u (BitVec.ofNat 64 0), .u (BitVec.ofNat 64 0), .u (BitVec.ofNat 64 0), .u (BitVec.ofNat 64 0), .u (BitVec.ofNat 64 0), .u (BitVec.ofNat 64 0), .v (.bool false), .u (BitVec.ofNat 64 680769), .u (BitVec.ofNat 64 739834), .v (.bool false)], .agg [.u (BitVec.ofNat 64 5), .u (BitVec.ofNat 64 0), .u (BitVec.ofNat 64 0), .u (BitVec.ofNat 64 0), .u (BitVec.ofNat 64 0), .u (BitVec.ofNat 64 0)], .agg [.u (BitVec.ofNat 64 9), .u (BitVec.ofNat 64 0), .u (BitVec.ofNat 64 0), .u (BitVec.ofNat 64 0), .u (BitVec.ofNat 64 0), .u (BitVec.ofNat 64 0)], .own 0 1 0 1], [(0, some ⟨false, 5, [.v (.int .u8 2)]⟩)], .tup [.agg [.v (.int .i64 (.ofNat 1)), .u (BitVec.ofNat 64 0), .u (BitVec.ofNat 64 0), .u (BitVec.ofNat 64 0), .u (BitVec.ofNat 64 0), .u (BitVec.ofNat 64 0), .u (BitVec.ofNat 64 0), .u (BitVec.ofNat 64 0), .u (BitVec.ofNat 64 0), .u (BitVec.ofNat 64 0), .u (BitVec.ofNat 64 0), .u (BitVec.ofNat 64 0), .u (BitVec.ofNat 64 0), .v (.bool false), .u (BitVec.ofNat 64 594312), .u (BitVec.ofNat 64 255989), .v (.bool false), .u (BitVec.ofNat 64 45570), .u (BitVec.ofNat 64 0), .u (BitVec.ofNat 64 0), .u (BitVec.ofNat 64 0), .u (BitVec.ofNat 64 0), .u (BitVec.ofNat 64 0)], .v (.int .i64 (.ofNat 0))]⟩
set_option maxRecDepth 1000000 in
theorem mf26_0 : outC2 (outC (crunF PR e26 6 2000 26 md26_0.as md26_0.h md26_0.h.length)) = some md26_0.r := by kernel_rfl
def md26_1 : MemD := ⟨[.agg [.v (.int .i64 (.ofNat 1)), .u (BitVec.ofNat 64 0), .u (BitVec.ofNat 64 0), .u (BitVec.ofNat 64 0), .u (BitVec.ofNat 64 0), .u (BitVec.ofNat 64 0), .u (BitVec.ofNat 64 0), .u (BitVec.ofNat 64 0), .u (BitVec.ofNat 64 0), .u (BitVec.ofNat 64 0), .u (BitVec.ofNat 64 0), .u (BitVec.ofNat 64 0), .u (BitVec.ofNat 64 0), .v (.bool false), .u (BitVec.ofNat 64 680769), .u (BitVec.ofNat 64 739834), .v (.bool false)], .agg [.u (BitVec.ofNat 64 7), .u (BitVec.ofNat 64 0), .u (BitVec.ofNat 64 0), .u (BitVec.ofNat 64 0), .u (BitVec.ofNat 64 0), .u (BitVec.ofNat 64 0)], .agg [.u (BitVec.ofNat 64 9), .u (BitVec.ofNat 64 0), .u (BitVec.ofNat 64 0), .u (BitVec.ofNat 64 0), .u (BitVec.ofNat 64 0), .u (BitVec.ofNat 64 0)], .own 0 1 0 1], [(0, some ⟨false, 5, [.v (.int .u8 3)]⟩)], .tup [.agg [.v (.int .i64 (.ofNat 1)), .u (BitVec.ofNat 64 0), .u (BitVec.ofNat 64 0), .u (BitVec.ofNat 64 0), .u (BitVec.ofNat 64 0), .u (BitVec.ofNat 64 0), .u (BitVec.ofNat 64 0), .u (BitVec.ofNat 64 0), .u (BitVec.ofNat 64 0), .u (BitVec.ofNat 64 0), .u (BitVec.ofNat 64 0), .u (BitVec.ofNat 64 0), .u (BitVec.ofNat 64 0), .v (.bool false), .u (BitVec.ofNat 64 594312), .u (BitVec.ofNat 64 255989), .v (.bool false), .u (BitVec.ofNat 64 14640), .u (BitVec.ofNat 64 0), .u (BitVec.ofNat 64 0), .u (BitVec.ofNat 64 0), .u (BitVec.ofNat 64 0), .u (BitVec.ofNat 64 0)], .v (.int .i64 (.ofNat 0))]⟩
set_option maxRecDepth 1000000 in
theorem mf26_1 : outC2 (outC (crunF PR e26 6 2000 26 md26_1.as md26_1.h md26_1.h.length)) = some md26_1.r := by kernel_rfl
end Go.Rq
