/- A closed law's functions, each gone through where it is called. Written by a program of ours. -/
import Derived.Test.YtcboekjnibppdaaGreatDoorRq33
namespace Go.Rq
open Go Go.Proofs
def md168_0 : List AV × AV := ([.agg [.u (BitVec.ofNat 64 0), .u (BitVec.ofNat 64 0), .u (BitVec.ofNat 64 0), .u (BitVec.ofNat 64 0), .u (BitVec.ofNat 64 0), .u (BitVec.ofNat 64 0), .u (BitVec.ofNat 64 0), .u (BitVec.ofNat 64 0), .u (BitVec.ofNat 64 0), .u (BitVec.ofNat 64 0), .u (BitVec.ofNat 64 0), .u (BitVec.ofNat 64 0), .v (.bool false)]], .v (.bool false))
set_option maxRecDepth 1000000 in
theorem mf168_0 : canQ (inlineC PR e168 4 2000 168) md168_0.1 = some (true, md168_0.2) := by kernel_rfl
end Go.Rq

/- A closed law's functions, each gone through where it is called. Written by a program of ours. -/
namespace Go.Rq
open Go Go.Proofs

def mt168 : List (List AV × AV) := [md168_0]
theorem mt168_ok : ∀ p ∈ mt168, canQ (inlineC PR e168 4 2000 168) p.1 = some (true, p.2) := fun p hp => by
  rcases List.mem_cons.1 hp with rfl | hp
  · exact mf168_0
  cases hp
noncomputable def g168 : List AV → Option (Bool × AV) := canP (memoE (canQ (inlineC PR e168 4 2000 168)) mt168)
theorem g168_ok : CallOk PR 168 g168 := canP_ok (memoE_ok (canQ_ok (.inl ⟨n168, inlineC_ok cx168 rfl rfl⟩)) mt168_ok)

/-! reliquary/little.In -/
noncomputable def e169 : Env := envD eqsT [(171, g171), (230, (fn2 kCv cLp.agg kBool (inFT tmAll)))] [] [] [] [] false []
theorem e169_ok : EnvOk PR e169 := envD_ok eqsT_ok (TabPOk.cons g171_ok (TabPOk.cons linT_ok TabPOk.nil)) TabHOk.nil TabLOk.nil TabDOk.nil
theorem cx169 : Ctx PR e169 [] (fun _ => none) 2000 169 := ctx_of e169_ok mixed (fn := Go.Proofs.Tryz.f169) (by kernel_rfl) (by kernel_rfl) (by kernel_rfl) (tabOk_none _)
theorem n169 : Enters PR 169 := enters_of (fn := Go.Proofs.Tryz.f169) (by kernel_rfl) (by kernel_rfl) (by kernel_rfl)
noncomputable def g169 : List AV → Option (Bool × AV) := (inlineC PR e169 5 2000 169)
theorem g169_ok : CallOk PR 169 g169 := (.inl ⟨n169, inlineC_ok cx169 rfl rfl⟩)

/-! reliquary/suite.KeyCheck -/
noncomputable def e101 : Env := envD eqsT [(168, g168), (169, g169)] [] [] [] [] false []
theorem e101_ok : EnvOk PR e101 := envD_ok eqsT_ok (TabPOk.cons g168_ok (TabPOk.cons g169_ok TabPOk.nil)) TabHOk.nil TabLOk.nil TabDOk.nil
theorem cx101 : Ctx PR e101 [] (fun _ => none) 2000 101 := ctx_of e101_ok mixed (fn := Go.Proofs.Tryz.f101) (by kernel_rfl) (by kernel_rfl) (by kernel_rfl) (tabOk_none _)
theorem n101 : Enters PR 101 := enters_of (fn := Go.Proofs.Tryz.f101) (by kernel_rfl) (by kernel_rfl) (by kernel_rfl)
noncomputable def g101 : List AV → Option (Bool × AV) := (inlineC PR e101 5 2000 101)
theorem g101_ok : CallOk PR 101 g101 := (.inl ⟨n101, inlineC_ok cx101 rfl rfl⟩)

/-! reliquary/suite.keys -/
noncomputable def e111 : Env := envD eqsT [(98, (fn2 c6.agg c6.agg (kInt .i64) fun a b => chainV (cmpL a b) 0)), (101, g101), (123, g123)] [] [] [] [] false []
theorem e111_ok : EnvOk PR e111 := envD_ok eqsT_ok (TabPOk.cons cmp_ok (TabPOk.cons g101_ok (TabPOk.cons g123_ok TabPOk.nil))) TabHOk.nil TabLOk.nil TabDOk.nil
theorem cx111 : Ctx PR e111 [] (fun _ => none) 2000 111 := ctx_of e111_ok mixed (fn := Go.Proofs.Tryz.f111) (by kernel_rfl) (by kernel_rfl) (by kernel_rfl) (tabOk_none _)
theorem n111 : Enters PR 111 := enters_of (fn := Go.Proofs.Tryz.f111) (by kernel_rfl) (by kernel_rfl) (by kernel_rfl)
noncomputable def g111 : List AV → AH → Nat → Option (Bool × AV × AH) := deepC PR e111 6 2000 111 4096 true
theorem g111_ok : ActOk PR 4096 111 g111 := deepC_ok cx111 rfl rfl

/-! reliquary/little.Mul -/
noncomputable def e113 : Env := envD eqsT [(188, (fn3 kCv cLp.agg kU cLp.agg (lTimesT tmAll)))] [] [] [(187, g187)] [] false [187]
theorem e113_ok : EnvOk PR e113 := envD_ok eqsT_ok (TabPOk.cons tmT_ok TabPOk.nil) TabHOk.nil TabLOk.nil (TabDOk.cons n187 g187_ok TabDOk.nil)
theorem cx113 : Ctx PR e113 [] (fun _ => none) 2000 113 := ctx_of e113_ok mixed (fn := Go.Proofs.Tryz.f113) (by kernel_rfl) (by kernel_rfl) (by kernel_rfl) (tabOk_none _)
theorem n113 : Enters PR 113 := enters_of (fn := Go.Proofs.Tryz.f113) (by kernel_rfl) (by kernel_rfl) (by kernel_rfl)
noncomputable def g113 : List AV → Option (Bool × AV) := (inlineC PR e113 5 2000 113)
theorem g113_ok : CallOk PR 113 g113 := (.inl ⟨n113, inlineC_ok cx113 rfl rfl⟩)

/-! reliquary/suite.KeyMul -/
noncomputable def e25 : Env := envD eqsT [(113, g113)] [] [] [(111, g111)] [] false [111]
theorem e25_ok : EnvOk PR e25 := envD_ok eqsT_ok (TabPOk.cons g113_ok TabPOk.nil) TabHOk.nil TabLOk.nil (TabDOk.cons n111 g111_ok TabDOk.nil)
theorem cx25 : Ctx PR e25 [] (fun _ => none) 2000 25 := ctx_of e25_ok mixed (fn := Go.Proofs.Tryz.f25) (by kernel_rfl) (by kernel_rfl) (by kernel_rfl) (tabOk_none _)
theorem n25 : Enters PR 25 := enters_of (fn := Go.Proofs.Tryz.f25) (by kernel_rfl) (by kernel_rfl) (by kernel_rfl)
noncomputable def g25 : List AV → Option (Bool × AV) := (inlineC PR e25 6 2000 25)
theorem g25_ok : CallOk PR 25 g25 := (.inl ⟨n25, inlineC_ok cx25 rfl rfl⟩)

/-! (*reliquary/schnorr.Session).none -/
noncomputable def e124 : Env := envD eqsT [] [] [] [] [] false []
theorem e124_ok : EnvOk PR e124 := envD_ok eqsT_ok TabPOk.nil TabHOk.nil TabLOk.nil TabDOk.nil
theorem cx124 : Ctx PR e124 [] (fun _ => none) 2000 124 := ctx_of e124_ok mixed (fn := Go.Proofs.Tryz.f124) (by kernel_rfl) (by kernel_rfl) (by kernel_rfl) (tabOk_none _)
theorem n124 : Enters PR 124 := enters_of (fn := Go.Proofs.Tryz.f124) (by kernel_rfl) (by kernel_rfl) (by kernel_rfl)
noncomputable def g124 : List AV → AH → Nat → Option (Bool × AV × AH) := deepC PR e124 4 2000 124 4096 true
theorem g124_ok : ActOk PR 4096 124 g124 := deepC_ok cx124 rfl rfl

/-! reliquary/share.Faults -/
noncomputable def e125 : Env := envD eqsT [] [] [] [] [] false []
theorem e125_ok : EnvOk PR e125 := envD_ok eqsT_ok TabPOk.nil TabHOk.nil TabLOk.nil TabDOk.nil
theorem cx125 : Ctx PR e125 [] (fun _ => none) 2000 125 := ctx_of e125_ok mixed (fn := Go.Proofs.Tryz.f125) (by kernel_rfl) (by kernel_rfl) (by kernel_rfl) (tabOk_none _)
theorem n125 : Enters PR 125 := enters_of (fn := Go.Proofs.Tryz.f125) (by kernel_rfl) (by kernel_rfl) (by kernel_rfl)
noncomputable def g125 : List AV → Option (Bool × AV) := (inlineC PR e125 3 2000 125)
theorem g125_ok : CallOk PR 125 g125 := (.inl ⟨n125, inlineC_ok cx125 rfl rfl⟩)

/-! reliquary/suite.Order -/
noncomputable def e34 : Env := envD eqsT [(104, g104), (123, g123)] [] [] [] [] false []
theorem e34_ok : EnvOk PR e34 := envD_ok eqsT_ok (TabPOk.cons g104_ok (TabPOk.cons g123_ok TabPOk.nil)) TabHOk.nil TabLOk.nil TabDOk.nil
theorem cx34 : Ctx PR e34 [] (fun _ => none) 2000 34 := ctx_of e34_ok mixed (fn := Go.Proofs.Tryz.f34) (by kernel_rfl) (by kernel_rfl) (by kernel_rfl) (tabOk_none _)
theorem n34 : Enters PR 34 := enters_of (fn := Go.Proofs.Tryz.f34) (by kernel_rfl) (by kernel_rfl) (by kernel_rfl)
noncomputable def g34 : List AV → Option (Bool × AV) := (inlineC PR e34 4 2000 34)
theorem g34_ok : CallOk PR 34 g34 := (.inl ⟨n34, inlineC_ok cx34 rfl rfl⟩)

/-! reliquary/share.known -/
noncomputable def e259 : Env := envD eqsT [(34, g34)] [] [] [] [] false []
theorem e259_ok : EnvOk PR e259 := envD_ok eqsT_ok (TabPOk.cons g34_ok TabPOk.nil) TabHOk.nil TabLOk.nil TabDOk.nil
theorem cx259 : Ctx PR e259 [] (fun _ => none) 2000 259 := ctx_of e259_ok mixed (fn := Go.Proofs.Tryz.f259) (by kernel_rfl) (by kernel_rfl) (by kernel_rfl) (tabOk_none _)
theorem n259 : Enters PR 259 := enters_of (fn := Go.Proofs.Tryz.f259) (by kernel_rfl) (by kernel_rfl) (by kernel_rfl)
noncomputable def g259 : List AV → Option (Bool × AV) := (inlineC PR e259 4 2000 259)
theorem g259_ok : CallOk PR 259 g259 := (.inl ⟨n259, inlineC_ok cx259 rfl rfl⟩)

/-! (*reliquary/refresh.Session).scalars$1 -/
noncomputable def e219 : Env := envD eqsT [(98, (fn2 c6.agg c6.agg (kInt .i64) fun a b => chainV (cmpL a b) 0))] [] [] [] [] false []
theorem e219_ok : EnvOk PR e219 := envD_ok eqsT_ok (TabPOk.cons cmp_ok TabPOk.nil) TabHOk.nil TabLOk.nil TabDOk.nil
theorem cx219 : Ctx PR e219 [] (fun _ => none) 2000 219 := ctx_of e219_ok mixed (fn := Go.Proofs.Tryz.f219) (by kernel_rfl) (by kernel_rfl) (by kernel_rfl) (tabOk_none _)
theorem n219 : Enters PR 219 := enters_of (fn := Go.Proofs.Tryz.f219) (by kernel_rfl) (by kernel_rfl) (by kernel_rfl)
noncomputable def g219 : List AV → AH → Nat → Option (Bool × AV × AH) := deepC PR e219 3 2000 219 4096 true
theorem g219_ok : ActOk PR 4096 219 g219 := deepC_ok cx219 rfl rfl

/-! (*reliquary/dkg.Session).scalars$1 -/
noncomputable def e222 : Env := envD eqsT [(98, (fn2 c6.agg c6.agg (kInt .i64) fun a b => chainV (cmpL a b) 0))] [] [] [] [] false []
theorem e222_ok : EnvOk PR e222 := envD_ok eqsT_ok (TabPOk.cons cmp_ok TabPOk.nil) TabHOk.nil TabLOk.nil TabDOk.nil
theorem cx222 : Ctx PR e222 [] (fun _ => none) 2000 222 := ctx_of e222_ok mixed (fn := Go.Proofs.Tryz.f222) (by kernel_rfl) (by kernel_rfl) (by kernel_rfl) (tabOk_none _)
theorem n222 : Enters PR 222 := enters_of (fn := Go.Proofs.Tryz.f222) (by kernel_rfl) (by kernel_rfl) (by kernel_rfl)
noncomputable def g222 : List AV → AH → Nat → Option (Bool × AV × AH) := deepC PR e222 3 2000 222 4096 true
theorem g222_ok : ActOk PR 4096 222 g222 := deepC_ok cx222 rfl rfl

/-! reliquary/share.scalars$1 -/
noncomputable def e302 : Env := envD eqsT [(98, (fn2 c6.agg c6.agg (kInt .i64) fun a b => chainV (cmpL a b) 0))] [] [] [] [] false []
theorem e302_ok : EnvOk PR e302 := envD_ok eqsT_ok (TabPOk.cons cmp_ok TabPOk.nil) TabHOk.nil TabLOk.nil TabDOk.nil
theorem cx302 : Ctx PR e302 [] (fun _ => none) 2000 302 := ctx_of e302_ok mixed (fn := Go.Proofs.Tryz.f302) (by kernel_rfl) (by kernel_rfl) (by kernel_rfl) (tabOk_none _)
theorem n302 : Enters PR 302 := enters_of (fn := Go.Proofs.Tryz.f302) (by kernel_rfl) (by kernel_rfl) (by kernel_rfl)
noncomputable def g302 : List AV → AH → Nat → Option (Bool × AV × AH) := deepC PR e302 3 2000 302 4096 true
theorem g302_ok : ActOk PR 4096 302 g302 := deepC_ok cx302 rfl rfl

/-! slices.IndexFunc[[]reliquary/api.Num,reliquary/api.Num] -/
noncomputable def e273 : Env := envD eqsT [] [] [] [(219, g219), (222, g222), (302, g302)] [] false [219, 222, 302]
theorem e273_ok : EnvOk PR e273 := envD_ok eqsT_ok TabPOk.nil TabHOk.nil TabLOk.nil (TabDOk.cons n219 g219_ok (TabDOk.cons n222 g222_ok (TabDOk.cons n302 g302_ok TabDOk.nil)))
theorem cx273 : Ctx PR e273 [] (fun _ => none) 2000 273 := ctx_of e273_ok mixed (fn := Go.Proofs.Tryz.f273) (by kernel_rfl) (by kernel_rfl) (by kernel_rfl) (tabOk_none _)
theorem n273 : Enters PR 273 := enters_of (fn := Go.Proofs.Tryz.f273) (by kernel_rfl) (by kernel_rfl) (by kernel_rfl)
noncomputable def g273 : List AV → AH → Nat → Option (Bool × AV × AH) := deepC PR e273 5 2000 273 4096 true
theorem g273_ok : ActOk PR 4096 273 g273 := deepC_ok cx273 rfl rfl

/-! slices.ContainsFunc[[]reliquary/api.Num,reliquary/api.Num] -/
noncomputable def e218 : Env := envD eqsT [] [] [] [(273, g273)] [] false [273]
theorem e218_ok : EnvOk PR e218 := envD_ok eqsT_ok TabPOk.nil TabHOk.nil TabLOk.nil (TabDOk.cons n273 g273_ok TabDOk.nil)
theorem cx218 : Ctx PR e218 [] (fun _ => none) 2000 218 := ctx_of e218_ok mixed (fn := Go.Proofs.Tryz.f218) (by kernel_rfl) (by kernel_rfl) (by kernel_rfl) (tabOk_none _)
theorem n218 : Enters PR 218 := enters_of (fn := Go.Proofs.Tryz.f218) (by kernel_rfl) (by kernel_rfl) (by kernel_rfl)
noncomputable def g218 : List AV → AH → Nat → Option (Bool × AV × AH) := deepC PR e218 4 2000 218 4096 true
theorem g218_ok : ActOk PR 4096 218 g218 := deepC_ok cx218 rfl rfl

/-! reliquary/share.scalars -/
noncomputable def e260 : Env := envD eqsT [(34, g34)] [] [] [(218, g218)] [] false [218]
theorem e260_ok : EnvOk PR e260 := envD_ok eqsT_ok (TabPOk.cons g34_ok TabPOk.nil) TabHOk.nil TabLOk.nil (TabDOk.cons n218 g218_ok TabDOk.nil)
theorem cx260 : Ctx PR e260 [] (fun _ => none) 2000 260 := ctx_of e260_ok mixed (fn := Go.Proofs.Tryz.f260) (by kernel_rfl) (by kernel_rfl) (by kernel_rfl) (tabOk_none _)
theorem n260 : Enters PR 260 := enters_of (fn := Go.Proofs.Tryz.f260) (by kernel_rfl) (by kernel_rfl) (by kernel_rfl)
noncomputable def g260 : List AV → AH → Nat → Option (Bool × AV × AH) := deepC PR e260 4 2000 260 4096 true
theorem g260_ok : ActOk PR 4096 260 g260 := deepC_ok cx260 rfl rfl

/-! slices.Clone[[]int,int] -/
noncomputable def e164 : Env := envD eqsT [] [] [] [] [] false []
theorem e164_ok : EnvOk PR e164 := envD_ok eqsT_ok TabPOk.nil TabHOk.nil TabLOk.nil TabDOk.nil
theorem cx164 : Ctx PR e164 [] (fun _ => none) 2000 164 := ctx_of e164_ok mixed (fn := Go.Proofs.Tryz.f164) (by kernel_rfl) (by kernel_rfl) (by kernel_rfl) (tabOk_none _)
theorem n164 : Enters PR 164 := enters_of (fn := Go.Proofs.Tryz.f164) (by kernel_rfl) (by kernel_rfl) (by kernel_rfl)
noncomputable def g164 : List AV → AH → Nat → Option (Bool × AV × AH) := deepC PR e164 3 2000 164 4096 true
theorem g164_ok : ActOk PR 4096 164 g164 := deepC_ok cx164 rfl rfl

/-! (*reliquary/dkg.Session).nodes$1 -/
noncomputable def e221 : Env := envD eqsT [] [] [] [] [] false []
theorem e221_ok : EnvOk PR e221 := envD_ok eqsT_ok TabPOk.nil TabHOk.nil TabLOk.nil TabDOk.nil
theorem cx221 : Ctx PR e221 [] (fun _ => none) 2000 221 := ctx_of e221_ok mixed (fn := Go.Proofs.Tryz.f221) (by kernel_rfl) (by kernel_rfl) (by kernel_rfl) (tabOk_none _)
theorem n221 : Enters PR 221 := enters_of (fn := Go.Proofs.Tryz.f221) (by kernel_rfl) (by kernel_rfl) (by kernel_rfl)
noncomputable def g221 : List AV → AH → Nat → Option (Bool × AV × AH) := deepC PR e221 4 2000 221 4096 true
theorem g221_ok : ActOk PR 4096 221 g221 := deepC_ok cx221 rfl rfl

/-! reliquary/share.places$1 -/
noncomputable def e303 : Env := envD eqsT [] [] [] [] [] false []
theorem e303_ok : EnvOk PR e303 := envD_ok eqsT_ok TabPOk.nil TabHOk.nil TabLOk.nil TabDOk.nil
theorem cx303 : Ctx PR e303 [] (fun _ => none) 2000 303 := ctx_of e303_ok mixed (fn := Go.Proofs.Tryz.f303) (by kernel_rfl) (by kernel_rfl) (by kernel_rfl) (tabOk_none _)
theorem n303 : Enters PR 303 := enters_of (fn := Go.Proofs.Tryz.f303) (by kernel_rfl) (by kernel_rfl) (by kernel_rfl)
noncomputable def g303 : List AV → Option (Bool × AV) := (inlineC PR e303 4 2000 303)
theorem g303_ok : CallOk PR 303 g303 := (.inl ⟨n303, inlineC_ok cx303 rfl rfl⟩)

/-! (*reliquary/dkg.Session).Accuse$1 -/
noncomputable def e163 : Env := envD eqsT [] [] [] [] [] false []
theorem e163_ok : EnvOk PR e163 := envD_ok eqsT_ok TabPOk.nil TabHOk.nil TabLOk.nil TabDOk.nil
theorem cx163 : Ctx PR e163 [] (fun _ => none) 2000 163 := ctx_of e163_ok mixed (fn := Go.Proofs.Tryz.f163) (by kernel_rfl) (by kernel_rfl) (by kernel_rfl) (tabOk_none _)
theorem n163 : Enters PR 163 := enters_of (fn := Go.Proofs.Tryz.f163) (by kernel_rfl) (by kernel_rfl) (by kernel_rfl)
noncomputable def g163 : List AV → AH → Nat → Option (Bool × AV × AH) := deepC PR e163 3 2000 163 4096 true
theorem g163_ok : ActOk PR 4096 163 g163 := deepC_ok cx163 rfl rfl

/-! slices.IndexFunc[[]int,int] -/
noncomputable def e224 : Env := envD eqsT [(303, g303)] [] [] [(221, g221), (163, g163)] [] false [221, 163]
theorem e224_ok : EnvOk PR e224 := envD_ok eqsT_ok (TabPOk.cons g303_ok TabPOk.nil) TabHOk.nil TabLOk.nil (TabDOk.cons n221 g221_ok (TabDOk.cons n163 g163_ok TabDOk.nil))
theorem cx224 : Ctx PR e224 [] (fun _ => none) 2000 224 := ctx_of e224_ok mixed (fn := Go.Proofs.Tryz.f224) (by kernel_rfl) (by kernel_rfl) (by kernel_rfl) (tabOk_none _)
theorem n224 : Enters PR 224 := enters_of (fn := Go.Proofs.Tryz.f224) (by kernel_rfl) (by kernel_rfl) (by kernel_rfl)
noncomputable def g224 : List AV → AH → Nat → Option (Bool × AV × AH) := deepC PR e224 5 2000 224 4096 true
theorem g224_ok : ActOk PR 4096 224 g224 := deepC_ok cx224 rfl rfl

/-! slices.ContainsFunc[[]int,int] -/
noncomputable def e220 : Env := envD eqsT [] [] [] [(224, g224)] [] false [224]
theorem e220_ok : EnvOk PR e220 := envD_ok eqsT_ok TabPOk.nil TabHOk.nil TabLOk.nil (TabDOk.cons n224 g224_ok TabDOk.nil)
theorem cx220 : Ctx PR e220 [] (fun _ => none) 2000 220 := ctx_of e220_ok mixed (fn := Go.Proofs.Tryz.f220) (by kernel_rfl) (by kernel_rfl) (by kernel_rfl) (tabOk_none _)
theorem n220 : Enters PR 220 := enters_of (fn := Go.Proofs.Tryz.f220) (by kernel_rfl) (by kernel_rfl) (by kernel_rfl)
noncomputable def g220 : List AV → AH → Nat → Option (Bool × AV × AH) := deepC PR e220 4 2000 220 4096 true
theorem g220_ok : ActOk PR 4096 220 g220 := deepC_ok cx220 rfl rfl

/-! cmp.isNaN[int] -/
noncomputable def e349 : Env := envD eqsT [] [] [] [] [] false []
theorem e349_ok : EnvOk PR e349 := envD_ok eqsT_ok TabPOk.nil TabHOk.nil TabLOk.nil TabDOk.nil
theorem cx349 : Ctx PR e349 [] (fun _ => none) 2000 349 := ctx_of e349_ok mixed (fn := Go.Proofs.Tryz.f349) (by kernel_rfl) (by kernel_rfl) (by kernel_rfl) (tabOk_none _)
theorem n349 : Enters PR 349 := enters_of (fn := Go.Proofs.Tryz.f349) (by kernel_rfl) (by kernel_rfl) (by kernel_rfl)
noncomputable def g349 : List AV → Option (Bool × AV) := (inlineC PR e349 3 2000 349)
theorem g349_ok : CallOk PR 349 g349 := (.inl ⟨n349, inlineC_ok cx349 rfl rfl⟩)

/-! cmp.Less[int] -/
noncomputable def e339 : Env := envD eqsT [(349, g349)] [] [] [] [] false []
theorem e339_ok : EnvOk PR e339 := envD_ok eqsT_ok (TabPOk.cons g349_ok TabPOk.nil) TabHOk.nil TabLOk.nil TabDOk.nil
theorem cx339 : Ctx PR e339 [] (fun _ => none) 2000 339 := ctx_of e339_ok mixed (fn := Go.Proofs.Tryz.f339) (by kernel_rfl) (by kernel_rfl) (by kernel_rfl) (tabOk_none _)
theorem n339 : Enters PR 339 := enters_of (fn := Go.Proofs.Tryz.f339) (by kernel_rfl) (by kernel_rfl) (by kernel_rfl)
noncomputable def g339 : List AV → Option (Bool × AV) := (inlineC PR e339 5 2000 339)
theorem g339_ok : CallOk PR 339 g339 := (.inl ⟨n339, inlineC_ok cx339 rfl rfl⟩)

/-! slices.insertionSortOrdered[int] -/
noncomputable def e333 : Env := envD eqsT [(339, g339)] [] [] [] [] false []
theorem e333_ok : EnvOk PR e333 := envD_ok eqsT_ok (TabPOk.cons g339_ok TabPOk.nil) TabHOk.nil TabLOk.nil TabDOk.nil
theorem cx333 : Ctx PR e333 [] (fun _ => none) 2000 333 := ctx_of e333_ok mixed (fn := Go.Proofs.Tryz.f333) (by kernel_rfl) (by kernel_rfl) (by kernel_rfl) (tabOk_none _)
theorem n333 : Enters PR 333 := enters_of (fn := Go.Proofs.Tryz.f333) (by kernel_rfl) (by kernel_rfl) (by kernel_rfl)
noncomputable def g333 : List AV → AH → Nat → Option (Bool × AV × AH) := deepC PR e333 6 2000 333 4096 false
theorem g333_ok : ActOk PR 4096 333 g333 := deepC_ok cx333 rfl rfl

/-! slices.siftDownOrdered[int] -/
noncomputable def e344 : Env := envD eqsT [(339, g339)] [] [] [] [] false []
theorem e344_ok : EnvOk PR e344 := envD_ok eqsT_ok (TabPOk.cons g339_ok TabPOk.nil) TabHOk.nil TabLOk.nil TabDOk.nil
theorem cx344 : Ctx PR e344 [] (fun _ => none) 2000 344 := ctx_of e344_ok mixed (fn := Go.Proofs.Tryz.f344) (by kernel_rfl) (by kernel_rfl) (by kernel_rfl) (tabOk_none _)
theorem n344 : Enters PR 344 := enters_of (fn := Go.Proofs.Tryz.f344) (by kernel_rfl) (by kernel_rfl) (by kernel_rfl)
noncomputable def g344 : List AV → AH → Nat → Option (Bool × AV × AH) := deepC PR e344 7 2000 344 4096 false
theorem g344_ok : ActOk PR 4096 344 g344 := deepC_ok cx344 rfl rfl

/-! slices.heapSortOrdered[int] -/
noncomputable def e334 : Env := envD eqsT [] [] [] [(344, g344)] [] false []
theorem e334_ok : EnvOk PR e334 := envD_ok eqsT_ok TabPOk.nil TabHOk.nil TabLOk.nil (TabDOk.cons n344 g344_ok TabDOk.nil)
theorem cx334 : Ctx PR e334 [] (fun _ => none) 2000 334 := ctx_of e334_ok mixed (fn := Go.Proofs.Tryz.f334) (by kernel_rfl) (by kernel_rfl) (by kernel_rfl) (tabOk_none _)
theorem n334 : Enters PR 334 := enters_of (fn := Go.Proofs.Tryz.f334) (by kernel_rfl) (by kernel_rfl) (by kernel_rfl)
noncomputable def g334 : List AV → AH → Nat → Option (Bool × AV × AH) := deepC PR e334 6 2000 334 4096 false
theorem g334_ok : ActOk PR 4096 334 g334 := deepC_ok cx334 rfl rfl

/-! math/bits.Len32 -/
noncomputable def e342 : Env := envD eqsT [] [] [] [] [] false []
theorem e342_ok : EnvOk PR e342 := envD_ok eqsT_ok TabPOk.nil TabHOk.nil TabLOk.nil TabDOk.nil
theorem cx342 : Ctx PR e342 [] (fun _ => none) 2000 342 := ctx_of e342_ok mixed (fn := Go.Proofs.Tryz.f342) (by kernel_rfl) (by kernel_rfl) (by kernel_rfl) (tabOk_none _)
theorem n342 : Enters PR 342 := enters_of (fn := Go.Proofs.Tryz.f342) (by kernel_rfl) (by kernel_rfl) (by kernel_rfl)
noncomputable def g342 : List AV → Option (Bool × AV) := (inlineC PR e342 5 2000 342)
theorem g342_ok : CallOk PR 342 g342 := (.inl ⟨n342, inlineC_ok cx342 rfl rfl⟩)

/-! math/bits.Len -/
noncomputable def e324 : Env := envD eqsT [(250, (fn1 kU (kInt .i64) fun x => ((bl x.toNat : Nat) : Int))), (342, g342)] [] [] [] [] false []
theorem e324_ok : EnvOk PR e324 := envD_ok eqsT_ok (TabPOk.cons len64_ok (TabPOk.cons g342_ok TabPOk.nil)) TabHOk.nil TabLOk.nil TabDOk.nil
theorem cx324 : Ctx PR e324 [] (fun _ => none) 2000 324 := ctx_of e324_ok mixed (fn := Go.Proofs.Tryz.f324) (by kernel_rfl) (by kernel_rfl) (by kernel_rfl) (tabOk_none _)
theorem n324 : Enters PR 324 := enters_of (fn := Go.Proofs.Tryz.f324) (by kernel_rfl) (by kernel_rfl) (by kernel_rfl)
noncomputable def g324 : List AV → Option (Bool × AV) := (inlineC PR e324 3 2000 324)
theorem g324_ok : CallOk PR 324 g324 := (.inl ⟨n324, inlineC_ok cx324 rfl rfl⟩)

/-! slices.nextPowerOfTwo -/
noncomputable def e345 : Env := envD eqsT [(324, g324)] [] [] [] [] false []
theorem e345_ok : EnvOk PR e345 := envD_ok eqsT_ok (TabPOk.cons g324_ok TabPOk.nil) TabHOk.nil TabLOk.nil TabDOk.nil
theorem cx345 : Ctx PR e345 [] (fun _ => none) 2000 345 := ctx_of e345_ok mixed (fn := Go.Proofs.Tryz.f345) (by kernel_rfl) (by kernel_rfl) (by kernel_rfl) (tabOk_none _)
theorem n345 : Enters PR 345 := enters_of (fn := Go.Proofs.Tryz.f345) (by kernel_rfl) (by kernel_rfl) (by kernel_rfl)
noncomputable def g345 : List AV → Option (Bool × AV) := (inlineC PR e345 3 2000 345)
theorem g345_ok : CallOk PR 345 g345 := (.inl ⟨n345, inlineC_ok cx345 rfl rfl⟩)

/-! (*slices.xorshift).Next -/
noncomputable def e346 : Env := envD eqsT [] [] [] [] [] false []
theorem e346_ok : EnvOk PR e346 := envD_ok eqsT_ok TabPOk.nil TabHOk.nil TabLOk.nil TabDOk.nil
theorem cx346 : Ctx PR e346 [] (fun _ => none) 2000 346 := ctx_of e346_ok mixed (fn := Go.Proofs.Tryz.f346) (by kernel_rfl) (by kernel_rfl) (by kernel_rfl) (tabOk_none _)
theorem n346 : Enters PR 346 := enters_of (fn := Go.Proofs.Tryz.f346) (by kernel_rfl) (by kernel_rfl) (by kernel_rfl)
noncomputable def g346 : List AV → AH → Nat → Option (Bool × AV × AH) := deepC PR e346 6 2000 346 4096 false
theorem g346_ok : ActOk PR 4096 346 g346 := deepC_ok cx346 rfl rfl

/-! slices.breakPatternsOrdered[int] -/
noncomputable def e335 : Env := envD eqsT [(345, g345)] [] [] [(346, g346)] [] false []
theorem e335_ok : EnvOk PR e335 := envD_ok eqsT_ok (TabPOk.cons g345_ok TabPOk.nil) TabHOk.nil TabLOk.nil (TabDOk.cons n346 g346_ok TabDOk.nil)
theorem cx335 : Ctx PR e335 [] (fun _ => none) 2000 335 := ctx_of e335_ok mixed (fn := Go.Proofs.Tryz.f335) (by kernel_rfl) (by kernel_rfl) (by kernel_rfl) (tabOk_none _)
theorem n335 : Enters PR 335 := enters_of (fn := Go.Proofs.Tryz.f335) (by kernel_rfl) (by kernel_rfl) (by kernel_rfl)
noncomputable def g335 : List AV → AH → Nat → Option (Bool × AV × AH) := deepC PR e335 7 2000 335 4096 false
theorem g335_ok : ActOk PR 4096 335 g335 := deepC_ok cx335 rfl rfl

/-! slices.order2Ordered[int] -/
noncomputable def e351 : Env := envD eqsT [(339, g339)] [] [] [] [] false []
theorem e351_ok : EnvOk PR e351 := envD_ok eqsT_ok (TabPOk.cons g339_ok TabPOk.nil) TabHOk.nil TabLOk.nil TabDOk.nil
theorem cx351 : Ctx PR e351 [] (fun _ => none) 2000 351 := ctx_of e351_ok mixed (fn := Go.Proofs.Tryz.f351) (by kernel_rfl) (by kernel_rfl) (by kernel_rfl) (tabOk_none _)
theorem n351 : Enters PR 351 := enters_of (fn := Go.Proofs.Tryz.f351) (by kernel_rfl) (by kernel_rfl) (by kernel_rfl)
noncomputable def g351 : List AV → AH → Nat → Option (Bool × AV × AH) := deepC PR e351 5 2000 351 4096 false
theorem g351_ok : ActOk PR 4096 351 g351 := deepC_ok cx351 rfl rfl

/-! slices.medianOrdered[int] -/
noncomputable def e348 : Env := envD eqsT [] [] [] [(351, g351)] [] false []
theorem e348_ok : EnvOk PR e348 := envD_ok eqsT_ok TabPOk.nil TabHOk.nil TabLOk.nil (TabDOk.cons n351 g351_ok TabDOk.nil)
theorem cx348 : Ctx PR e348 [] (fun _ => none) 2000 348 := ctx_of e348_ok mixed (fn := Go.Proofs.Tryz.f348) (by kernel_rfl) (by kernel_rfl) (by kernel_rfl) (tabOk_none _)
theorem n348 : Enters PR 348 := enters_of (fn := Go.Proofs.Tryz.f348) (by kernel_rfl) (by kernel_rfl) (by kernel_rfl)
noncomputable def g348 : List AV → AH → Nat → Option (Bool × AV × AH) := deepC PR e348 6 2000 348 4096 false
theorem g348_ok : ActOk PR 4096 348 g348 := deepC_ok cx348 rfl rfl

/-! slices.medianAdjacentOrdered[int] -/
noncomputable def e347 : Env := envD eqsT [] [] [] [(348, g348)] [] false []
theorem e347_ok : EnvOk PR e347 := envD_ok eqsT_ok TabPOk.nil TabHOk.nil TabLOk.nil (TabDOk.cons n348 g348_ok TabDOk.nil)
theorem cx347 : Ctx PR e347 [] (fun _ => none) 2000 347 := ctx_of e347_ok mixed (fn := Go.Proofs.Tryz.f347) (by kernel_rfl) (by kernel_rfl) (by kernel_rfl) (tabOk_none _)
theorem n347 : Enters PR 347 := enters_of (fn := Go.Proofs.Tryz.f347) (by kernel_rfl) (by kernel_rfl) (by kernel_rfl)
noncomputable def g347 : List AV → AH → Nat → Option (Bool × AV × AH) := deepC PR e347 4 2000 347 4096 false
theorem g347_ok : ActOk PR 4096 347 g347 := deepC_ok cx347 rfl rfl

/-! slices.choosePivotOrdered[int] -/
noncomputable def e336 : Env := envD eqsT [] [] [] [(347, g347), (348, g348)] [] false []
theorem e336_ok : EnvOk PR e336 := envD_ok eqsT_ok TabPOk.nil TabHOk.nil TabLOk.nil (TabDOk.cons n347 g347_ok (TabDOk.cons n348 g348_ok TabDOk.nil))
theorem cx336 : Ctx PR e336 [] (fun _ => none) 2000 336 := ctx_of e336_ok mixed (fn := Go.Proofs.Tryz.f336) (by kernel_rfl) (by kernel_rfl) (by kernel_rfl) (tabOk_none _)
theorem n336 : Enters PR 336 := enters_of (fn := Go.Proofs.Tryz.f336) (by kernel_rfl) (by kernel_rfl) (by kernel_rfl)
noncomputable def g336 : List AV → AH → Nat → Option (Bool × AV × AH) := deepC PR e336 6 2000 336 4096 false
theorem g336_ok : ActOk PR 4096 336 g336 := deepC_ok cx336 rfl rfl

/-! slices.reverseRangeOrdered[int] -/
noncomputable def e337 : Env := envD eqsT [] [] [] [] [] false []
theorem e337_ok : EnvOk PR e337 := envD_ok eqsT_ok TabPOk.nil TabHOk.nil TabLOk.nil TabDOk.nil
theorem cx337 : Ctx PR e337 [] (fun _ => none) 2000 337 := ctx_of e337_ok mixed (fn := Go.Proofs.Tryz.f337) (by kernel_rfl) (by kernel_rfl) (by kernel_rfl) (tabOk_none _)
theorem n337 : Enters PR 337 := enters_of (fn := Go.Proofs.Tryz.f337) (by kernel_rfl) (by kernel_rfl) (by kernel_rfl)
noncomputable def g337 : List AV → AH → Nat → Option (Bool × AV × AH) := deepC PR e337 5 2000 337 4096 false
theorem g337_ok : ActOk PR 4096 337 g337 := deepC_ok cx337 rfl rfl

/-! slices.partialInsertionSortOrdered[int] -/
noncomputable def e338 : Env := envD eqsT [(339, g339)] [] [] [] [] false []
theorem e338_ok : EnvOk PR e338 := envD_ok eqsT_ok (TabPOk.cons g339_ok TabPOk.nil) TabHOk.nil TabLOk.nil TabDOk.nil
theorem cx338 : Ctx PR e338 [] (fun _ => none) 2000 338 := ctx_of e338_ok mixed (fn := Go.Proofs.Tryz.f338) (by kernel_rfl) (by kernel_rfl) (by kernel_rfl) (tabOk_none _)
theorem n338 : Enters PR 338 := enters_of (fn := Go.Proofs.Tryz.f338) (by kernel_rfl) (by kernel_rfl) (by kernel_rfl)
noncomputable def g338 : List AV → AH → Nat → Option (Bool × AV × AH) := deepC PR e338 8 2000 338 4096 false
theorem g338_ok : ActOk PR 4096 338 g338 := deepC_ok cx338 rfl rfl

/-! slices.partitionEqualOrdered[int] -/
noncomputable def e340 : Env := envD eqsT [(339, g339)] [] [] [] [] false []
theorem e340_ok : EnvOk PR e340 := envD_ok eqsT_ok (TabPOk.cons g339_ok TabPOk.nil) TabHOk.nil TabLOk.nil TabDOk.nil
theorem cx340 : Ctx PR e340 [] (fun _ => none) 2000 340 := ctx_of e340_ok mixed (fn := Go.Proofs.Tryz.f340) (by kernel_rfl) (by kernel_rfl) (by kernel_rfl) (tabOk_none _)
theorem n340 : Enters PR 340 := enters_of (fn := Go.Proofs.Tryz.f340) (by kernel_rfl) (by kernel_rfl) (by kernel_rfl)
noncomputable def g340 : List AV → AH → Nat → Option (Bool × AV × AH) := deepC PR e340 7 2000 340 4096 false
theorem g340_ok : ActOk PR 4096 340 g340 := deepC_ok cx340 rfl rfl

/-! slices.partitionOrdered[int] -/
noncomputable def e341 : Env := envD eqsT [(339, g339)] [] [] [] [] false []
theorem e341_ok : EnvOk PR e341 := envD_ok eqsT_ok (TabPOk.cons g339_ok TabPOk.nil) TabHOk.nil TabLOk.nil TabDOk.nil
theorem cx341 : Ctx PR e341 [] (fun _ => none) 2000 341 := ctx_of e341_ok mixed (fn := Go.Proofs.Tryz.f341) (by kernel_rfl) (by kernel_rfl) (by kernel_rfl) (tabOk_none _)
theorem n341 : Enters PR 341 := enters_of (fn := Go.Proofs.Tryz.f341) (by kernel_rfl) (by kernel_rfl) (by kernel_rfl)
noncomputable def g341 : List AV → AH → Nat → Option (Bool × AV × AH) := deepC PR e341 8 2000 341 4096 false
theorem g341_ok : ActOk PR 4096 341 g341 := deepC_ok cx341 rfl rfl
end Go.Rq

/- A closed law's functions, each gone through where it is called. Written by a program of ours. -/
namespace Go.Rq
open Go Go.Proofs

/-! slices.pdqsortOrdered[int] -/
noncomputable def e323 : Env := envD eqsT [(339, g339)] [] [] [(333, g333), (334, g334), (335, g335), (336, g336), (337, g337), (338, g338), (340, g340), (341, g341)] [] false []
theorem e323_ok : EnvOk PR e323 := envD_ok eqsT_ok (TabPOk.cons g339_ok TabPOk.nil) TabHOk.nil TabLOk.nil (TabDOk.cons n333 g333_ok (TabDOk.cons n334 g334_ok (TabDOk.cons n335 g335_ok (TabDOk.cons n336 g336_ok (TabDOk.cons n337 g337_ok (TabDOk.cons n338 g338_ok (TabDOk.cons n340 g340_ok (TabDOk.cons n341 g341_ok TabDOk.nil))))))))
theorem cx323 : Ctx PR e323 [] (fun _ => none) 2000 323 := ctx_of e323_ok mixed (fn := Go.Proofs.Tryz.f323) (by kernel_rfl) (by kernel_rfl) (by kernel_rfl) (tabOk_none _)
theorem n323 : Enters PR 323 := enters_of (fn := Go.Proofs.Tryz.f323) (by kernel_rfl) (by kernel_rfl) (by kernel_rfl)
noncomputable def g323 : List AV → AH → Nat → Option (Bool × AV × AH) := deepC PR e323 8 2000 323 4096 false
theorem g323_ok : ActOk PR 4096 323 g323 := deepC_ok cx323 rfl rfl

/-! slices.Sort[[]int,int] -/
noncomputable def e304 : Env := envD eqsT [(324, g324)] [] [] [(323, g323)] [] false []
theorem e304_ok : EnvOk PR e304 := envD_ok eqsT_ok (TabPOk.cons g324_ok TabPOk.nil) TabHOk.nil TabLOk.nil (TabDOk.cons n323 g323_ok TabDOk.nil)
theorem cx304 : Ctx PR e304 [] (fun _ => none) 2000 304 := ctx_of e304_ok mixed (fn := Go.Proofs.Tryz.f304) (by kernel_rfl) (by kernel_rfl) (by kernel_rfl) (tabOk_none _)
theorem n304 : Enters PR 304 := enters_of (fn := Go.Proofs.Tryz.f304) (by kernel_rfl) (by kernel_rfl) (by kernel_rfl)
noncomputable def g304 : List AV → AH → Nat → Option (Bool × AV × AH) := deepC PR e304 4 2000 304 4096 false
theorem g304_ok : ActOk PR 4096 304 g304 := deepC_ok cx304 rfl rfl

/-! slices.Compact[[]int,int] -/
noncomputable def e305 : Env := envD eqsT [] [] [] [] [] false []
theorem e305_ok : EnvOk PR e305 := envD_ok eqsT_ok TabPOk.nil TabHOk.nil TabLOk.nil TabDOk.nil
theorem cx305 : Ctx PR e305 [] (fun _ => none) 2000 305 := ctx_of e305_ok mixed (fn := Go.Proofs.Tryz.f305) (by kernel_rfl) (by kernel_rfl) (by kernel_rfl) (tabOk_none _)
theorem n305 : Enters PR 305 := enters_of (fn := Go.Proofs.Tryz.f305) (by kernel_rfl) (by kernel_rfl) (by kernel_rfl)
noncomputable def g305 : List AV → AH → Nat → Option (Bool × AV × AH) := deepC PR e305 6 2000 305 4096 false
theorem g305_ok : ActOk PR 4096 305 g305 := deepC_ok cx305 rfl rfl

/-! reliquary/share.places -/
noncomputable def e261 : Env := envD eqsT [] [] [] [(164, g164), (220, g220), (304, g304), (305, g305)] [] false [164, 220]
theorem e261_ok : EnvOk PR e261 := envD_ok eqsT_ok TabPOk.nil TabHOk.nil TabLOk.nil (TabDOk.cons n164 g164_ok (TabDOk.cons n220 g220_ok (TabDOk.cons n304 g304_ok (TabDOk.cons n305 g305_ok TabDOk.nil))))
theorem cx261 : Ctx PR e261 [] (fun _ => none) 2000 261 := ctx_of e261_ok mixed (fn := Go.Proofs.Tryz.f261) (by kernel_rfl) (by kernel_rfl) (by kernel_rfl) (tabOk_none _)
theorem n261 : Enters PR 261 := enters_of (fn := Go.Proofs.Tryz.f261) (by kernel_rfl) (by kernel_rfl) (by kernel_rfl)
noncomputable def g261 : List AV → AH → Nat → Option (Bool × AV × AH) := deepC PR e261 6 2000 261 4096 true
theorem g261_ok : ActOk PR 4096 261 g261 := deepC_ok cx261 rfl rfl

/-! reliquary/share.shares -/
noncomputable def e203 : Env := envD eqsT [(259, g259)] [] [] [(260, g260), (261, g261)] [] false [260, 261]
theorem e203_ok : EnvOk PR e203 := envD_ok eqsT_ok (TabPOk.cons g259_ok TabPOk.nil) TabHOk.nil TabLOk.nil (TabDOk.cons n260 g260_ok (TabDOk.cons n261 g261_ok TabDOk.nil))
theorem cx203 : Ctx PR e203 [] (fun _ => none) 2000 203 := ctx_of e203_ok mixed (fn := Go.Proofs.Tryz.f203) (by kernel_rfl) (by kernel_rfl) (by kernel_rfl) (tabOk_none _)
theorem n203 : Enters PR 203 := enters_of (fn := Go.Proofs.Tryz.f203) (by kernel_rfl) (by kernel_rfl) (by kernel_rfl)
noncomputable def g203 : List AV → AH → Nat → Option (Bool × AV × AH) := deepC PR e203 5 2000 203 4096 true
theorem g203_ok : ActOk PR 4096 203 g203 := deepC_ok cx203 rfl rfl

/-! reliquary/share.at -/
noncomputable def e208 : Env := envD eqsT [(16, (fn1 kU c6.agg ofW))] [] [] [] [] false []
theorem e208_ok : EnvOk PR e208 := envD_ok eqsT_ok (TabPOk.cons of_ok TabPOk.nil) TabHOk.nil TabLOk.nil TabDOk.nil
theorem cx208 : Ctx PR e208 [] (fun _ => none) 2000 208 := ctx_of e208_ok mixed (fn := Go.Proofs.Tryz.f208) (by kernel_rfl) (by kernel_rfl) (by kernel_rfl) (tabOk_none _)
theorem n208 : Enters PR 208 := enters_of (fn := Go.Proofs.Tryz.f208) (by kernel_rfl) (by kernel_rfl) (by kernel_rfl)
noncomputable def g208 : List AV → Option (Bool × AV) := (inlineC PR e208 3 2000 208)
theorem g208_ok : CallOk PR 208 g208 := (.inl ⟨n208, inlineC_ok cx208 rfl rfl⟩)

/-! reliquary/suite.Sub -/
noncomputable def e120 : Env := envD eqsT [] [] [] [(194, g194)] [] false [194]
theorem e120_ok : EnvOk PR e120 := envD_ok eqsT_ok TabPOk.nil TabHOk.nil TabLOk.nil (TabDOk.cons n194 g194_ok TabDOk.nil)
theorem cx120 : Ctx PR e120 [] (fun _ => none) 2000 120 := ctx_of e120_ok mixed (fn := Go.Proofs.Tryz.f120) (by kernel_rfl) (by kernel_rfl) (by kernel_rfl) (tabOk_none _)
theorem n120 : Enters PR 120 := enters_of (fn := Go.Proofs.Tryz.f120) (by kernel_rfl) (by kernel_rfl) (by kernel_rfl)
noncomputable def g120 : List AV → Option (Bool × AV) := (inlineC PR e120 4 2000 120)
theorem g120_ok : CallOk PR 120 g120 := (.inl ⟨n120, inlineC_ok cx120 rfl rfl⟩)

/-! (reliquary/share.field).sub -/
noncomputable def e306 : Env := envD eqsT [(120, g120)] [] [] [] [] false []
theorem e306_ok : EnvOk PR e306 := envD_ok eqsT_ok (TabPOk.cons g120_ok TabPOk.nil) TabHOk.nil TabLOk.nil TabDOk.nil
theorem cx306 : Ctx PR e306 [] (fun _ => none) 2000 306 := ctx_of e306_ok mixed (fn := Go.Proofs.Tryz.f306) (by kernel_rfl) (by kernel_rfl) (by kernel_rfl) (tabOk_none _)
theorem n306 : Enters PR 306 := enters_of (fn := Go.Proofs.Tryz.f306) (by kernel_rfl) (by kernel_rfl) (by kernel_rfl)
noncomputable def g306 : List AV → Option (Bool × AV) := (inlineC PR e306 5 2000 306)
theorem g306_ok : CallOk PR 306 g306 := (.inl ⟨n306, inlineC_ok cx306 rfl rfl⟩)

/-! reliquary/words.Shift -/
noncomputable def e241 : Env := envD eqsT [] [] [] [] [] false []
theorem e241_ok : EnvOk PR e241 := envD_ok eqsT_ok TabPOk.nil TabHOk.nil TabLOk.nil TabDOk.nil
theorem cx241 : Ctx PR e241 [] (fun _ => none) 2000 241 := ctx_of e241_ok mixed (fn := Go.Proofs.Tryz.f241) (by kernel_rfl) (by kernel_rfl) (by kernel_rfl) (tabOk_none _)
theorem n241 : Enters PR 241 := enters_of (fn := Go.Proofs.Tryz.f241) (by kernel_rfl) (by kernel_rfl) (by kernel_rfl)
noncomputable def g241 : List AV → Option (Bool × AV) := (inlineC PR e241 7 2000 241)
theorem g241_ok : CallOk PR 241 g241 := (.inl ⟨n241, inlineC_ok cx241 rfl rfl⟩)

/-! (*reliquary/modulus.Modulus).half -/
noncomputable def e258 : Env := envD eqsT [(235, (fn2 c6.agg c6.agg kWB wAddW)), (241, g241)] [] [] [] [] false []
theorem e258_ok : EnvOk PR e258 := envD_ok eqsT_ok (TabPOk.cons wadd_ok (TabPOk.cons g241_ok TabPOk.nil)) TabHOk.nil TabLOk.nil TabDOk.nil
theorem cx258 : Ctx PR e258 [] (fun _ => none) 2000 258 := ctx_of e258_ok mixed (fn := Go.Proofs.Tryz.f258) (by kernel_rfl) (by kernel_rfl) (by kernel_rfl) (tabOk_none _)
theorem n258 : Enters PR 258 := enters_of (fn := Go.Proofs.Tryz.f258) (by kernel_rfl) (by kernel_rfl) (by kernel_rfl)
noncomputable def g258 : List AV → AH → Option (Bool × AV × AH) := viewG PR e258 [] 2000 258
theorem g258_ok : HeapOk PR 258 g258 := view_ok cx258

/-! (*reliquary/modulus.Modulus).Inv -/
noncomputable def e198 : Env := envD eqsT [(16, (fn1 kU c6.agg ofW)), (98, (fn2 c6.agg c6.agg (kInt .i64) fun a b => chainV (cmpL a b) 0)), (241, g241), (257, (fn2 c6.agg c6.agg kWB wSubW))] [(174, (rdp 291 cFa (mc1 c6.agg) c6.agg moRedW)), (196, (rdp 291 cFa (mc2 c6.agg c6.agg) c6.agg (fun m x => qsubW m x.1 x.2))), (232, (rdp 291 cFa mc0 kBool (fun m _ => moNone m))), (258, g258)] [] [] [] false [174, 196, 232, 258]
theorem e198_ok : EnvOk PR e198 := envD_ok eqsT_ok (TabPOk.cons of_ok (TabPOk.cons cmp_ok (TabPOk.cons g241_ok (TabPOk.cons wsub_ok TabPOk.nil)))) (TabHOk.cons mred_ent mred_ok (TabHOk.cons qsub_ent qsub_ok (TabHOk.cons mn_ent mn_ok (TabHOk.cons n258 g258_ok TabHOk.nil)))) TabLOk.nil TabDOk.nil
theorem cx198 : Ctx PR e198 [] (fun _ => none) 2000 198 := ctx_of e198_ok mixed (fn := Go.Proofs.Tryz.f198) (by kernel_rfl) (by kernel_rfl) (by kernel_rfl) (tabOk_none _)
theorem n198 : Enters PR 198 := enters_of (fn := Go.Proofs.Tryz.f198) (by kernel_rfl) (by kernel_rfl) (by kernel_rfl)
noncomputable def g198 : List AV → AH → Nat → Option (Bool × AV × AH) := deepC PR e198 7 2000 198 4096 true
theorem g198_ok : ActOk PR 4096 198 g198 := deepC_ok cx198 rfl rfl

/-! reliquary/suite.Inv -/
noncomputable def e121 : Env := envD eqsT [] [] [] [(197, g197), (198, g198)] [] false [197, 198]
theorem e121_ok : EnvOk PR e121 := envD_ok eqsT_ok TabPOk.nil TabHOk.nil TabLOk.nil (TabDOk.cons n197 g197_ok (TabDOk.cons n198 g198_ok TabDOk.nil))
theorem cx121 : Ctx PR e121 [] (fun _ => none) 2000 121 := ctx_of e121_ok mixed (fn := Go.Proofs.Tryz.f121) (by kernel_rfl) (by kernel_rfl) (by kernel_rfl) (tabOk_none _)
theorem n121 : Enters PR 121 := enters_of (fn := Go.Proofs.Tryz.f121) (by kernel_rfl) (by kernel_rfl) (by kernel_rfl)
end Go.Rq
