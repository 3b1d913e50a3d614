/- A closed law's functions, each gone through where it is called. Written by a program of ours. -/
import Derived.Test.YtcboekjnibppdaaGreatDoorRq33
import Derived.Test.YtcboekjnibppdaaGreatDoorRq11
import Derived.Test.YtcboekjnibppdaaGreatDoorRows
import Derived.Test.YtcboekjnibppdaaGreatDoorRq14
import Derived.OpenShut
import Derived.MakeChecks
import Derived.ChangeArms
namespace Go.Rq
open Go Go.Proofs

/-! (*reliquary/modulus.Modulus).Inv -/
noncomputable def e198 : Env := envD eqsT [(16, (fn1 kU c6.agg ofW)), (98, (fn2 c6.agg c6.agg (kInt .i64) fun a b => chainV (cmpL a b) 0)), (241, g241), (257, (fn2 c6.agg c6.agg kWB wSubW))] [(174, (rdp 291 cFa (mc1 c6.agg) c6.agg moRedW)), (196, (rdp 291 cFa (mc2 c6.agg c6.agg) c6.agg (fun m x => qsubW m x.1 x.2))), (232, (rdp 291 cFa mc0 kBool (fun m _ => moNone m))), (258, g258)] [] [] [9] false [174, 196, 232, 258]
theorem e198_ok : EnvOk PR e198 := envD_ok eqsT_ok (TabPOk.cons of_ok (TabPOk.cons cmp_ok (TabPOk.cons g241_ok (TabPOk.cons wsub_ok TabPOk.nil)))) (TabHOk.cons mred_ent mred_ok (TabHOk.cons qsub_ent qsub_ok (TabHOk.cons mn_ent mn_ok (TabHOk.cons n258 g258_ok TabHOk.nil)))) TabLOk.nil TabDOk.nil
theorem cx198 : Ctx PR e198 [] (fun _ => none) 2000 198 := ctx_of e198_ok mixed (fn := Go.Proofs.Tryz.f198) (by kernel_rfl) (by kernel_rfl) (by kernel_rfl) (tabOk_none _)
theorem n198 : Enters PR 198 := enters_of (fn := Go.Proofs.Tryz.f198) (by kernel_rfl) (by kernel_rfl) (by kernel_rfl)
noncomputable def g198 : List AV → AH → Nat → Option (Bool × AV × AH) := deepC PR e198 7 2000 198 4096 true
theorem g198_ok : ActOk PR 4096 198 g198 := deepC_ok cx198 rfl rfl

/-! reliquary/suite.Inv -/
noncomputable def e121 : Env := envD eqsT [] [] [] [(197, g197), (198, g198)] [9] false [197, 198]
theorem e121_ok : EnvOk PR e121 := envD_ok eqsT_ok TabPOk.nil TabHOk.nil TabLOk.nil (TabDOk.cons n197 g197_ok (TabDOk.cons n198 g198_ok TabDOk.nil))
theorem cx121 : Ctx PR e121 [] (fun _ => none) 2000 121 := ctx_of e121_ok mixed (fn := Go.Proofs.Tryz.f121) (by kernel_rfl) (by kernel_rfl) (by kernel_rfl) (tabOk_none _)
theorem n121 : Enters PR 121 := enters_of (fn := Go.Proofs.Tryz.f121) (by kernel_rfl) (by kernel_rfl) (by kernel_rfl)
noncomputable def g121 : List AV → Option (Bool × AV) := (inlineC PR e121 5 2000 121)
theorem g121_ok : CallOk PR 121 g121 := (.inl ⟨n121, inlineC_ok cx121 rfl rfl⟩)

/-! reliquary/proof.Extract -/
noncomputable def e33 : Env := envD eqsT [(34, g34), (98, (fn2 c6.agg c6.agg (kInt .i64) fun a b => chainV (cmpL a b) 0)), (120, g120), (121, g121), (122, g122)] [] [] [] [9] false []
theorem e33_ok : EnvOk PR e33 := envD_ok eqsT_ok (TabPOk.cons g34_ok (TabPOk.cons cmp_ok (TabPOk.cons g120_ok (TabPOk.cons g121_ok (TabPOk.cons g122_ok TabPOk.nil))))) TabHOk.nil TabLOk.nil TabDOk.nil
theorem cx33 : Ctx PR e33 [] (fun _ => none) 2000 33 := ctx_of e33_ok mixed (fn := Go.Proofs.Tryz.f33) (by kernel_rfl) (by kernel_rfl) (by kernel_rfl) (tabOk_none _)
theorem n33 : Enters PR 33 := enters_of (fn := Go.Proofs.Tryz.f33) (by kernel_rfl) (by kernel_rfl) (by kernel_rfl)
noncomputable def g33 : List AV → Option (Bool × AV) := (inlineC PR e33 7 2000 33)
theorem g33_ok : CallOk PR 33 g33 := (.inl ⟨n33, inlineC_ok cx33 rfl rfl⟩)

/-! reliquary/reliquarylaw21.awake -/
noncomputable def e35 : Env := envD eqsT [(16, (fn1 kU c6.agg ofW)), (23, g23), (25, g25), (33, g33)] [] [(27, tx21)] [(26, g26), (28, g28)] [9] false [26, 28]
theorem e35_ok : EnvOk PR e35 := envD_ok eqsT_ok (TabPOk.cons of_ok (TabPOk.cons g23_ok (TabPOk.cons g25_ok (TabPOk.cons g33_ok TabPOk.nil)))) TabHOk.nil (TabLOk.cons tx21_ent tx21_ok TabLOk.nil) (TabDOk.cons n26 g26_ok (TabDOk.cons n28 g28_ok TabDOk.nil))
theorem cx35 : Ctx PR e35 [] (fun _ => none) 2000 35 := ctx_of e35_ok mixed (fn := Go.Proofs.Tryz.f35) (by kernel_rfl) (by kernel_rfl) (by kernel_rfl) (tabOk_none _)
theorem n35 : Enters PR 35 := enters_of (fn := Go.Proofs.Tryz.f35) (by kernel_rfl) (by kernel_rfl) (by kernel_rfl)
noncomputable def g35 : List AV → Option (Bool × AV) := (inlineC PR e35 6 2000 35)
theorem g35_ok : CallOk PR 35 g35 := (.inl ⟨n35, inlineC_ok cx35 rfl rfl⟩)

/-! reliquary/reliquarykit.SameBytes -/
noncomputable def e36 : Env := envD eqsT [] [] [] [] [9] false []
theorem e36_ok : EnvOk PR e36 := envD_ok eqsT_ok TabPOk.nil TabHOk.nil TabLOk.nil TabDOk.nil
theorem cx36 : Ctx PR e36 [] (fun _ => none) 2000 36 := ctx_of e36_ok mixed (fn := Go.Proofs.Tryz.f36) (by kernel_rfl) (by kernel_rfl) (by kernel_rfl) (tabOk_none _)
theorem n36 : Enters PR 36 := enters_of (fn := Go.Proofs.Tryz.f36) (by kernel_rfl) (by kernel_rfl) (by kernel_rfl)
noncomputable def g36 : List AV → AH → Nat → Option (Bool × AV × AH) := deepC PR e36 4 2000 36 4096 true
theorem g36_ok : ActOk PR 4096 36 g36 := deepC_ok cx36 rfl rfl

/-! reliquary/reliquarylaw21.ProofKnown -/
noncomputable def e4 : Env := envD eqsT [(16, (fn1 kU c6.agg ofW)), (23, g23), (24, (memoA bsT)), (25, g25), (31, g31), (32, g32), (33, g33), (34, g34), (35, g35)] [] [(27, tx21)] [(26, g26), (28, g28), (29, g29), (30, g30), (36, g36)] [9] false [26, 28, 29, 30, 36]
theorem e4_ok : EnvOk PR e4 := envD_ok eqsT_ok (TabPOk.cons of_ok (TabPOk.cons g23_ok (TabPOk.cons bs_ok (TabPOk.cons g25_ok (TabPOk.cons g31_ok (TabPOk.cons g32_ok (TabPOk.cons g33_ok (TabPOk.cons g34_ok (TabPOk.cons g35_ok TabPOk.nil))))))))) TabHOk.nil (TabLOk.cons tx21_ent tx21_ok TabLOk.nil) (TabDOk.cons n26 g26_ok (TabDOk.cons n28 g28_ok (TabDOk.cons n29 g29_ok (TabDOk.cons n30 g30_ok (TabDOk.cons n36 g36_ok TabDOk.nil)))))
theorem cx4 : Ctx PR e4 [] (fun _ => none) 2000 4 := ctx_of e4_ok mixed (fn := Go.Proofs.Tryz.f4) (by kernel_rfl) (by kernel_rfl) (by kernel_rfl) (tabOk_none _)
theorem n4 : Enters PR 4 := enters_of (fn := Go.Proofs.Tryz.f4) (by kernel_rfl) (by kernel_rfl) (by kernel_rfl)
noncomputable def g4 : List AV → Option (Bool × AV) := (inlineC PR e4 8 2000 4)
theorem g4_ok : CallOk PR 4 g4 := (.inl ⟨n4, inlineC_ok cx4 rfl rfl⟩)

/-! (*reliquary/schnorr.Session).none -/
noncomputable def e124 : Env := envD eqsT [] [] [] [] [9] false []
theorem e124_ok : EnvOk PR e124 := envD_ok eqsT_ok TabPOk.nil TabHOk.nil TabLOk.nil TabDOk.nil
theorem cx124 : Ctx PR e124 [] (fun _ => none) 2000 124 := ctx_of e124_ok mixed (fn := Go.Proofs.Tryz.f124) (by kernel_rfl) (by kernel_rfl) (by kernel_rfl) (tabOk_none _)
theorem n124 : Enters PR 124 := enters_of (fn := Go.Proofs.Tryz.f124) (by kernel_rfl) (by kernel_rfl) (by kernel_rfl)
noncomputable def g124 : List AV → AH → Nat → Option (Bool × AV × AH) := deepC PR e124 4 2000 124 4096 true
theorem g124_ok : ActOk PR 4096 124 g124 := deepC_ok cx124 rfl rfl

/-! reliquary/share.Faults -/
noncomputable def e125 : Env := envD eqsT [] [] [] [] [9] false []
theorem e125_ok : EnvOk PR e125 := envD_ok eqsT_ok TabPOk.nil TabHOk.nil TabLOk.nil TabDOk.nil
theorem cx125 : Ctx PR e125 [] (fun _ => none) 2000 125 := ctx_of e125_ok mixed (fn := Go.Proofs.Tryz.f125) (by kernel_rfl) (by kernel_rfl) (by kernel_rfl) (tabOk_none _)
theorem n125 : Enters PR 125 := enters_of (fn := Go.Proofs.Tryz.f125) (by kernel_rfl) (by kernel_rfl) (by kernel_rfl)
noncomputable def g125 : List AV → Option (Bool × AV) := (inlineC PR e125 3 2000 125)
theorem g125_ok : CallOk PR 125 g125 := (.inl ⟨n125, inlineC_ok cx125 rfl rfl⟩)

/-! reliquary/share.known -/
noncomputable def e259 : Env := envD eqsT [(34, g34)] [] [] [] [9] false []
theorem e259_ok : EnvOk PR e259 := envD_ok eqsT_ok (TabPOk.cons g34_ok TabPOk.nil) TabHOk.nil TabLOk.nil TabDOk.nil
theorem cx259 : Ctx PR e259 [] (fun _ => none) 2000 259 := ctx_of e259_ok mixed (fn := Go.Proofs.Tryz.f259) (by kernel_rfl) (by kernel_rfl) (by kernel_rfl) (tabOk_none _)
theorem n259 : Enters PR 259 := enters_of (fn := Go.Proofs.Tryz.f259) (by kernel_rfl) (by kernel_rfl) (by kernel_rfl)
noncomputable def g259 : List AV → Option (Bool × AV) := (inlineC PR e259 4 2000 259)
theorem g259_ok : CallOk PR 259 g259 := (.inl ⟨n259, inlineC_ok cx259 rfl rfl⟩)

/-! (*reliquary/refresh.Session).scalars$1 -/
noncomputable def e219 : Env := envD eqsT [(98, (fn2 c6.agg c6.agg (kInt .i64) fun a b => chainV (cmpL a b) 0))] [] [] [] [9] false []
theorem e219_ok : EnvOk PR e219 := envD_ok eqsT_ok (TabPOk.cons cmp_ok TabPOk.nil) TabHOk.nil TabLOk.nil TabDOk.nil
theorem cx219 : Ctx PR e219 [] (fun _ => none) 2000 219 := ctx_of e219_ok mixed (fn := Go.Proofs.Tryz.f219) (by kernel_rfl) (by kernel_rfl) (by kernel_rfl) (tabOk_none _)
theorem n219 : Enters PR 219 := enters_of (fn := Go.Proofs.Tryz.f219) (by kernel_rfl) (by kernel_rfl) (by kernel_rfl)
noncomputable def g219 : List AV → Option (Bool × AV) := (inlineC PR e219 3 2000 219)
theorem g219_ok : CallOk PR 219 g219 := (.inl ⟨n219, inlineC_ok cx219 rfl rfl⟩)

/-! (*reliquary/dkg.Session).scalars$1 -/
noncomputable def e222 : Env := envD eqsT [(98, (fn2 c6.agg c6.agg (kInt .i64) fun a b => chainV (cmpL a b) 0))] [] [] [] [9] false []
theorem e222_ok : EnvOk PR e222 := envD_ok eqsT_ok (TabPOk.cons cmp_ok TabPOk.nil) TabHOk.nil TabLOk.nil TabDOk.nil
theorem cx222 : Ctx PR e222 [] (fun _ => none) 2000 222 := ctx_of e222_ok mixed (fn := Go.Proofs.Tryz.f222) (by kernel_rfl) (by kernel_rfl) (by kernel_rfl) (tabOk_none _)
theorem n222 : Enters PR 222 := enters_of (fn := Go.Proofs.Tryz.f222) (by kernel_rfl) (by kernel_rfl) (by kernel_rfl)
noncomputable def g222 : List AV → Option (Bool × AV) := (inlineC PR e222 3 2000 222)
theorem g222_ok : CallOk PR 222 g222 := (.inl ⟨n222, inlineC_ok cx222 rfl rfl⟩)

/-! reliquary/share.scalars$1 -/
noncomputable def e302 : Env := envD eqsT [(98, (fn2 c6.agg c6.agg (kInt .i64) fun a b => chainV (cmpL a b) 0))] [] [] [] [9] false []
theorem e302_ok : EnvOk PR e302 := envD_ok eqsT_ok (TabPOk.cons cmp_ok TabPOk.nil) TabHOk.nil TabLOk.nil TabDOk.nil
theorem cx302 : Ctx PR e302 [] (fun _ => none) 2000 302 := ctx_of e302_ok mixed (fn := Go.Proofs.Tryz.f302) (by kernel_rfl) (by kernel_rfl) (by kernel_rfl) (tabOk_none _)
theorem n302 : Enters PR 302 := enters_of (fn := Go.Proofs.Tryz.f302) (by kernel_rfl) (by kernel_rfl) (by kernel_rfl)
noncomputable def g302 : List AV → Option (Bool × AV) := (inlineC PR e302 3 2000 302)
theorem g302_ok : CallOk PR 302 g302 := (.inl ⟨n302, inlineC_ok cx302 rfl rfl⟩)

/-! slices.IndexFunc[[]reliquary/api.Num,reliquary/api.Num] -/
noncomputable def e273 : Env := envD eqsT [(219, g219), (222, g222), (302, g302)] [] [] [] [9] false []
theorem e273_ok : EnvOk PR e273 := envD_ok eqsT_ok (TabPOk.cons g219_ok (TabPOk.cons g222_ok (TabPOk.cons g302_ok TabPOk.nil))) TabHOk.nil TabLOk.nil TabDOk.nil
theorem cx273 : Ctx PR e273 [] (fun _ => none) 2000 273 := ctx_of e273_ok mixed (fn := Go.Proofs.Tryz.f273) (by kernel_rfl) (by kernel_rfl) (by kernel_rfl) (tabOk_none _)
theorem n273 : Enters PR 273 := enters_of (fn := Go.Proofs.Tryz.f273) (by kernel_rfl) (by kernel_rfl) (by kernel_rfl)
noncomputable def g273 : List AV → AH → Nat → Option (Bool × AV × AH) := deepC PR e273 5 2000 273 4096 true
theorem g273_ok : ActOk PR 4096 273 g273 := deepC_ok cx273 rfl rfl

/-! slices.ContainsFunc[[]reliquary/api.Num,reliquary/api.Num] -/
noncomputable def e218 : Env := envD eqsT [] [] [] [(273, g273)] [9] false [273]
theorem e218_ok : EnvOk PR e218 := envD_ok eqsT_ok TabPOk.nil TabHOk.nil TabLOk.nil (TabDOk.cons n273 g273_ok TabDOk.nil)
theorem cx218 : Ctx PR e218 [] (fun _ => none) 2000 218 := ctx_of e218_ok mixed (fn := Go.Proofs.Tryz.f218) (by kernel_rfl) (by kernel_rfl) (by kernel_rfl) (tabOk_none _)
theorem n218 : Enters PR 218 := enters_of (fn := Go.Proofs.Tryz.f218) (by kernel_rfl) (by kernel_rfl) (by kernel_rfl)
noncomputable def g218 : List AV → AH → Nat → Option (Bool × AV × AH) := deepC PR e218 4 2000 218 4096 true
theorem g218_ok : ActOk PR 4096 218 g218 := deepC_ok cx218 rfl rfl

/-! reliquary/share.scalars -/
noncomputable def e260 : Env := envD eqsT [(34, g34)] [] [] [(218, g218)] [9] false [218]
theorem e260_ok : EnvOk PR e260 := envD_ok eqsT_ok (TabPOk.cons g34_ok TabPOk.nil) TabHOk.nil TabLOk.nil (TabDOk.cons n218 g218_ok TabDOk.nil)
theorem cx260 : Ctx PR e260 [] (fun _ => none) 2000 260 := ctx_of e260_ok mixed (fn := Go.Proofs.Tryz.f260) (by kernel_rfl) (by kernel_rfl) (by kernel_rfl) (tabOk_none _)
theorem n260 : Enters PR 260 := enters_of (fn := Go.Proofs.Tryz.f260) (by kernel_rfl) (by kernel_rfl) (by kernel_rfl)
noncomputable def g260 : List AV → AH → Nat → Option (Bool × AV × AH) := deepC PR e260 4 2000 260 4096 true
theorem g260_ok : ActOk PR 4096 260 g260 := deepC_ok cx260 rfl rfl

/-! slices.Clone[[]int,int] -/
noncomputable def e164 : Env := envD eqsT [] [] [] [] [9] false []
theorem e164_ok : EnvOk PR e164 := envD_ok eqsT_ok TabPOk.nil TabHOk.nil TabLOk.nil TabDOk.nil
theorem cx164 : Ctx PR e164 [] (fun _ => none) 2000 164 := ctx_of e164_ok mixed (fn := Go.Proofs.Tryz.f164) (by kernel_rfl) (by kernel_rfl) (by kernel_rfl) (tabOk_none _)
theorem n164 : Enters PR 164 := enters_of (fn := Go.Proofs.Tryz.f164) (by kernel_rfl) (by kernel_rfl) (by kernel_rfl)
noncomputable def g164 : List AV → AH → Nat → Option (Bool × AV × AH) := deepC PR e164 3 2000 164 4096 true
theorem g164_ok : ActOk PR 4096 164 g164 := deepC_ok cx164 rfl rfl

/-! (*reliquary/dkg.Session).nodes$1 -/
noncomputable def e221 : Env := envD eqsT [] [] [] [] [9] false []
theorem e221_ok : EnvOk PR e221 := envD_ok eqsT_ok TabPOk.nil TabHOk.nil TabLOk.nil TabDOk.nil
theorem cx221 : Ctx PR e221 [] (fun _ => none) 2000 221 := ctx_of e221_ok mixed (fn := Go.Proofs.Tryz.f221) (by kernel_rfl) (by kernel_rfl) (by kernel_rfl) (tabOk_none _)
theorem n221 : Enters PR 221 := enters_of (fn := Go.Proofs.Tryz.f221) (by kernel_rfl) (by kernel_rfl) (by kernel_rfl)
noncomputable def g221 : List AV → Option (Bool × AV) := (inlineC PR e221 4 2000 221)
theorem g221_ok : CallOk PR 221 g221 := (.inl ⟨n221, inlineC_ok cx221 rfl rfl⟩)

/-! reliquary/share.places$1 -/
noncomputable def e303 : Env := envD eqsT [] [] [] [] [9] false []
theorem e303_ok : EnvOk PR e303 := envD_ok eqsT_ok TabPOk.nil TabHOk.nil TabLOk.nil TabDOk.nil
theorem cx303 : Ctx PR e303 [] (fun _ => none) 2000 303 := ctx_of e303_ok mixed (fn := Go.Proofs.Tryz.f303) (by kernel_rfl) (by kernel_rfl) (by kernel_rfl) (tabOk_none _)
theorem n303 : Enters PR 303 := enters_of (fn := Go.Proofs.Tryz.f303) (by kernel_rfl) (by kernel_rfl) (by kernel_rfl)
noncomputable def g303 : List AV → Option (Bool × AV) := (inlineC PR e303 4 2000 303)
theorem g303_ok : CallOk PR 303 g303 := (.inl ⟨n303, inlineC_ok cx303 rfl rfl⟩)

/-! (*reliquary/dkg.Session).Accuse$1 -/
noncomputable def e163 : Env := envD eqsT [] [] [] [] [9] false []
theorem e163_ok : EnvOk PR e163 := envD_ok eqsT_ok TabPOk.nil TabHOk.nil TabLOk.nil TabDOk.nil
theorem cx163 : Ctx PR e163 [] (fun _ => none) 2000 163 := ctx_of e163_ok mixed (fn := Go.Proofs.Tryz.f163) (by kernel_rfl) (by kernel_rfl) (by kernel_rfl) (tabOk_none _)
theorem n163 : Enters PR 163 := enters_of (fn := Go.Proofs.Tryz.f163) (by kernel_rfl) (by kernel_rfl) (by kernel_rfl)
noncomputable def g163 : List AV → Option (Bool × AV) := (inlineC PR e163 3 2000 163)
theorem g163_ok : CallOk PR 163 g163 := (.inl ⟨n163, inlineC_ok cx163 rfl rfl⟩)

/-! slices.IndexFunc[[]int,int] -/
noncomputable def e224 : Env := envD eqsT [(221, g221), (303, g303), (163, g163)] [] [] [] [9] false []
theorem e224_ok : EnvOk PR e224 := envD_ok eqsT_ok (TabPOk.cons g221_ok (TabPOk.cons g303_ok (TabPOk.cons g163_ok TabPOk.nil))) TabHOk.nil TabLOk.nil TabDOk.nil
theorem cx224 : Ctx PR e224 [] (fun _ => none) 2000 224 := ctx_of e224_ok mixed (fn := Go.Proofs.Tryz.f224) (by kernel_rfl) (by kernel_rfl) (by kernel_rfl) (tabOk_none _)
theorem n224 : Enters PR 224 := enters_of (fn := Go.Proofs.Tryz.f224) (by kernel_rfl) (by kernel_rfl) (by kernel_rfl)
noncomputable def g224 : List AV → AH → Nat → Option (Bool × AV × AH) := deepC PR e224 5 2000 224 4096 true
theorem g224_ok : ActOk PR 4096 224 g224 := deepC_ok cx224 rfl rfl

/-! slices.ContainsFunc[[]int,int] -/
noncomputable def e220 : Env := envD eqsT [] [] [] [(224, g224)] [9] false [224]
theorem e220_ok : EnvOk PR e220 := envD_ok eqsT_ok TabPOk.nil TabHOk.nil TabLOk.nil (TabDOk.cons n224 g224_ok TabDOk.nil)
theorem cx220 : Ctx PR e220 [] (fun _ => none) 2000 220 := ctx_of e220_ok mixed (fn := Go.Proofs.Tryz.f220) (by kernel_rfl) (by kernel_rfl) (by kernel_rfl) (tabOk_none _)
theorem n220 : Enters PR 220 := enters_of (fn := Go.Proofs.Tryz.f220) (by kernel_rfl) (by kernel_rfl) (by kernel_rfl)
noncomputable def g220 : List AV → AH → Nat → Option (Bool × AV × AH) := deepC PR e220 4 2000 220 4096 true
theorem g220_ok : ActOk PR 4096 220 g220 := deepC_ok cx220 rfl rfl

/-! cmp.isNaN[int] -/
noncomputable def e349 : Env := envD eqsT [] [] [] [] [9] false []
theorem e349_ok : EnvOk PR e349 := envD_ok eqsT_ok TabPOk.nil TabHOk.nil TabLOk.nil TabDOk.nil
theorem cx349 : Ctx PR e349 [] (fun _ => none) 2000 349 := ctx_of e349_ok mixed (fn := Go.Proofs.Tryz.f349) (by kernel_rfl) (by kernel_rfl) (by kernel_rfl) (tabOk_none _)
theorem n349 : Enters PR 349 := enters_of (fn := Go.Proofs.Tryz.f349) (by kernel_rfl) (by kernel_rfl) (by kernel_rfl)
noncomputable def g349 : List AV → Option (Bool × AV) := (inlineC PR e349 3 2000 349)
theorem g349_ok : CallOk PR 349 g349 := (.inl ⟨n349, inlineC_ok cx349 rfl rfl⟩)

/-! cmp.Less[int] -/
noncomputable def e339 : Env := envD eqsT [(349, g349)] [] [] [] [9] false []
theorem e339_ok : EnvOk PR e339 := envD_ok eqsT_ok (TabPOk.cons g349_ok TabPOk.nil) TabHOk.nil TabLOk.nil TabDOk.nil
theorem cx339 : Ctx PR e339 [] (fun _ => none) 2000 339 := ctx_of e339_ok mixed (fn := Go.Proofs.Tryz.f339) (by kernel_rfl) (by kernel_rfl) (by kernel_rfl) (tabOk_none _)
theorem n339 : Enters PR 339 := enters_of (fn := Go.Proofs.Tryz.f339) (by kernel_rfl) (by kernel_rfl) (by kernel_rfl)
noncomputable def g339 : List AV → Option (Bool × AV) := (inlineC PR e339 5 2000 339)
theorem g339_ok : CallOk PR 339 g339 := (.inl ⟨n339, inlineC_ok cx339 rfl rfl⟩)

/-! slices.insertionSortOrdered[int] -/
noncomputable def e333 : Env := envD eqsT [(339, g339)] [] [] [] [9] false []
theorem e333_ok : EnvOk PR e333 := envD_ok eqsT_ok (TabPOk.cons g339_ok TabPOk.nil) TabHOk.nil TabLOk.nil TabDOk.nil
theorem cx333 : Ctx PR e333 [] (fun _ => none) 2000 333 := ctx_of e333_ok mixed (fn := Go.Proofs.Tryz.f333) (by kernel_rfl) (by kernel_rfl) (by kernel_rfl) (tabOk_none _)
theorem n333 : Enters PR 333 := enters_of (fn := Go.Proofs.Tryz.f333) (by kernel_rfl) (by kernel_rfl) (by kernel_rfl)
noncomputable def g333 : List AV → AH → Nat → Option (Bool × AV × AH) := deepC PR e333 6 2000 333 4096 false
theorem g333_ok : ActOk PR 4096 333 g333 := deepC_ok cx333 rfl rfl

/-! slices.siftDownOrdered[int] -/
noncomputable def e344 : Env := envD eqsT [(339, g339)] [] [] [] [9] false []
theorem e344_ok : EnvOk PR e344 := envD_ok eqsT_ok (TabPOk.cons g339_ok TabPOk.nil) TabHOk.nil TabLOk.nil TabDOk.nil
theorem cx344 : Ctx PR e344 [] (fun _ => none) 2000 344 := ctx_of e344_ok mixed (fn := Go.Proofs.Tryz.f344) (by kernel_rfl) (by kernel_rfl) (by kernel_rfl) (tabOk_none _)
theorem n344 : Enters PR 344 := enters_of (fn := Go.Proofs.Tryz.f344) (by kernel_rfl) (by kernel_rfl) (by kernel_rfl)
noncomputable def g344 : List AV → AH → Nat → Option (Bool × AV × AH) := deepC PR e344 7 2000 344 4096 false
theorem g344_ok : ActOk PR 4096 344 g344 := deepC_ok cx344 rfl rfl

/-! slices.heapSortOrdered[int] -/
noncomputable def e334 : Env := envD eqsT [] [] [] [(344, g344)] [9] false []
theorem e334_ok : EnvOk PR e334 := envD_ok eqsT_ok TabPOk.nil TabHOk.nil TabLOk.nil (TabDOk.cons n344 g344_ok TabDOk.nil)
theorem cx334 : Ctx PR e334 [] (fun _ => none) 2000 334 := ctx_of e334_ok mixed (fn := Go.Proofs.Tryz.f334) (by kernel_rfl) (by kernel_rfl) (by kernel_rfl) (tabOk_none _)
theorem n334 : Enters PR 334 := enters_of (fn := Go.Proofs.Tryz.f334) (by kernel_rfl) (by kernel_rfl) (by kernel_rfl)
noncomputable def g334 : List AV → AH → Nat → Option (Bool × AV × AH) := deepC PR e334 6 2000 334 4096 false
theorem g334_ok : ActOk PR 4096 334 g334 := deepC_ok cx334 rfl rfl

/-! math/bits.Len32 -/
noncomputable def e342 : Env := envD eqsT [] [] [] [] [9] false []
theorem e342_ok : EnvOk PR e342 := envD_ok eqsT_ok TabPOk.nil TabHOk.nil TabLOk.nil TabDOk.nil
theorem cx342 : Ctx PR e342 [] (fun _ => none) 2000 342 := ctx_of e342_ok mixed (fn := Go.Proofs.Tryz.f342) (by kernel_rfl) (by kernel_rfl) (by kernel_rfl) (tabOk_none _)
theorem n342 : Enters PR 342 := enters_of (fn := Go.Proofs.Tryz.f342) (by kernel_rfl) (by kernel_rfl) (by kernel_rfl)
noncomputable def g342 : List AV → Option (Bool × AV) := (inlineC PR e342 5 2000 342)
theorem g342_ok : CallOk PR 342 g342 := (.inl ⟨n342, inlineC_ok cx342 rfl rfl⟩)

/-! math/bits.Len -/
noncomputable def e324 : Env := envD eqsT [(250, (fn1 kU (kInt .i64) fun x => ((bl x.toNat : Nat) : Int))), (342, g342)] [] [] [] [9] false []
theorem e324_ok : EnvOk PR e324 := envD_ok eqsT_ok (TabPOk.cons len64_ok (TabPOk.cons g342_ok TabPOk.nil)) TabHOk.nil TabLOk.nil TabDOk.nil
theorem cx324 : Ctx PR e324 [] (fun _ => none) 2000 324 := ctx_of e324_ok mixed (fn := Go.Proofs.Tryz.f324) (by kernel_rfl) (by kernel_rfl) (by kernel_rfl) (tabOk_none _)
theorem n324 : Enters PR 324 := enters_of (fn := Go.Proofs.Tryz.f324) (by kernel_rfl) (by kernel_rfl) (by kernel_rfl)
noncomputable def g324 : List AV → Option (Bool × AV) := (inlineC PR e324 3 2000 324)
theorem g324_ok : CallOk PR 324 g324 := (.inl ⟨n324, inlineC_ok cx324 rfl rfl⟩)

/-! slices.nextPowerOfTwo -/
noncomputable def e345 : Env := envD eqsT [(324, g324)] [] [] [] [9] false []
theorem e345_ok : EnvOk PR e345 := envD_ok eqsT_ok (TabPOk.cons g324_ok TabPOk.nil) TabHOk.nil TabLOk.nil TabDOk.nil
theorem cx345 : Ctx PR e345 [] (fun _ => none) 2000 345 := ctx_of e345_ok mixed (fn := Go.Proofs.Tryz.f345) (by kernel_rfl) (by kernel_rfl) (by kernel_rfl) (tabOk_none _)
theorem n345 : Enters PR 345 := enters_of (fn := Go.Proofs.Tryz.f345) (by kernel_rfl) (by kernel_rfl) (by kernel_rfl)
noncomputable def g345 : List AV → Option (Bool × AV) := (inlineC PR e345 3 2000 345)
theorem g345_ok : CallOk PR 345 g345 := (.inl ⟨n345, inlineC_ok cx345 rfl rfl⟩)

/-! (*slices.xorshift).Next -/
noncomputable def e346 : Env := envD eqsT [] [] [] [] [9] false []
theorem e346_ok : EnvOk PR e346 := envD_ok eqsT_ok TabPOk.nil TabHOk.nil TabLOk.nil TabDOk.nil
theorem cx346 : Ctx PR e346 [] (fun _ => none) 2000 346 := ctx_of e346_ok mixed (fn := Go.Proofs.Tryz.f346) (by kernel_rfl) (by kernel_rfl) (by kernel_rfl) (tabOk_none _)
theorem n346 : Enters PR 346 := enters_of (fn := Go.Proofs.Tryz.f346) (by kernel_rfl) (by kernel_rfl) (by kernel_rfl)
noncomputable def g346 : List AV → AH → Nat → Option (Bool × AV × AH) := deepC PR e346 6 2000 346 4096 false
theorem g346_ok : ActOk PR 4096 346 g346 := deepC_ok cx346 rfl rfl

/-! slices.breakPatternsOrdered[int] -/
noncomputable def e335 : Env := envD eqsT [(345, g345)] [] [] [(346, g346)] [9] false []
theorem e335_ok : EnvOk PR e335 := envD_ok eqsT_ok (TabPOk.cons g345_ok TabPOk.nil) TabHOk.nil TabLOk.nil (TabDOk.cons n346 g346_ok TabDOk.nil)
theorem cx335 : Ctx PR e335 [] (fun _ => none) 2000 335 := ctx_of e335_ok mixed (fn := Go.Proofs.Tryz.f335) (by kernel_rfl) (by kernel_rfl) (by kernel_rfl) (tabOk_none _)
theorem n335 : Enters PR 335 := enters_of (fn := Go.Proofs.Tryz.f335) (by kernel_rfl) (by kernel_rfl) (by kernel_rfl)
noncomputable def g335 : List AV → AH → Nat → Option (Bool × AV × AH) := deepC PR e335 7 2000 335 4096 false
theorem g335_ok : ActOk PR 4096 335 g335 := deepC_ok cx335 rfl rfl

/-! slices.order2Ordered[int] -/
noncomputable def e351 : Env := envD eqsT [(339, g339)] [] [] [] [9] false []
theorem e351_ok : EnvOk PR e351 := envD_ok eqsT_ok (TabPOk.cons g339_ok TabPOk.nil) TabHOk.nil TabLOk.nil TabDOk.nil
theorem cx351 : Ctx PR e351 [] (fun _ => none) 2000 351 := ctx_of e351_ok mixed (fn := Go.Proofs.Tryz.f351) (by kernel_rfl) (by kernel_rfl) (by kernel_rfl) (tabOk_none _)
theorem n351 : Enters PR 351 := enters_of (fn := Go.Proofs.Tryz.f351) (by kernel_rfl) (by kernel_rfl) (by kernel_rfl)
noncomputable def g351 : List AV → AH → Nat → Option (Bool × AV × AH) := deepC PR e351 5 2000 351 4096 false
theorem g351_ok : ActOk PR 4096 351 g351 := deepC_ok cx351 rfl rfl

/-! slices.medianOrdered[int] -/
noncomputable def e348 : Env := envD eqsT [] [] [] [(351, g351)] [9] false []
theorem e348_ok : EnvOk PR e348 := envD_ok eqsT_ok TabPOk.nil TabHOk.nil TabLOk.nil (TabDOk.cons n351 g351_ok TabDOk.nil)
theorem cx348 : Ctx PR e348 [] (fun _ => none) 2000 348 := ctx_of e348_ok mixed (fn := Go.Proofs.Tryz.f348) (by kernel_rfl) (by kernel_rfl) (by kernel_rfl) (tabOk_none _)
theorem n348 : Enters PR 348 := enters_of (fn := Go.Proofs.Tryz.f348) (by kernel_rfl) (by kernel_rfl) (by kernel_rfl)
noncomputable def g348 : List AV → AH → Nat → Option (Bool × AV × AH) := deepC PR e348 6 2000 348 4096 false
theorem g348_ok : ActOk PR 4096 348 g348 := deepC_ok cx348 rfl rfl

/-! slices.medianAdjacentOrdered[int] -/
noncomputable def e347 : Env := envD eqsT [] [] [] [(348, g348)] [9] false []
theorem e347_ok : EnvOk PR e347 := envD_ok eqsT_ok TabPOk.nil TabHOk.nil TabLOk.nil (TabDOk.cons n348 g348_ok TabDOk.nil)
theorem cx347 : Ctx PR e347 [] (fun _ => none) 2000 347 := ctx_of e347_ok mixed (fn := Go.Proofs.Tryz.f347) (by kernel_rfl) (by kernel_rfl) (by kernel_rfl) (tabOk_none _)
theorem n347 : Enters PR 347 := enters_of (fn := Go.Proofs.Tryz.f347) (by kernel_rfl) (by kernel_rfl) (by kernel_rfl)
noncomputable def g347 : List AV → AH → Nat → Option (Bool × AV × AH) := deepC PR e347 4 2000 347 4096 false
theorem g347_ok : ActOk PR 4096 347 g347 := deepC_ok cx347 rfl rfl

/-! slices.choosePivotOrdered[int] -/
noncomputable def e336 : Env := envD eqsT [] [] [] [(347, g347), (348, g348)] [9] false []
theorem e336_ok : EnvOk PR e336 := envD_ok eqsT_ok TabPOk.nil TabHOk.nil TabLOk.nil (TabDOk.cons n347 g347_ok (TabDOk.cons n348 g348_ok TabDOk.nil))
theorem cx336 : Ctx PR e336 [] (fun _ => none) 2000 336 := ctx_of e336_ok mixed (fn := Go.Proofs.Tryz.f336) (by kernel_rfl) (by kernel_rfl) (by kernel_rfl) (tabOk_none _)
theorem n336 : Enters PR 336 := enters_of (fn := Go.Proofs.Tryz.f336) (by kernel_rfl) (by kernel_rfl) (by kernel_rfl)
noncomputable def g336 : List AV → AH → Nat → Option (Bool × AV × AH) := deepC PR e336 6 2000 336 4096 false
theorem g336_ok : ActOk PR 4096 336 g336 := deepC_ok cx336 rfl rfl

/-! slices.reverseRangeOrdered[int] -/
noncomputable def e337 : Env := envD eqsT [] [] [] [] [9] false []
theorem e337_ok : EnvOk PR e337 := envD_ok eqsT_ok TabPOk.nil TabHOk.nil TabLOk.nil TabDOk.nil
theorem cx337 : Ctx PR e337 [] (fun _ => none) 2000 337 := ctx_of e337_ok mixed (fn := Go.Proofs.Tryz.f337) (by kernel_rfl) (by kernel_rfl) (by kernel_rfl) (tabOk_none _)
theorem n337 : Enters PR 337 := enters_of (fn := Go.Proofs.Tryz.f337) (by kernel_rfl) (by kernel_rfl) (by kernel_rfl)
noncomputable def g337 : List AV → AH → Nat → Option (Bool × AV × AH) := deepC PR e337 5 2000 337 4096 false
theorem g337_ok : ActOk PR 4096 337 g337 := deepC_ok cx337 rfl rfl

/-! slices.partialInsertionSortOrdered[int] -/
noncomputable def e338 : Env := envD eqsT [(339, g339)] [] [] [] [9] false []
theorem e338_ok : EnvOk PR e338 := envD_ok eqsT_ok (TabPOk.cons g339_ok TabPOk.nil) TabHOk.nil TabLOk.nil TabDOk.nil
theorem cx338 : Ctx PR e338 [] (fun _ => none) 2000 338 := ctx_of e338_ok mixed (fn := Go.Proofs.Tryz.f338) (by kernel_rfl) (by kernel_rfl) (by kernel_rfl) (tabOk_none _)
theorem n338 : Enters PR 338 := enters_of (fn := Go.Proofs.Tryz.f338) (by kernel_rfl) (by kernel_rfl) (by kernel_rfl)
noncomputable def g338 : List AV → AH → Nat → Option (Bool × AV × AH) := deepC PR e338 8 2000 338 4096 false
theorem g338_ok : ActOk PR 4096 338 g338 := deepC_ok cx338 rfl rfl

/-! slices.partitionEqualOrdered[int] -/
noncomputable def e340 : Env := envD eqsT [(339, g339)] [] [] [] [9] false []
theorem e340_ok : EnvOk PR e340 := envD_ok eqsT_ok (TabPOk.cons g339_ok TabPOk.nil) TabHOk.nil TabLOk.nil TabDOk.nil
theorem cx340 : Ctx PR e340 [] (fun _ => none) 2000 340 := ctx_of e340_ok mixed (fn := Go.Proofs.Tryz.f340) (by kernel_rfl) (by kernel_rfl) (by kernel_rfl) (tabOk_none _)
theorem n340 : Enters PR 340 := enters_of (fn := Go.Proofs.Tryz.f340) (by kernel_rfl) (by kernel_rfl) (by kernel_rfl)
noncomputable def g340 : List AV → AH → Nat → Option (Bool × AV × AH) := deepC PR e340 7 2000 340 4096 false
theorem g340_ok : ActOk PR 4096 340 g340 := deepC_ok cx340 rfl rfl

/-! slices.partitionOrdered[int] -/
noncomputable def e341 : Env := envD eqsT [(339, g339)] [] [] [] [9] false []
theorem e341_ok : EnvOk PR e341 := envD_ok eqsT_ok (TabPOk.cons g339_ok TabPOk.nil) TabHOk.nil TabLOk.nil TabDOk.nil
theorem cx341 : Ctx PR e341 [] (fun _ => none) 2000 341 := ctx_of e341_ok mixed (fn := Go.Proofs.Tryz.f341) (by kernel_rfl) (by kernel_rfl) (by kernel_rfl) (tabOk_none _)
theorem n341 : Enters PR 341 := enters_of (fn := Go.Proofs.Tryz.f341) (by kernel_rfl) (by kernel_rfl) (by kernel_rfl)
noncomputable def g341 : List AV → AH → Nat → Option (Bool × AV × AH) := deepC PR e341 8 2000 341 4096 false
theorem g341_ok : ActOk PR 4096 341 g341 := deepC_ok cx341 rfl rfl

/-! slices.pdqsortOrdered[int] -/
noncomputable def e323 : Env := envD eqsT [(339, g339)] [] [] [(333, g333), (334, g334), (335, g335), (336, g336), (337, g337), (338, g338), (340, g340), (341, g341)] [9] false []
theorem e323_ok : EnvOk PR e323 := envD_ok eqsT_ok (TabPOk.cons g339_ok TabPOk.nil) TabHOk.nil TabLOk.nil (TabDOk.cons n333 g333_ok (TabDOk.cons n334 g334_ok (TabDOk.cons n335 g335_ok (TabDOk.cons n336 g336_ok (TabDOk.cons n337 g337_ok (TabDOk.cons n338 g338_ok (TabDOk.cons n340 g340_ok (TabDOk.cons n341 g341_ok TabDOk.nil))))))))
theorem cx323 : Ctx PR e323 [] (fun _ => none) 2000 323 := ctx_of e323_ok mixed (fn := Go.Proofs.Tryz.f323) (by kernel_rfl) (by kernel_rfl) (by kernel_rfl) (tabOk_none _)
theorem n323 : Enters PR 323 := enters_of (fn := Go.Proofs.Tryz.f323) (by kernel_rfl) (by kernel_rfl) (by kernel_rfl)
noncomputable def g323 : List AV → AH → Nat → Option (Bool × AV × AH) := deepC PR e323 8 2000 323 4096 false
theorem g323_ok : ActOk PR 4096 323 g323 := deepC_ok cx323 rfl rfl
end Go.Rq

/- A closed law's functions, each gone through where it is called. Written by a program of ours. -/
namespace Go.Rq
open Go Go.Proofs

/-! slices.Sort[[]int,int] -/
noncomputable def e304 : Env := envD eqsT [(324, g324)] [] [] [(323, g323)] [9] false []
theorem e304_ok : EnvOk PR e304 := envD_ok eqsT_ok (TabPOk.cons g324_ok TabPOk.nil) TabHOk.nil TabLOk.nil (TabDOk.cons n323 g323_ok TabDOk.nil)
theorem cx304 : Ctx PR e304 [] (fun _ => none) 2000 304 := ctx_of e304_ok mixed (fn := Go.Proofs.Tryz.f304) (by kernel_rfl) (by kernel_rfl) (by kernel_rfl) (tabOk_none _)
theorem n304 : Enters PR 304 := enters_of (fn := Go.Proofs.Tryz.f304) (by kernel_rfl) (by kernel_rfl) (by kernel_rfl)
noncomputable def g304 : List AV → AH → Nat → Option (Bool × AV × AH) := deepC PR e304 4 2000 304 4096 false
theorem g304_ok : ActOk PR 4096 304 g304 := deepC_ok cx304 rfl rfl

/-! slices.Compact[[]int,int] -/
noncomputable def e305 : Env := envD eqsT [] [] [] [] [9] false []
theorem e305_ok : EnvOk PR e305 := envD_ok eqsT_ok TabPOk.nil TabHOk.nil TabLOk.nil TabDOk.nil
theorem cx305 : Ctx PR e305 [] (fun _ => none) 2000 305 := ctx_of e305_ok mixed (fn := Go.Proofs.Tryz.f305) (by kernel_rfl) (by kernel_rfl) (by kernel_rfl) (tabOk_none _)
theorem n305 : Enters PR 305 := enters_of (fn := Go.Proofs.Tryz.f305) (by kernel_rfl) (by kernel_rfl) (by kernel_rfl)
noncomputable def g305 : List AV → AH → Nat → Option (Bool × AV × AH) := deepC PR e305 6 2000 305 4096 false
theorem g305_ok : ActOk PR 4096 305 g305 := deepC_ok cx305 rfl rfl

/-! reliquary/share.places -/
noncomputable def e261 : Env := envD eqsT [] [] [] [(164, g164), (220, g220), (304, g304), (305, g305)] [9] false [164, 220]
theorem e261_ok : EnvOk PR e261 := envD_ok eqsT_ok TabPOk.nil TabHOk.nil TabLOk.nil (TabDOk.cons n164 g164_ok (TabDOk.cons n220 g220_ok (TabDOk.cons n304 g304_ok (TabDOk.cons n305 g305_ok TabDOk.nil))))
theorem cx261 : Ctx PR e261 [] (fun _ => none) 2000 261 := ctx_of e261_ok mixed (fn := Go.Proofs.Tryz.f261) (by kernel_rfl) (by kernel_rfl) (by kernel_rfl) (tabOk_none _)
theorem n261 : Enters PR 261 := enters_of (fn := Go.Proofs.Tryz.f261) (by kernel_rfl) (by kernel_rfl) (by kernel_rfl)
noncomputable def g261 : List AV → AH → Nat → Option (Bool × AV × AH) := deepC PR e261 6 2000 261 4096 true
theorem g261_ok : ActOk PR 4096 261 g261 := deepC_ok cx261 rfl rfl

/-! reliquary/share.shares -/
noncomputable def e203 : Env := envD eqsT [(259, g259)] [] [] [(260, g260), (261, g261)] [9] false [260, 261]
theorem e203_ok : EnvOk PR e203 := envD_ok eqsT_ok (TabPOk.cons g259_ok TabPOk.nil) TabHOk.nil TabLOk.nil (TabDOk.cons n260 g260_ok (TabDOk.cons n261 g261_ok TabDOk.nil))
theorem cx203 : Ctx PR e203 [] (fun _ => none) 2000 203 := ctx_of e203_ok mixed (fn := Go.Proofs.Tryz.f203) (by kernel_rfl) (by kernel_rfl) (by kernel_rfl) (tabOk_none _)
theorem n203 : Enters PR 203 := enters_of (fn := Go.Proofs.Tryz.f203) (by kernel_rfl) (by kernel_rfl) (by kernel_rfl)
noncomputable def g203 : List AV → AH → Nat → Option (Bool × AV × AH) := deepC PR e203 5 2000 203 4096 true
theorem g203_ok : ActOk PR 4096 203 g203 := deepC_ok cx203 rfl rfl

/-! reliquary/share.at -/
noncomputable def e208 : Env := envD eqsT [(16, (fn1 kU c6.agg ofW))] [] [] [] [9] false []
theorem e208_ok : EnvOk PR e208 := envD_ok eqsT_ok (TabPOk.cons of_ok TabPOk.nil) TabHOk.nil TabLOk.nil TabDOk.nil
theorem cx208 : Ctx PR e208 [] (fun _ => none) 2000 208 := ctx_of e208_ok mixed (fn := Go.Proofs.Tryz.f208) (by kernel_rfl) (by kernel_rfl) (by kernel_rfl) (tabOk_none _)
theorem n208 : Enters PR 208 := enters_of (fn := Go.Proofs.Tryz.f208) (by kernel_rfl) (by kernel_rfl) (by kernel_rfl)
noncomputable def g208 : List AV → Option (Bool × AV) := (inlineC PR e208 3 2000 208)
theorem g208_ok : CallOk PR 208 g208 := (.inl ⟨n208, inlineC_ok cx208 rfl rfl⟩)

/-! (reliquary/share.field).mul -/
noncomputable def e264 : Env := envD eqsT [(122, g122)] [] [] [] [9] false []
theorem e264_ok : EnvOk PR e264 := envD_ok eqsT_ok (TabPOk.cons g122_ok TabPOk.nil) TabHOk.nil TabLOk.nil TabDOk.nil
theorem cx264 : Ctx PR e264 [] (fun _ => none) 2000 264 := ctx_of e264_ok mixed (fn := Go.Proofs.Tryz.f264) (by kernel_rfl) (by kernel_rfl) (by kernel_rfl) (tabOk_none _)
theorem n264 : Enters PR 264 := enters_of (fn := Go.Proofs.Tryz.f264) (by kernel_rfl) (by kernel_rfl) (by kernel_rfl)
noncomputable def g264 : List AV → Option (Bool × AV) := (inlineC PR e264 5 2000 264)
theorem g264_ok : CallOk PR 264 g264 := (.inl ⟨n264, inlineC_ok cx264 rfl rfl⟩)

/-! (reliquary/share.field).sub -/
noncomputable def e306 : Env := envD eqsT [(120, g120)] [] [] [] [9] false []
theorem e306_ok : EnvOk PR e306 := envD_ok eqsT_ok (TabPOk.cons g120_ok TabPOk.nil) TabHOk.nil TabLOk.nil TabDOk.nil
theorem cx306 : Ctx PR e306 [] (fun _ => none) 2000 306 := ctx_of e306_ok mixed (fn := Go.Proofs.Tryz.f306) (by kernel_rfl) (by kernel_rfl) (by kernel_rfl) (tabOk_none _)
theorem n306 : Enters PR 306 := enters_of (fn := Go.Proofs.Tryz.f306) (by kernel_rfl) (by kernel_rfl) (by kernel_rfl)
noncomputable def g306 : List AV → Option (Bool × AV) := (inlineC PR e306 5 2000 306)
theorem g306_ok : CallOk PR 306 g306 := (.inl ⟨n306, inlineC_ok cx306 rfl rfl⟩)

/-! (reliquary/share.field).inv -/
noncomputable def e307 : Env := envD eqsT [(121, g121)] [] [] [] [9] false []
theorem e307_ok : EnvOk PR e307 := envD_ok eqsT_ok (TabPOk.cons g121_ok TabPOk.nil) TabHOk.nil TabLOk.nil TabDOk.nil
theorem cx307 : Ctx PR e307 [] (fun _ => none) 2000 307 := ctx_of e307_ok mixed (fn := Go.Proofs.Tryz.f307) (by kernel_rfl) (by kernel_rfl) (by kernel_rfl) (tabOk_none _)
theorem n307 : Enters PR 307 := enters_of (fn := Go.Proofs.Tryz.f307) (by kernel_rfl) (by kernel_rfl) (by kernel_rfl)
noncomputable def g307 : List AV → Option (Bool × AV) := (inlineC PR e307 4 2000 307)
theorem g307_ok : CallOk PR 307 g307 := (.inl ⟨n307, inlineC_ok cx307 rfl rfl⟩)

/-! (reliquary/share.field).lagrange -/
noncomputable def e262 : Env := envD eqsT [(16, (fn1 kU c6.agg ofW)), (208, g208), (264, g264), (306, g306), (307, g307)] [] [] [] [9] false []
theorem e262_ok : EnvOk PR e262 := envD_ok eqsT_ok (TabPOk.cons of_ok (TabPOk.cons g208_ok (TabPOk.cons g264_ok (TabPOk.cons g306_ok (TabPOk.cons g307_ok TabPOk.nil))))) TabHOk.nil TabLOk.nil TabDOk.nil
theorem cx262 : Ctx PR e262 [] (fun _ => none) 2000 262 := ctx_of e262_ok mixed (fn := Go.Proofs.Tryz.f262) (by kernel_rfl) (by kernel_rfl) (by kernel_rfl) (tabOk_none _)
theorem n262 : Enters PR 262 := enters_of (fn := Go.Proofs.Tryz.f262) (by kernel_rfl) (by kernel_rfl) (by kernel_rfl)
noncomputable def g262 : List AV → AH → Nat → Option (Bool × AV × AH) := deepC PR e262 6 2000 262 4096 true
theorem g262_ok : ActOk PR 4096 262 g262 := deepC_ok cx262 rfl rfl

/-! (reliquary/share.field).add -/
noncomputable def e263 : Env := envD eqsT [(191, g191)] [] [] [] [9] false []
theorem e263_ok : EnvOk PR e263 := envD_ok eqsT_ok (TabPOk.cons g191_ok TabPOk.nil) TabHOk.nil TabLOk.nil TabDOk.nil
theorem cx263 : Ctx PR e263 [] (fun _ => none) 2000 263 := ctx_of e263_ok mixed (fn := Go.Proofs.Tryz.f263) (by kernel_rfl) (by kernel_rfl) (by kernel_rfl) (tabOk_none _)
theorem n263 : Enters PR 263 := enters_of (fn := Go.Proofs.Tryz.f263) (by kernel_rfl) (by kernel_rfl) (by kernel_rfl)
noncomputable def g263 : List AV → Option (Bool × AV) := (inlineC PR e263 5 2000 263)
theorem g263_ok : CallOk PR 263 g263 := (.inl ⟨n263, inlineC_ok cx263 rfl rfl⟩)

/-! (reliquary/share.field).join -/
noncomputable def e204 : Env := envD eqsT [(263, g263), (264, g264)] [] [] [(262, g262)] [9] false [262]
theorem e204_ok : EnvOk PR e204 := envD_ok eqsT_ok (TabPOk.cons g263_ok (TabPOk.cons g264_ok TabPOk.nil)) TabHOk.nil TabLOk.nil (TabDOk.cons n262 g262_ok TabDOk.nil)
theorem cx204 : Ctx PR e204 [] (fun _ => none) 2000 204 := ctx_of e204_ok mixed (fn := Go.Proofs.Tryz.f204) (by kernel_rfl) (by kernel_rfl) (by kernel_rfl) (tabOk_none _)
theorem n204 : Enters PR 204 := enters_of (fn := Go.Proofs.Tryz.f204) (by kernel_rfl) (by kernel_rfl) (by kernel_rfl)
noncomputable def g204 : List AV → AH → Nat → Option (Bool × AV × AH) := deepC PR e204 6 2000 204 4096 true
theorem g204_ok : ActOk PR 4096 204 g204 := deepC_ok cx204 rfl rfl

/-! reliquary/share.Join -/
noncomputable def e126 : Env := envD eqsT [] [] [] [(203, g203), (204, g204)] [9] false [203, 204]
theorem e126_ok : EnvOk PR e126 := envD_ok eqsT_ok TabPOk.nil TabHOk.nil TabLOk.nil (TabDOk.cons n203 g203_ok (TabDOk.cons n204 g204_ok TabDOk.nil))
theorem cx126 : Ctx PR e126 [] (fun _ => none) 2000 126 := ctx_of e126_ok mixed (fn := Go.Proofs.Tryz.f126) (by kernel_rfl) (by kernel_rfl) (by kernel_rfl) (tabOk_none _)
theorem n126 : Enters PR 126 := enters_of (fn := Go.Proofs.Tryz.f126) (by kernel_rfl) (by kernel_rfl) (by kernel_rfl)
noncomputable def g126 : List AV → AH → Nat → Option (Bool × AV × AH) := deepC PR e126 5 2000 126 4096 true
theorem g126_ok : ActOk PR 4096 126 g126 := deepC_ok cx126 rfl rfl

/-! reliquary/schnorr.fits -/
noncomputable def e127 : Env := envD eqsT [(23, g23), (25, g25), (99, g99)] [] [] [] [9] false []
theorem e127_ok : EnvOk PR e127 := envD_ok eqsT_ok (TabPOk.cons g23_ok (TabPOk.cons g25_ok (TabPOk.cons g99_ok TabPOk.nil))) TabHOk.nil TabLOk.nil TabDOk.nil
theorem cx127 : Ctx PR e127 [] (fun _ => none) 2000 127 := ctx_of e127_ok mixed (fn := Go.Proofs.Tryz.f127) (by kernel_rfl) (by kernel_rfl) (by kernel_rfl) (tabOk_none _)
theorem n127 : Enters PR 127 := enters_of (fn := Go.Proofs.Tryz.f127) (by kernel_rfl) (by kernel_rfl) (by kernel_rfl)
noncomputable def g127 : List AV → Option (Bool × AV) := (inlineC PR e127 6 2000 127)
theorem g127_ok : CallOk PR 127 g127 := (.inl ⟨n127, inlineC_ok cx127 rfl rfl⟩)

/-! (*reliquary/schnorr.Session).Sig -/
noncomputable def e37 : Env := envD eqsT [(125, g125), (127, g127)] [] [] [(124, g124), (126, g126)] [9] false [124, 126]
theorem e37_ok : EnvOk PR e37 := envD_ok eqsT_ok (TabPOk.cons g125_ok (TabPOk.cons g127_ok TabPOk.nil)) TabHOk.nil TabLOk.nil (TabDOk.cons n124 g124_ok (TabDOk.cons n126 g126_ok TabDOk.nil))
theorem cx37 : Ctx PR e37 [] (fun _ => none) 2000 37 := ctx_of e37_ok mixed (fn := Go.Proofs.Tryz.f37) (by kernel_rfl) (by kernel_rfl) (by kernel_rfl) (tabOk_none _)
theorem n37 : Enters PR 37 := enters_of (fn := Go.Proofs.Tryz.f37) (by kernel_rfl) (by kernel_rfl) (by kernel_rfl)
noncomputable def g37 : List AV → AH → Nat → Option (Bool × AV × AH) := deepC PR e37 7 2000 37 4096 true
theorem g37_ok : ActOk PR 4096 37 g37 := deepC_ok cx37 rfl rfl

/-! reliquary/schnorr.checked -/
noncomputable def e128 : Env := envD eqsT [(34, g34), (98, (fn2 c6.agg c6.agg (kInt .i64) fun a b => chainV (cmpL a b) 0)), (101, g101)] [] [] [] [9] false []
theorem e128_ok : EnvOk PR e128 := envD_ok eqsT_ok (TabPOk.cons g34_ok (TabPOk.cons cmp_ok (TabPOk.cons g101_ok TabPOk.nil))) TabHOk.nil TabLOk.nil TabDOk.nil
theorem cx128 : Ctx PR e128 [] (fun _ => none) 2000 128 := ctx_of e128_ok mixed (fn := Go.Proofs.Tryz.f128) (by kernel_rfl) (by kernel_rfl) (by kernel_rfl) (tabOk_none _)
theorem n128 : Enters PR 128 := enters_of (fn := Go.Proofs.Tryz.f128) (by kernel_rfl) (by kernel_rfl) (by kernel_rfl)
noncomputable def g128 : List AV → AH → Nat → Option (Bool × AV × AH) := deepC PR e128 6 2000 128 4096 true
theorem g128_ok : ActOk PR 4096 128 g128 := deepC_ok cx128 rfl rfl

/-! (*reliquary/schnorr.Session).Add -/
noncomputable def e38 : Env := envD eqsT [(127, g127)] [] [] [(124, g124), (128, g128)] [9] false [124, 128]
theorem e38_ok : EnvOk PR e38 := envD_ok eqsT_ok (TabPOk.cons g127_ok TabPOk.nil) TabHOk.nil TabLOk.nil (TabDOk.cons n124 g124_ok (TabDOk.cons n128 g128_ok TabDOk.nil))
theorem cx38 : Ctx PR e38 [] (fun _ => none) 2000 38 := ctx_of e38_ok mixed (fn := Go.Proofs.Tryz.f38) (by kernel_rfl) (by kernel_rfl) (by kernel_rfl) (tabOk_none _)
theorem n38 : Enters PR 38 := enters_of (fn := Go.Proofs.Tryz.f38) (by kernel_rfl) (by kernel_rfl) (by kernel_rfl)
noncomputable def g38 : List AV → AH → Nat → Option (Bool × AV × AH) := deepC PR e38 7 2000 38 4096 false
theorem g38_ok : ActOk PR 4096 38 g38 := deepC_ok cx38 rfl rfl

/-! (*reliquary/schnorr.Session).Parts -/
noncomputable def e39 : Env := envD eqsT [] [] [] [(124, g124)] [9] false [124]
theorem e39_ok : EnvOk PR e39 := envD_ok eqsT_ok TabPOk.nil TabHOk.nil TabLOk.nil (TabDOk.cons n124 g124_ok TabDOk.nil)
theorem cx39 : Ctx PR e39 [] (fun _ => none) 2000 39 := ctx_of e39_ok mixed (fn := Go.Proofs.Tryz.f39) (by kernel_rfl) (by kernel_rfl) (by kernel_rfl) (tabOk_none _)
theorem n39 : Enters PR 39 := enters_of (fn := Go.Proofs.Tryz.f39) (by kernel_rfl) (by kernel_rfl) (by kernel_rfl)
noncomputable def g39 : List AV → AH → Nat → Option (Bool × AV × AH) := deepC PR e39 4 2000 39 4096 true
theorem g39_ok : ActOk PR 4096 39 g39 := deepC_ok cx39 rfl rfl

/-! (*reliquary/schnorr.Session).Challenge -/
noncomputable def e40 : Env := envD eqsT [] [] [] [(124, g124)] [9] false [124]
theorem e40_ok : EnvOk PR e40 := envD_ok eqsT_ok TabPOk.nil TabHOk.nil TabLOk.nil (TabDOk.cons n124 g124_ok TabDOk.nil)
theorem cx40 : Ctx PR e40 [] (fun _ => none) 2000 40 := ctx_of e40_ok mixed (fn := Go.Proofs.Tryz.f40) (by kernel_rfl) (by kernel_rfl) (by kernel_rfl) (tabOk_none _)
theorem n40 : Enters PR 40 := enters_of (fn := Go.Proofs.Tryz.f40) (by kernel_rfl) (by kernel_rfl) (by kernel_rfl)
noncomputable def g40 : List AV → AH → Nat → Option (Bool × AV × AH) := deepC PR e40 4 2000 40 4096 true
theorem g40_ok : ActOk PR 4096 40 g40 := deepC_ok cx40 rfl rfl

/-! reliquary/schnorr.part -/
noncomputable def e136 : Env := envD eqsT [(122, g122), (191, g191)] [] [] [] [9] false []
theorem e136_ok : EnvOk PR e136 := envD_ok eqsT_ok (TabPOk.cons g122_ok (TabPOk.cons g191_ok TabPOk.nil)) TabHOk.nil TabLOk.nil TabDOk.nil
theorem cx136 : Ctx PR e136 [] (fun _ => none) 2000 136 := ctx_of e136_ok mixed (fn := Go.Proofs.Tryz.f136) (by kernel_rfl) (by kernel_rfl) (by kernel_rfl) (tabOk_none _)
theorem n136 : Enters PR 136 := enters_of (fn := Go.Proofs.Tryz.f136) (by kernel_rfl) (by kernel_rfl) (by kernel_rfl)
noncomputable def g136 : List AV → Option (Bool × AV) := (inlineC PR e136 5 2000 136)
theorem g136_ok : CallOk PR 136 g136 := (.inl ⟨n136, inlineC_ok cx136 rfl rfl⟩)

/-! reliquary/schnorr.Part -/
noncomputable def e45 : Env := envD eqsT [(136, g136)] [] [] [(128, g128)] [9] false [128]
theorem e45_ok : EnvOk PR e45 := envD_ok eqsT_ok (TabPOk.cons g136_ok TabPOk.nil) TabHOk.nil TabLOk.nil (TabDOk.cons n128 g128_ok TabDOk.nil)
theorem cx45 : Ctx PR e45 [] (fun _ => none) 2000 45 := ctx_of e45_ok mixed (fn := Go.Proofs.Tryz.f45) (by kernel_rfl) (by kernel_rfl) (by kernel_rfl) (tabOk_none _)
theorem n45 : Enters PR 45 := enters_of (fn := Go.Proofs.Tryz.f45) (by kernel_rfl) (by kernel_rfl) (by kernel_rfl)
noncomputable def g45 : List AV → Option (Bool × AV) := (inlineC PR e45 5 2000 45)
theorem g45_ok : CallOk PR 45 g45 := (.inl ⟨n45, inlineC_ok cx45 rfl rfl⟩)

/-! reliquary/schnorr.challenge -/
noncomputable def e135 : Env := envD eqsT [] [] [] [(189, g189), (190, g190)] [9] false [189, 190]
theorem e135_ok : EnvOk PR e135 := envD_ok eqsT_ok TabPOk.nil TabHOk.nil TabLOk.nil (TabDOk.cons n189 g189_ok (TabDOk.cons n190 g190_ok TabDOk.nil))
theorem cx135 : Ctx PR e135 [] (fun _ => none) 2000 135 := ctx_of e135_ok mixed (fn := Go.Proofs.Tryz.f135) (by kernel_rfl) (by kernel_rfl) (by kernel_rfl) (tabOk_none _)
theorem n135 : Enters PR 135 := enters_of (fn := Go.Proofs.Tryz.f135) (by kernel_rfl) (by kernel_rfl) (by kernel_rfl)
noncomputable def g135 : List AV → AH → Nat → Option (Bool × AV × AH) := deepC PR e135 6 2000 135 4096 true
theorem g135_ok : ActOk PR 4096 135 g135 := deepC_ok cx135 rfl rfl

/-! reliquary/schnorr.Sign -/
noncomputable def e46 : Env := envD eqsT [(23, g23), (25, g25), (136, g136)] [] [] [(128, g128), (135, g135)] [9] false [128, 135]
theorem e46_ok : EnvOk PR e46 := envD_ok eqsT_ok (TabPOk.cons g23_ok (TabPOk.cons g25_ok (TabPOk.cons g136_ok TabPOk.nil))) TabHOk.nil TabLOk.nil (TabDOk.cons n128 g128_ok (TabDOk.cons n135 g135_ok TabDOk.nil))
theorem cx46 : Ctx PR e46 [] (fun _ => none) 2000 46 := ctx_of e46_ok mixed (fn := Go.Proofs.Tryz.f46) (by kernel_rfl) (by kernel_rfl) (by kernel_rfl) (tabOk_none _)
theorem n46 : Enters PR 46 := enters_of (fn := Go.Proofs.Tryz.f46) (by kernel_rfl) (by kernel_rfl) (by kernel_rfl)
noncomputable def g46 : List AV → AH → Nat → Option (Bool × AV × AH) := deepC PR e46 6 2000 46 4096 true
theorem g46_ok : ActOk PR 4096 46 g46 := deepC_ok cx46 rfl rfl

/-! reliquary/schnorr.ofKeys -/
noncomputable def e131 : Env := envD eqsT [(101, g101)] [] [] [(128, g128)] [9] false [128]
theorem e131_ok : EnvOk PR e131 := envD_ok eqsT_ok (TabPOk.cons g101_ok TabPOk.nil) TabHOk.nil TabLOk.nil (TabDOk.cons n128 g128_ok TabDOk.nil)
theorem cx131 : Ctx PR e131 [] (fun _ => none) 2000 131 := ctx_of e131_ok mixed (fn := Go.Proofs.Tryz.f131) (by kernel_rfl) (by kernel_rfl) (by kernel_rfl) (tabOk_none _)
theorem n131 : Enters PR 131 := enters_of (fn := Go.Proofs.Tryz.f131) (by kernel_rfl) (by kernel_rfl) (by kernel_rfl)
noncomputable def g131 : List AV → AH → Nat → Option (Bool × AV × AH) := deepC PR e131 5 2000 131 4096 true
theorem g131_ok : ActOk PR 4096 131 g131 := deepC_ok cx131 rfl rfl

/-! reliquary/schnorr.Verify -/
noncomputable def e47 : Env := envD eqsT [(127, g127)] [] [] [(131, g131), (135, g135)] [9] false [131, 135]
theorem e47_ok : EnvOk PR e47 := envD_ok eqsT_ok (TabPOk.cons g127_ok TabPOk.nil) TabHOk.nil TabLOk.nil (TabDOk.cons n131 g131_ok (TabDOk.cons n135 g135_ok TabDOk.nil))
theorem cx47 : Ctx PR e47 [] (fun _ => none) 2000 47 := ctx_of e47_ok mixed (fn := Go.Proofs.Tryz.f47) (by kernel_rfl) (by kernel_rfl) (by kernel_rfl) (tabOk_none _)
theorem n47 : Enters PR 47 := enters_of (fn := Go.Proofs.Tryz.f47) (by kernel_rfl) (by kernel_rfl) (by kernel_rfl)
noncomputable def g47 : List AV → AH → Nat → Option (Bool × AV × AH) := deepC PR e47 5 2000 47 4096 true
theorem g47_ok : ActOk PR 4096 47 g47 := deepC_ok cx47 rfl rfl

/-! reliquary/reliquarylaw24.awake -/
noncomputable def e41 : Env := envD eqsT [(16, (fn1 kU c6.agg ofW)), (23, g23), (25, g25), (45, g45)] [] [(42, tx24)] [(46, g46), (47, g47)] [9] false [46, 47]
theorem e41_ok : EnvOk PR e41 := envD_ok eqsT_ok (TabPOk.cons of_ok (TabPOk.cons g23_ok (TabPOk.cons g25_ok (TabPOk.cons g45_ok TabPOk.nil)))) TabHOk.nil (TabLOk.cons tx24_ent tx24_ok TabLOk.nil) (TabDOk.cons n46 g46_ok (TabDOk.cons n47 g47_ok TabDOk.nil))
theorem cx41 : Ctx PR e41 [] (fun _ => none) 2000 41 := ctx_of e41_ok mixed (fn := Go.Proofs.Tryz.f41) (by kernel_rfl) (by kernel_rfl) (by kernel_rfl) (tabOk_none _)
theorem n41 : Enters PR 41 := enters_of (fn := Go.Proofs.Tryz.f41) (by kernel_rfl) (by kernel_rfl) (by kernel_rfl)
noncomputable def g41 : List AV → Option (Bool × AV) := (inlineC PR e41 6 2000 41)
theorem g41_ok : CallOk PR 41 g41 := (.inl ⟨n41, inlineC_ok cx41 rfl rfl⟩)

/-! reliquary/reliquarylaw24.SchnorrNone -/
noncomputable def e5 : Env := envD eqsT [(41, g41)] [] [] [(37, g37), (38, g38), (39, g39), (40, g40)] [9] false [37, 39, 40]
theorem e5_ok : EnvOk PR e5 := envD_ok eqsT_ok (TabPOk.cons g41_ok TabPOk.nil) TabHOk.nil TabLOk.nil (TabDOk.cons n37 g37_ok (TabDOk.cons n38 g38_ok (TabDOk.cons n39 g39_ok (TabDOk.cons n40 g40_ok TabDOk.nil))))
theorem cx5 : Ctx PR e5 [] (fun _ => none) 2000 5 := ctx_of e5_ok mixed (fn := Go.Proofs.Tryz.f5) (by kernel_rfl) (by kernel_rfl) (by kernel_rfl) (tabOk_none _)
theorem n5 : Enters PR 5 := enters_of (fn := Go.Proofs.Tryz.f5) (by kernel_rfl) (by kernel_rfl) (by kernel_rfl)
noncomputable def g5 : List AV → Option (Bool × AV) := (inlineC PR e5 6 2000 5)
theorem g5_ok : CallOk PR 5 g5 := (.inl ⟨n5, inlineC_ok cx5 rfl rfl⟩)

/-! (*reliquary/elgamal.Session).none -/
noncomputable def e137 : Env := envD eqsT [] [] [] [] [9] false []
theorem e137_ok : EnvOk PR e137 := envD_ok eqsT_ok TabPOk.nil TabHOk.nil TabLOk.nil TabDOk.nil
theorem cx137 : Ctx PR e137 [] (fun _ => none) 2000 137 := ctx_of e137_ok mixed (fn := Go.Proofs.Tryz.f137) (by kernel_rfl) (by kernel_rfl) (by kernel_rfl) (tabOk_none _)
theorem n137 : Enters PR 137 := enters_of (fn := Go.Proofs.Tryz.f137) (by kernel_rfl) (by kernel_rfl) (by kernel_rfl)
noncomputable def g137 : List AV → AH → Nat → Option (Bool × AV × AH) := deepC PR e137 4 2000 137 4096 true
theorem g137_ok : ActOk PR 4096 137 g137 := deepC_ok cx137 rfl rfl

/-! reliquary/share.JoinKeys$1 -/
noncomputable def e211 : Env := envD eqsT [] [] [] [] [9] false []
theorem e211_ok : EnvOk PR e211 := envD_ok eqsT_ok TabPOk.nil TabHOk.nil TabLOk.nil TabDOk.nil
theorem cx211 : Ctx PR e211 [] (fun _ => none) 2000 211 := ctx_of e211_ok mixed (fn := Go.Proofs.Tryz.f211) (by kernel_rfl) (by kernel_rfl) (by kernel_rfl) (tabOk_none _)
theorem n211 : Enters PR 211 := enters_of (fn := Go.Proofs.Tryz.f211) (by kernel_rfl) (by kernel_rfl) (by kernel_rfl)
noncomputable def g211 : List AV → Option (Bool × AV) := (inlineC PR e211 3 2000 211)
theorem g211_ok : CallOk PR 211 g211 := (.inl ⟨n211, inlineC_ok cx211 rfl rfl⟩)

/-! reliquary/share.joined[reliquary/api.Key]$1 -/
noncomputable def e268 : Env := envD eqsT [(211, g211)] [] [] [] [9] false []
theorem e268_ok : EnvOk PR e268 := envD_ok eqsT_ok (TabPOk.cons g211_ok TabPOk.nil) TabHOk.nil TabLOk.nil TabDOk.nil
theorem cx268 : Ctx PR e268 [] (fun _ => none) 2000 268 := ctx_of e268_ok mixed (fn := Go.Proofs.Tryz.f268) (by kernel_rfl) (by kernel_rfl) (by kernel_rfl) (tabOk_none _)
theorem n268 : Enters PR 268 := enters_of (fn := Go.Proofs.Tryz.f268) (by kernel_rfl) (by kernel_rfl) (by kernel_rfl)
noncomputable def g268 : List AV → AH → Nat → Option (Bool × AV × AH) := deepC PR e268 4 2000 268 4096 true
theorem g268_ok : ActOk PR 4096 268 g268 := deepC_ok cx268 rfl rfl

/-! slices.IndexFunc[[]reliquary/api.Key,reliquary/api.Key] -/
noncomputable def e309 : Env := envD eqsT [] [] [] [(268, g268)] [9] false [268]
theorem e309_ok : EnvOk PR e309 := envD_ok eqsT_ok TabPOk.nil TabHOk.nil TabLOk.nil (TabDOk.cons n268 g268_ok TabDOk.nil)
theorem cx309 : Ctx PR e309 [] (fun _ => none) 2000 309 := ctx_of e309_ok mixed (fn := Go.Proofs.Tryz.f309) (by kernel_rfl) (by kernel_rfl) (by kernel_rfl) (tabOk_none _)
theorem n309 : Enters PR 309 := enters_of (fn := Go.Proofs.Tryz.f309) (by kernel_rfl) (by kernel_rfl) (by kernel_rfl)
noncomputable def g309 : List AV → AH → Nat → Option (Bool × AV × AH) := deepC PR e309 5 2000 309 4096 true
theorem g309_ok : ActOk PR 4096 309 g309 := deepC_ok cx309 rfl rfl

/-! slices.ContainsFunc[[]reliquary/api.Key,reliquary/api.Key] -/
noncomputable def e267 : Env := envD eqsT [] [] [] [(309, g309)] [9] false [309]
theorem e267_ok : EnvOk PR e267 := envD_ok eqsT_ok TabPOk.nil TabHOk.nil TabLOk.nil (TabDOk.cons n309 g309_ok TabDOk.nil)
theorem cx267 : Ctx PR e267 [] (fun _ => none) 2000 267 := ctx_of e267_ok mixed (fn := Go.Proofs.Tryz.f267) (by kernel_rfl) (by kernel_rfl) (by kernel_rfl) (tabOk_none _)
theorem n267 : Enters PR 267 := enters_of (fn := Go.Proofs.Tryz.f267) (by kernel_rfl) (by kernel_rfl) (by kernel_rfl)
noncomputable def g267 : List AV → AH → Nat → Option (Bool × AV × AH) := deepC PR e267 4 2000 267 4096 true
theorem g267_ok : ActOk PR 4096 267 g267 := deepC_ok cx267 rfl rfl

/-! reliquary/share.joined[reliquary/api.Key] -/
noncomputable def e210 : Env := envD eqsT [(25, g25), (99, g99), (101, g101), (211, g211)] [] [] [(261, g261), (262, g262), (267, g267)] [9] false [261, 262, 267]
theorem e210_ok : EnvOk PR e210 := envD_ok eqsT_ok (TabPOk.cons g25_ok (TabPOk.cons g99_ok (TabPOk.cons g101_ok (TabPOk.cons g211_ok TabPOk.nil)))) TabHOk.nil TabLOk.nil (TabDOk.cons n261 g261_ok (TabDOk.cons n262 g262_ok (TabDOk.cons n267 g267_ok TabDOk.nil)))
theorem cx210 : Ctx PR e210 [] (fun _ => none) 2000 210 := ctx_of e210_ok mixed (fn := Go.Proofs.Tryz.f210) (by kernel_rfl) (by kernel_rfl) (by kernel_rfl) (tabOk_none _)
theorem n210 : Enters PR 210 := enters_of (fn := Go.Proofs.Tryz.f210) (by kernel_rfl) (by kernel_rfl) (by kernel_rfl)
noncomputable def g210 : List AV → AH → Nat → Option (Bool × AV × AH) := deepC PR e210 7 2000 210 4096 true
theorem g210_ok : ActOk PR 4096 210 g210 := deepC_ok cx210 rfl rfl

/-! reliquary/share.JoinKeys -/
noncomputable def e138 : Env := envD eqsT [] [] [] [(210, g210)] [9] false [210]
theorem e138_ok : EnvOk PR e138 := envD_ok eqsT_ok TabPOk.nil TabHOk.nil TabLOk.nil (TabDOk.cons n210 g210_ok TabDOk.nil)
theorem cx138 : Ctx PR e138 [] (fun _ => none) 2000 138 := ctx_of e138_ok mixed (fn := Go.Proofs.Tryz.f138) (by kernel_rfl) (by kernel_rfl) (by kernel_rfl) (tabOk_none _)
theorem n138 : Enters PR 138 := enters_of (fn := Go.Proofs.Tryz.f138) (by kernel_rfl) (by kernel_rfl) (by kernel_rfl)
noncomputable def g138 : List AV → AH → Nat → Option (Bool × AV × AH) := deepC PR e138 4 2000 138 4096 true
theorem g138_ok : ActOk PR 4096 138 g138 := deepC_ok cx138 rfl rfl

/-! (*reliquary/elgamal.Session).Point -/
noncomputable def e49 : Env := envD eqsT [(125, g125)] [] [] [(137, g137), (138, g138)] [9] false [137, 138]
theorem e49_ok : EnvOk PR e49 := envD_ok eqsT_ok (TabPOk.cons g125_ok TabPOk.nil) TabHOk.nil TabLOk.nil (TabDOk.cons n137 g137_ok (TabDOk.cons n138 g138_ok TabDOk.nil))
theorem cx49 : Ctx PR e49 [] (fun _ => none) 2000 49 := ctx_of e49_ok mixed (fn := Go.Proofs.Tryz.f49) (by kernel_rfl) (by kernel_rfl) (by kernel_rfl) (tabOk_none _)
theorem n49 : Enters PR 49 := enters_of (fn := Go.Proofs.Tryz.f49) (by kernel_rfl) (by kernel_rfl) (by kernel_rfl)
noncomputable def g49 : List AV → AH → Nat → Option (Bool × AV × AH) := deepC PR e49 6 2000 49 4096 true
theorem g49_ok : ActOk PR 4096 49 g49 := deepC_ok cx49 rfl rfl

/-! reliquary/elgamal.checked -/
noncomputable def e139 : Env := envD eqsT [(34, g34), (98, (fn2 c6.agg c6.agg (kInt .i64) fun a b => chainV (cmpL a b) 0)), (101, g101)] [] [] [] [9] false []
theorem e139_ok : EnvOk PR e139 := envD_ok eqsT_ok (TabPOk.cons g34_ok (TabPOk.cons cmp_ok (TabPOk.cons g101_ok TabPOk.nil))) TabHOk.nil TabLOk.nil TabDOk.nil
theorem cx139 : Ctx PR e139 [] (fun _ => none) 2000 139 := ctx_of e139_ok mixed (fn := Go.Proofs.Tryz.f139) (by kernel_rfl) (by kernel_rfl) (by kernel_rfl) (tabOk_none _)
theorem n139 : Enters PR 139 := enters_of (fn := Go.Proofs.Tryz.f139) (by kernel_rfl) (by kernel_rfl) (by kernel_rfl)
noncomputable def g139 : List AV → AH → Nat → Option (Bool × AV × AH) := deepC PR e139 6 2000 139 4096 true
theorem g139_ok : ActOk PR 4096 139 g139 := deepC_ok cx139 rfl rfl

/-! reliquary/digest.begin -/
noncomputable def e291 : Env := envD eqsT [] [] [] [] [9] false []
theorem e291_ok : EnvOk PR e291 := envD_ok eqsT_ok TabPOk.nil TabHOk.nil TabLOk.nil TabDOk.nil
theorem cx291 : Ctx PR e291 [] (fun _ => none) 2000 291 := ctx_of e291_ok mixed (fn := Go.Proofs.Tryz.f291) (by kernel_rfl) (by kernel_rfl) (by kernel_rfl) (tabOk_none _)
theorem n291 : Enters PR 291 := enters_of (fn := Go.Proofs.Tryz.f291) (by kernel_rfl) (by kernel_rfl) (by kernel_rfl)
noncomputable def g291 : List AV → Option (Bool × AV) := (inlineC PR e291 1 2000 291)
theorem g291_ok : CallOk PR 291 g291 := (.inl ⟨n291, inlineC_ok cx291 rfl rfl⟩)

/-! reliquary/digest.New -/
noncomputable def e237 : Env := envD eqsT [(291, g291)] [] [] [] [9] false []
theorem e237_ok : EnvOk PR e237 := envD_ok eqsT_ok (TabPOk.cons g291_ok TabPOk.nil) TabHOk.nil TabLOk.nil TabDOk.nil
theorem cx237 : Ctx PR e237 [] (fun _ => none) 2000 237 := ctx_of e237_ok mixed (fn := Go.Proofs.Tryz.f237) (by kernel_rfl) (by kernel_rfl) (by kernel_rfl) (tabOk_none _)
theorem n237 : Enters PR 237 := enters_of (fn := Go.Proofs.Tryz.f237) (by kernel_rfl) (by kernel_rfl) (by kernel_rfl)
noncomputable def g237 : List AV → AH → Nat → Option (Bool × AV × AH) := deepC PR e237 2 2000 237 4096 true
theorem g237_ok : ActOk PR 4096 237 g237 := deepC_ok cx237 rfl rfl

/-! (*reliquary/digest.Hash).none -/
noncomputable def e292 : Env := envD eqsT [] [] [] [] [9] false []
theorem e292_ok : EnvOk PR e292 := envD_ok eqsT_ok TabPOk.nil TabHOk.nil TabLOk.nil TabDOk.nil
theorem cx292 : Ctx PR e292 [] (fun _ => none) 2000 292 := ctx_of e292_ok mixed (fn := Go.Proofs.Tryz.f292) (by kernel_rfl) (by kernel_rfl) (by kernel_rfl) (tabOk_none _)
theorem n292 : Enters PR 292 := enters_of (fn := Go.Proofs.Tryz.f292) (by kernel_rfl) (by kernel_rfl) (by kernel_rfl)
noncomputable def g292 : List AV → AH → Nat → Option (Bool × AV × AH) := deepC PR e292 4 2000 292 4096 true
theorem g292_ok : ActOk PR 4096 292 g292 := deepC_ok cx292 rfl rfl

/-! math/bits.RotateLeft32 -/
noncomputable def e331 : Env := envD eqsT [] [] [] [] [9] false []
theorem e331_ok : EnvOk PR e331 := envD_ok eqsT_ok TabPOk.nil TabHOk.nil TabLOk.nil TabDOk.nil
theorem cx331 : Ctx PR e331 [] (fun _ => none) 2000 331 := ctx_of e331_ok mixed (fn := Go.Proofs.Tryz.f331) (by kernel_rfl) (by kernel_rfl) (by kernel_rfl) (tabOk_none _)
theorem n331 : Enters PR 331 := enters_of (fn := Go.Proofs.Tryz.f331) (by kernel_rfl) (by kernel_rfl) (by kernel_rfl)
noncomputable def g331 : List AV → Option (Bool × AV) := (inlineC PR e331 5 2000 331)
theorem g331_ok : CallOk PR 331 g331 := (.inl ⟨n331, inlineC_ok cx331 rfl rfl⟩)

/-! reliquary/digest.right -/
noncomputable def e321 : Env := envD eqsT [(331, g331)] [] [] [] [9] false []
theorem e321_ok : EnvOk PR e321 := envD_ok eqsT_ok (TabPOk.cons g331_ok TabPOk.nil) TabHOk.nil TabLOk.nil TabDOk.nil
theorem cx321 : Ctx PR e321 [] (fun _ => none) 2000 321 := ctx_of e321_ok mixed (fn := Go.Proofs.Tryz.f321) (by kernel_rfl) (by kernel_rfl) (by kernel_rfl) (tabOk_none _)
theorem n321 : Enters PR 321 := enters_of (fn := Go.Proofs.Tryz.f321) (by kernel_rfl) (by kernel_rfl) (by kernel_rfl)
noncomputable def g321 : List AV → Option (Bool × AV) := (inlineC PR e321 4 2000 321)
theorem g321_ok : CallOk PR 321 g321 := (.inl ⟨n321, inlineC_ok cx321 rfl rfl⟩)
end Go.Rq

/- The law SchnorrNone, run through at once, whatever it is handed. -/
namespace Go.Rq
open Go Go.Proofs
theorem law_ok : ActOk PR 4096 5 (deepC PR e5 6 2000 5 4096 true) := deepC_ok cx5 rfl rfl
set_option maxRecDepth 1000000 in
theorem law_run : isYes (deepC PR e5 6 2000 5 4096 true [.any, .agg (List.replicate 6 .any)] [] 0) = true := by kernel_rfl
end Go.Rq

/- What is told of the numbers of SHA-256's rounds. -/
namespace Go.Rq
open Go Go.Proofs

/-- A row of numbers of one kind, as it is told. -/
theorem row_told {P : Program} {w : World} {base : Nat} {sp : Nat → Bool} {held : Bool} {fuel : Nat} {t e : TypeId} {cs : List Value} {p : List MemPlace} {vals : List Int} (ht : P.underlying t = some (.array vals.length e)) (he : P.underlying e = some (.int .u32)) (h1 : P.cellsOf e = 1) (ht1 : P.cellsOf t = vals.length)
    (h : DataW.trod (fun _ => ()) P w base sp held fuel t cs = some (.agg (vals.map fun n => .lit (.int .u32 n)), p)) : cs = vals.map fun n => .int .u32 n := by
  obtain ⟨xs, m, -, hx, hl, hn, hel⟩ := DataW.trod_array ht h
  simp only [Prod.mk.injEq, DataW.agg.injEq] at hx
  obtain ⟨hx, -⟩ := hx
  rw [ht1] at hl
  apply List.ext_getElem?
  intro i
  by_cases hi : i < vals.length
  · have hi2 := hel i hi
    rw [h1, Nat.mul_one, List.getElem?_eq_getElem (by rw [hn]; exact hi)] at hi2
    obtain ⟨n, e1, e2, -⟩ := DataW.trod_int he hi2
    have e3 : (vals.map fun n => (DataW.lit (.int .u32 n) : DataW Unit))[i]? = some (xs[i]'(by rw [hn]; exact hi)).1 := by
      rw [hx, List.getElem?_map, List.getElem?_eq_getElem (by rw [hn]; exact hi)]
      rfl
    rw [e2, List.getElem?_map, List.getElem?_eq_getElem hi] at e3
    simp only [Option.map_some, Option.some.injEq, DataW.lit.injEq, Lit.int.injEq, true_and] at e3
    have e4 : cs[i]? = some (.int .u32 n) := by
      have := congrArg (fun l => l[0]?) e1
      simpa [List.getElem?_take, List.getElem?_drop] using this
    rw [e4, List.getElem?_map, List.getElem?_eq_getElem hi, ← e3]
    rfl
  · rw [List.getElem?_eq_none (by omega), List.getElem?_eq_none (by rw [List.length_map]; omega)]

theorem shaK_vals : shaK = shaKI.map fun n => .int .u32 n := by kernel_rfl
theorem k_type : (Tryz.prog.globals[0]?).map (·.type) = some 363 := by kernel_rfl
theorem k_laid : (YtcboekjnibppdaaGreatDoor.Rows.laid_reliquary_digest_k : DataW Unit) = .agg (shaKI.map fun n => .lit (.int .u32 n)) := by kernel_rfl
theorem gw_of_laid {W : World} {nm : String} (h : laidMetH Tryz.prog [(nm, YtcboekjnibppdaaGreatDoor.Rows.laid_reliquary_digest_k)] W) (k_glob : Tryz.prog.globalNamed nm = some 0) : GW W := by
  rw [MakeChecks.laidMetH_plain _ _ _ (by kernel_rfl)] at h
  obtain ⟨ps, ⟨g0, t0, cs0, f0, p0, q0, hg0, ht0, hv0, hd0, _, _⟩, _⟩ := h
  obtain rfl := Option.some.inj (k_glob.symm.trans hg0)
  obtain rfl := Option.some.inj (k_type.symm.trans ht0)
  rw [k_laid] at hd0
  have hcs := row_told (vals := shaKI) (e := 322) (by kernel_rfl) (by kernel_rfl) (by kernel_rfl) (by kernel_rfl) hd0
  intro g cs hg
  have hg : g = 0 ∧ cs = shaK := by
    unfold gTab at hg
    split at hg
    · exact ⟨rfl, by simpa using hg.symm⟩
    · cases hg
  obtain ⟨rfl, rfl⟩ := hg
  simp only [World.var?, k_glob, Option.bind_some] at hv0
  split at hv0
  · rename_i c ty fr hh
    simp only [Option.some.injEq] at hv0
    subst hv0
    exact ⟨_, ty, fr, hh, by rw [hcs, shaK_vals]⟩
  · cases hv0
end Go.Rq
