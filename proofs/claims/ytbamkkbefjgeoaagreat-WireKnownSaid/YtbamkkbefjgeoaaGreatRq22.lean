/- A closed law's functions, each gone through where it is called. Written by a program of ours. -/
import Derived.Test.YtbamkkbefjgeoaaGreatRq21
import Derived.Test.YtbamkkbefjgeoaaGreatRq17
namespace Go.Rq.Cl
open Go Go.Proofs Go.Rq Go.Rq.Sm

/-! (reliquary/wire.laid).put -/
noncomputable def e52 : Env := envD eqsT [] [] [] [] [9] false []
theorem e52_ok : EnvOk PR e52 := envD_ok eqsT_ok TabPOk.nil TabHOk.nil TabLOk.nil TabDOk.nil
theorem cx52 : Ctx PR e52 [] (fun _ => none) 2000 52 := ctx_of e52_ok mixed (fn := Go.Proofs.Tryz.f52) (by kernel_rfl) (by kernel_rfl) (by kernel_rfl) (tabOk_none _)
theorem n52 : Enters PR 52 := enters_of (fn := Go.Proofs.Tryz.f52) (by kernel_rfl) (by kernel_rfl) (by kernel_rfl)
noncomputable def g52 : List AV → AH → Nat → Option (Bool × AV × AH) := slimG 4096 (deepC PR e52 6 2000 52 4096 false)
theorem g52_ok : ActOk PR 4096 52 g52 := slimG_ok (deepC_ok cx52 rfl rfl)

/-! reliquary/wire.Int -/
noncomputable def e21 : Env := envD eqsT [] [] [] [(52, g52)] [9] false []
theorem e21_ok : EnvOk PR e21 := envD_ok eqsT_ok TabPOk.nil TabHOk.nil TabLOk.nil (TabDOk.cons n52 g52_ok TabDOk.nil)
theorem cx21 : Ctx PR e21 [] (fun _ => none) 2000 21 := ctx_of e21_ok mixed (fn := Go.Proofs.Tryz.f21) (by kernel_rfl) (by kernel_rfl) (by kernel_rfl) (tabOk_none _)
theorem n21 : Enters PR 21 := enters_of (fn := Go.Proofs.Tryz.f21) (by kernel_rfl) (by kernel_rfl) (by kernel_rfl)
noncomputable def g21 : List AV → AH → Nat → Option (Bool × AV × AH) := deepC PR e21 4 2000 21 4096 true
theorem g21_ok : ActOk PR 4096 21 g21 := deepC_ok cx21 rfl rfl

/-! (*reliquary/wire.reader).take -/
noncomputable def e99 : Env := envD eqsT [] [] [] [] [9] false []
theorem e99_ok : EnvOk PR e99 := envD_ok eqsT_ok TabPOk.nil TabHOk.nil TabLOk.nil TabDOk.nil
theorem cx99 : Ctx PR e99 [] (fun _ => none) 2000 99 := ctx_of e99_ok mixed (fn := Go.Proofs.Tryz.f99) (by kernel_rfl) (by kernel_rfl) (by kernel_rfl) (tabOk_none _)
theorem n99 : Enters PR 99 := enters_of (fn := Go.Proofs.Tryz.f99) (by kernel_rfl) (by kernel_rfl) (by kernel_rfl)
noncomputable def g99 : List AV → AH → Nat → Option (Bool × AV × AH) := slimG 4096 (deepC PR e99 6 2000 99 4096 false)
theorem g99_ok : ActOk PR 4096 99 g99 := slimG_ok (deepC_ok cx99 rfl rfl)

/-! (*reliquary/wire.reader).number -/
noncomputable def e53 : Env := envD eqsT [] [] [] [(99, g99)] [9] false []
theorem e53_ok : EnvOk PR e53 := envD_ok eqsT_ok TabPOk.nil TabHOk.nil TabLOk.nil (TabDOk.cons n99 g99_ok TabDOk.nil)
theorem cx53 : Ctx PR e53 [] (fun _ => none) 2000 53 := ctx_of e53_ok mixed (fn := Go.Proofs.Tryz.f53) (by kernel_rfl) (by kernel_rfl) (by kernel_rfl) (tabOk_none _)
theorem n53 : Enters PR 53 := enters_of (fn := Go.Proofs.Tryz.f53) (by kernel_rfl) (by kernel_rfl) (by kernel_rfl)
noncomputable def g53 : List AV → AH → Nat → Option (Bool × AV × AH) := slimG 4096 (deepC PR e53 5 2000 53 4096 false)
theorem g53_ok : ActOk PR 4096 53 g53 := slimG_ok (deepC_ok cx53 rfl rfl)

/-! (*reliquary/wire.reader).whole -/
noncomputable def e54 : Env := envD eqsT [] [] [] [] [9] false []
theorem e54_ok : EnvOk PR e54 := envD_ok eqsT_ok TabPOk.nil TabHOk.nil TabLOk.nil TabDOk.nil
theorem cx54 : Ctx PR e54 [] (fun _ => none) 2000 54 := ctx_of e54_ok mixed (fn := Go.Proofs.Tryz.f54) (by kernel_rfl) (by kernel_rfl) (by kernel_rfl) (tabOk_none _)
theorem n54 : Enters PR 54 := enters_of (fn := Go.Proofs.Tryz.f54) (by kernel_rfl) (by kernel_rfl) (by kernel_rfl)
noncomputable def g54 : List AV → AH → Nat → Option (Bool × AV × AH) := slimG 4096 (deepC PR e54 4 2000 54 4096 false)
theorem g54_ok : ActOk PR 4096 54 g54 := slimG_ok (deepC_ok cx54 rfl rfl)

/-! reliquary/wire.ReadInt -/
noncomputable def e22 : Env := envD eqsT [] [] [] [(53, g53), (54, g54)] [9] false []
theorem e22_ok : EnvOk PR e22 := envD_ok eqsT_ok TabPOk.nil TabHOk.nil TabLOk.nil (TabDOk.cons n53 g53_ok (TabDOk.cons n54 g54_ok TabDOk.nil))
theorem cx22 : Ctx PR e22 [] (fun _ => none) 2000 22 := ctx_of e22_ok mixed (fn := Go.Proofs.Tryz.f22) (by kernel_rfl) (by kernel_rfl) (by kernel_rfl) (tabOk_none _)
theorem n22 : Enters PR 22 := enters_of (fn := Go.Proofs.Tryz.f22) (by kernel_rfl) (by kernel_rfl) (by kernel_rfl)
noncomputable def g22 : List AV → AH → Nat → Option (Bool × AV × AH) := deepC PR e22 4 2000 22 4096 true
theorem g22_ok : ActOk PR 4096 22 g22 := deepC_ok cx22 rfl rfl

/-! reliquary/wire.Fields -/
noncomputable def e23 : Env := envD eqsT [] [] [] [(52, g52)] [9] false []
theorem e23_ok : EnvOk PR e23 := envD_ok eqsT_ok TabPOk.nil TabHOk.nil TabLOk.nil (TabDOk.cons n52 g52_ok TabDOk.nil)
theorem cx23 : Ctx PR e23 [] (fun _ => none) 2000 23 := ctx_of e23_ok mixed (fn := Go.Proofs.Tryz.f23) (by kernel_rfl) (by kernel_rfl) (by kernel_rfl) (tabOk_none _)
theorem n23 : Enters PR 23 := enters_of (fn := Go.Proofs.Tryz.f23) (by kernel_rfl) (by kernel_rfl) (by kernel_rfl)
noncomputable def g23 : List AV → AH → Nat → Option (Bool × AV × AH) := deepC PR e23 6 2000 23 4096 true
theorem g23_ok : ActOk PR 4096 23 g23 := deepC_ok cx23 rfl rfl

/-! reliquary/suite.known -/
noncomputable def e74 : Env := envD eqsT [] [] [] [] [9] false []
theorem e74_ok : EnvOk PR e74 := envD_ok eqsT_ok TabPOk.nil TabHOk.nil TabLOk.nil TabDOk.nil
theorem cx74 : Ctx PR e74 [] (fun _ => none) 2000 74 := ctx_of e74_ok mixed (fn := Go.Proofs.Tryz.f74) (by kernel_rfl) (by kernel_rfl) (by kernel_rfl) (tabOk_none _)
theorem n74 : Enters PR 74 := enters_of (fn := Go.Proofs.Tryz.f74) (by kernel_rfl) (by kernel_rfl) (by kernel_rfl)
noncomputable def g74 : List AV → Option (Bool × AV) := (inlineC PR e74 4 2000 74)
theorem g74_ok : CallOk PR 74 g74 := (.inl ⟨n74, inlineC_ok cx74 rfl rfl⟩)

/-! reliquary/modulus.Order -/
noncomputable def e120 : Env := envD eqsT [] [] [] [] [9] false []
theorem e120_ok : EnvOk PR e120 := envD_ok eqsT_ok TabPOk.nil TabHOk.nil TabLOk.nil TabDOk.nil
theorem cx120 : Ctx PR e120 [] (fun _ => none) 2000 120 := ctx_of e120_ok mixed (fn := Go.Proofs.Tryz.f120) (by kernel_rfl) (by kernel_rfl) (by kernel_rfl) (tabOk_none _)
theorem n120 : Enters PR 120 := enters_of (fn := Go.Proofs.Tryz.f120) (by kernel_rfl) (by kernel_rfl) (by kernel_rfl)
noncomputable def g120 : List AV → Option (Bool × AV) := (inlineC PR e120 1 2000 120)
theorem g120_ok : CallOk PR 120 g120 := (.inl ⟨n120, inlineC_ok cx120 rfl rfl⟩)

/-! reliquary/little.of -/
noncomputable def e162 : Env := envD eqsT [] [] [] [] [9] false []
theorem e162_ok : EnvOk PR e162 := envD_ok eqsT_ok TabPOk.nil TabHOk.nil TabLOk.nil TabDOk.nil
theorem cx162 : Ctx PR e162 [] (fun _ => none) 2000 162 := ctx_of e162_ok mixed (fn := Go.Proofs.Tryz.f162) (by kernel_rfl) (by kernel_rfl) (by kernel_rfl) (tabOk_none _)
theorem n162 : Enters PR 162 := enters_of (fn := Go.Proofs.Tryz.f162) (by kernel_rfl) (by kernel_rfl) (by kernel_rfl)
noncomputable def g162 : List AV → Option (Bool × AV) := (inlineC PR e162 4 2000 162)
theorem g162_ok : CallOk PR 162 g162 := (.inl ⟨n162, inlineC_ok cx162 rfl rfl⟩)

/-! reliquary/little.Order -/
noncomputable def e121 : Env := envD eqsT [(162, g162)] [] [] [] [9] false []
theorem e121_ok : EnvOk PR e121 := envD_ok eqsT_ok (TabPOk.cons g162_ok TabPOk.nil) TabHOk.nil TabLOk.nil TabDOk.nil
theorem cx121 : Ctx PR e121 [] (fun _ => none) 2000 121 := ctx_of e121_ok mixed (fn := Go.Proofs.Tryz.f121) (by kernel_rfl) (by kernel_rfl) (by kernel_rfl) (tabOk_none _)
theorem n121 : Enters PR 121 := enters_of (fn := Go.Proofs.Tryz.f121) (by kernel_rfl) (by kernel_rfl) (by kernel_rfl)
noncomputable def g121 : List AV → Option (Bool × AV) := (inlineC PR e121 4 2000 121)
theorem g121_ok : CallOk PR 121 g121 := (.inl ⟨n121, inlineC_ok cx121 rfl rfl⟩)

/-! reliquary/suite.order -/
noncomputable def e75 : Env := envD eqsT [(111, (fn1 kU c6.agg ofW)), (120, g120), (121, g121)] [] [] [] [9] false []
theorem e75_ok : EnvOk PR e75 := envD_ok eqsT_ok (TabPOk.cons of_ok (TabPOk.cons g120_ok (TabPOk.cons g121_ok TabPOk.nil))) TabHOk.nil TabLOk.nil TabDOk.nil
theorem cx75 : Ctx PR e75 [] (fun _ => none) 2000 75 := ctx_of e75_ok mixed (fn := Go.Proofs.Tryz.f75) (by kernel_rfl) (by kernel_rfl) (by kernel_rfl) (tabOk_none _)
theorem n75 : Enters PR 75 := enters_of (fn := Go.Proofs.Tryz.f75) (by kernel_rfl) (by kernel_rfl) (by kernel_rfl)
noncomputable def g75 : List AV → Option (Bool × AV) := (inlineC PR e75 4 2000 75)
theorem g75_ok : CallOk PR 75 g75 := (.inl ⟨n75, inlineC_ok cx75 rfl rfl⟩)

/-! reliquary/suite.Order -/
noncomputable def e35 : Env := envD eqsT [(74, g74), (75, g75)] [] [] [] [9] false []
theorem e35_ok : EnvOk PR e35 := envD_ok eqsT_ok (TabPOk.cons g74_ok (TabPOk.cons g75_ok TabPOk.nil)) TabHOk.nil TabLOk.nil TabDOk.nil
theorem cx35 : Ctx PR e35 [] (fun _ => none) 2000 35 := ctx_of e35_ok mixed (fn := Go.Proofs.Tryz.f35) (by kernel_rfl) (by kernel_rfl) (by kernel_rfl) (tabOk_none _)
theorem n35 : Enters PR 35 := enters_of (fn := Go.Proofs.Tryz.f35) (by kernel_rfl) (by kernel_rfl) (by kernel_rfl)
noncomputable def g35 : List AV → Option (Bool × AV) := (inlineC PR e35 4 2000 35)
theorem g35_ok : CallOk PR 35 g35 := (.inl ⟨n35, inlineC_ok cx35 rfl rfl⟩)

/-! reliquary/wire.numbers -/
noncomputable def e64 : Env := envD eqsT [(35, g35)] [] [] [] [9] false []
theorem e64_ok : EnvOk PR e64 := envD_ok eqsT_ok (TabPOk.cons g35_ok TabPOk.nil) TabHOk.nil TabLOk.nil TabDOk.nil
theorem cx64 : Ctx PR e64 [] (fun _ => none) 2000 64 := ctx_of e64_ok mixed (fn := Go.Proofs.Tryz.f64) (by kernel_rfl) (by kernel_rfl) (by kernel_rfl) (tabOk_none _)
theorem n64 : Enters PR 64 := enters_of (fn := Go.Proofs.Tryz.f64) (by kernel_rfl) (by kernel_rfl) (by kernel_rfl)
noncomputable def g64 : List AV → AH → Nat → Option (Bool × AV × AH) := deepC PR e64 6 2000 64 4096 true
theorem g64_ok : ActOk PR 4096 64 g64 := deepC_ok cx64 rfl rfl

/-! reliquary/wire.long -/
noncomputable def e65 : Env := envD eqsT [] [] [] [] [9] false []
theorem e65_ok : EnvOk PR e65 := envD_ok eqsT_ok TabPOk.nil TabHOk.nil TabLOk.nil TabDOk.nil
theorem cx65 : Ctx PR e65 [] (fun _ => none) 2000 65 := ctx_of e65_ok mixed (fn := Go.Proofs.Tryz.f65) (by kernel_rfl) (by kernel_rfl) (by kernel_rfl) (tabOk_none _)
theorem n65 : Enters PR 65 := enters_of (fn := Go.Proofs.Tryz.f65) (by kernel_rfl) (by kernel_rfl) (by kernel_rfl)
noncomputable def g65 : List AV → AH → Nat → Option (Bool × AV × AH) := deepC PR e65 6 2000 65 4096 true
theorem g65_ok : ActOk PR 4096 65 g65 := deepC_ok cx65 rfl rfl

/-! reliquary/mont.One -/
noncomputable def e184 : Env := envD eqsT [] [] [] [] [9] false []
theorem e184_ok : EnvOk PR e184 := envD_ok eqsT_ok TabPOk.nil TabHOk.nil TabLOk.nil TabDOk.nil
theorem cx184 : Ctx PR e184 [] (fun _ => none) 2000 184 := ctx_of e184_ok mixed (fn := Go.Proofs.Tryz.f184) (by kernel_rfl) (by kernel_rfl) (by kernel_rfl) (tabOk_none _)
theorem n184 : Enters PR 184 := enters_of (fn := Go.Proofs.Tryz.f184) (by kernel_rfl) (by kernel_rfl) (by kernel_rfl)
noncomputable def g184 : List AV → Option (Bool × AV) := (inlineC PR e184 1 2000 184)
theorem g184_ok : CallOk PR 184 g184 := (.inl ⟨n184, inlineC_ok cx184 rfl rfl⟩)

/-! reliquary/mont.prime -/
noncomputable def e219 : Env := envD eqsT [] [] [] [] [9] false []
theorem e219_ok : EnvOk PR e219 := envD_ok eqsT_ok TabPOk.nil TabHOk.nil TabLOk.nil TabDOk.nil
theorem cx219 : Ctx PR e219 [] (fun _ => none) 2000 219 := ctx_of e219_ok mixed (fn := Go.Proofs.Tryz.f219) (by kernel_rfl) (by kernel_rfl) (by kernel_rfl) (tabOk_none _)
theorem n219 : Enters PR 219 := enters_of (fn := Go.Proofs.Tryz.f219) (by kernel_rfl) (by kernel_rfl) (by kernel_rfl)
noncomputable def g219 : List AV → Option (Bool × AV) := (inlineC PR e219 1 2000 219)
theorem g219_ok : CallOk PR 219 g219 := (.inl ⟨n219, inlineC_ok cx219 rfl rfl⟩)

/-! reliquary/mont.less -/
noncomputable def e218 : Env := envD eqsT [(174, (fn3 kU kU kBit kUB sub64)), (219, g219)] [] [] [] [9] false []
theorem e218_ok : EnvOk PR e218 := envD_ok eqsT_ok (TabPOk.cons sub64_ok (TabPOk.cons g219_ok TabPOk.nil)) TabHOk.nil TabLOk.nil TabDOk.nil
theorem cx218 : Ctx PR e218 [] (fun _ => none) 2000 218 := ctx_of e218_ok mixed (fn := Go.Proofs.Tryz.f218) (by kernel_rfl) (by kernel_rfl) (by kernel_rfl) (tabOk_none _)
theorem n218 : Enters PR 218 := enters_of (fn := Go.Proofs.Tryz.f218) (by kernel_rfl) (by kernel_rfl) (by kernel_rfl)
noncomputable def g218 : List AV → Option (Bool × AV) := (inlineC PR e218 5 2000 218)
theorem g218_ok : CallOk PR 218 g218 := (.inl ⟨n218, inlineC_ok cx218 rfl rfl⟩)

/-! reliquary/mont.Mul -/
noncomputable def e182 : Env := envD eqsT [(172, (fn2 kU kU kUU mul64)), (175, (fn3 kU kU kBit kUB add64)), (218, g218), (219, g219)] [] [] [] [9] false []
theorem e182_ok : EnvOk PR e182 := envD_ok eqsT_ok (TabPOk.cons mul64_ok (TabPOk.cons add64_ok (TabPOk.cons g218_ok (TabPOk.cons g219_ok TabPOk.nil)))) TabHOk.nil TabLOk.nil TabDOk.nil
theorem cx182 : Ctx PR e182 [] (fun _ => none) 2000 182 := ctx_of e182_ok mixed (fn := Go.Proofs.Tryz.f182) (by kernel_rfl) (by kernel_rfl) (by kernel_rfl) (tabOk_none _)
theorem n182 : Enters PR 182 := enters_of (fn := Go.Proofs.Tryz.f182) (by kernel_rfl) (by kernel_rfl) (by kernel_rfl)
noncomputable def g182 : List AV → Option (Bool × AV) := (inlineC PR e182 8 2000 182)
theorem g182_ok : CallOk PR 182 g182 := (.inl ⟨n182, inlineC_ok cx182 rfl rfl⟩)

/-! reliquary/mont.wide -/
noncomputable def e221 : Env := envD eqsT [] [] [] [] [9] false []
theorem e221_ok : EnvOk PR e221 := envD_ok eqsT_ok TabPOk.nil TabHOk.nil TabLOk.nil TabDOk.nil
theorem cx221 : Ctx PR e221 [] (fun _ => none) 2000 221 := ctx_of e221_ok mixed (fn := Go.Proofs.Tryz.f221) (by kernel_rfl) (by kernel_rfl) (by kernel_rfl) (tabOk_none _)
theorem n221 : Enters PR 221 := enters_of (fn := Go.Proofs.Tryz.f221) (by kernel_rfl) (by kernel_rfl) (by kernel_rfl)
noncomputable def g221 : List AV → Option (Bool × AV) := (inlineC PR e221 1 2000 221)
theorem g221_ok : CallOk PR 221 g221 := (.inl ⟨n221, inlineC_ok cx221 rfl rfl⟩)

/-! reliquary/mont.To -/
noncomputable def e185 : Env := envD eqsT [(182, g182), (221, g221)] [] [] [] [9] false []
theorem e185_ok : EnvOk PR e185 := envD_ok eqsT_ok (TabPOk.cons g182_ok (TabPOk.cons g221_ok TabPOk.nil)) TabHOk.nil TabLOk.nil TabDOk.nil
theorem cx185 : Ctx PR e185 [] (fun _ => none) 2000 185 := ctx_of e185_ok mixed (fn := Go.Proofs.Tryz.f185) (by kernel_rfl) (by kernel_rfl) (by kernel_rfl) (tabOk_none _)
theorem n185 : Enters PR 185 := enters_of (fn := Go.Proofs.Tryz.f185) (by kernel_rfl) (by kernel_rfl) (by kernel_rfl)
noncomputable def g185 : List AV → Option (Bool × AV) := (inlineC PR e185 3 2000 185)
theorem g185_ok : CallOk PR 185 g185 := (.inl ⟨n185, inlineC_ok cx185 rfl rfl⟩)

/-! reliquary/mont.Add -/
noncomputable def e180 : Env := envD eqsT [(175, (fn3 kU kU kBit kUB add64)), (218, g218)] [] [] [] [9] false []
theorem e180_ok : EnvOk PR e180 := envD_ok eqsT_ok (TabPOk.cons add64_ok (TabPOk.cons g218_ok TabPOk.nil)) TabHOk.nil TabLOk.nil TabDOk.nil
theorem cx180 : Ctx PR e180 [] (fun _ => none) 2000 180 := ctx_of e180_ok mixed (fn := Go.Proofs.Tryz.f180) (by kernel_rfl) (by kernel_rfl) (by kernel_rfl) (tabOk_none _)
theorem n180 : Enters PR 180 := enters_of (fn := Go.Proofs.Tryz.f180) (by kernel_rfl) (by kernel_rfl) (by kernel_rfl)
noncomputable def g180 : List AV → Option (Bool × AV) := (inlineC PR e180 5 2000 180)
theorem g180_ok : CallOk PR 180 g180 := (.inl ⟨n180, inlineC_ok cx180 rfl rfl⟩)

/-! reliquary/mont.Sub -/
noncomputable def e181 : Env := envD eqsT [(174, (fn3 kU kU kBit kUB sub64)), (175, (fn3 kU kU kBit kUB add64)), (219, g219)] [] [] [] [9] false []
theorem e181_ok : EnvOk PR e181 := envD_ok eqsT_ok (TabPOk.cons sub64_ok (TabPOk.cons add64_ok (TabPOk.cons g219_ok TabPOk.nil))) TabHOk.nil TabLOk.nil TabDOk.nil
theorem cx181 : Ctx PR e181 [] (fun _ => none) 2000 181 := ctx_of e181_ok mixed (fn := Go.Proofs.Tryz.f181) (by kernel_rfl) (by kernel_rfl) (by kernel_rfl) (tabOk_none _)
theorem n181 : Enters PR 181 := enters_of (fn := Go.Proofs.Tryz.f181) (by kernel_rfl) (by kernel_rfl) (by kernel_rfl)
noncomputable def g181 : List AV → Option (Bool × AV) := (inlineC PR e181 6 2000 181)
theorem g181_ok : CallOk PR 181 g181 := (.inl ⟨n181, inlineC_ok cx181 rfl rfl⟩)

/-! reliquary/mont.Pow -/
noncomputable def e220 : Env := envD eqsT [(182, g182), (184, g184)] [] [] [] [9] false []
theorem e220_ok : EnvOk PR e220 := envD_ok eqsT_ok (TabPOk.cons g182_ok (TabPOk.cons g184_ok TabPOk.nil)) TabHOk.nil TabLOk.nil TabDOk.nil
theorem cx220 : Ctx PR e220 [] (fun _ => none) 2000 220 := ctx_of e220_ok mixed (fn := Go.Proofs.Tryz.f220) (by kernel_rfl) (by kernel_rfl) (by kernel_rfl) (tabOk_none _)
theorem n220 : Enters PR 220 := enters_of (fn := Go.Proofs.Tryz.f220) (by kernel_rfl) (by kernel_rfl) (by kernel_rfl)
noncomputable def g220 : List AV → Option (Bool × AV) := (inlineC PR e220 5 2000 220)
theorem g220_ok : CallOk PR 220 g220 := (.inl ⟨n220, inlineC_ok cx220 rfl rfl⟩)

/-! reliquary/mont.Inv -/
noncomputable def e183 : Env := envD eqsT [(220, g220)] [] [] [] [9] false []
theorem e183_ok : EnvOk PR e183 := envD_ok eqsT_ok (TabPOk.cons g220_ok TabPOk.nil) TabHOk.nil TabLOk.nil TabDOk.nil
theorem cx183 : Ctx PR e183 [] (fun _ => none) 2000 183 := ctx_of e183_ok mixed (fn := Go.Proofs.Tryz.f183) (by kernel_rfl) (by kernel_rfl) (by kernel_rfl) (tabOk_none _)
theorem n183 : Enters PR 183 := enters_of (fn := Go.Proofs.Tryz.f183) (by kernel_rfl) (by kernel_rfl) (by kernel_rfl)
noncomputable def g183 : List AV → Option (Bool × AV) := (inlineC PR e183 3 2000 183)
theorem g183_ok : CallOk PR 183 g183 := (.inl ⟨n183, inlineC_ok cx183 rfl rfl⟩)

/-! reliquary/curve.first -/
noncomputable def e132 : Env := envD eqsT [(111, (fn1 kU c6.agg ofW)), (184, g184), (185, g185)] [] [] [] [9] false []
theorem e132_ok : EnvOk PR e132 := envD_ok eqsT_ok (TabPOk.cons of_ok (TabPOk.cons g184_ok (TabPOk.cons g185_ok TabPOk.nil))) TabHOk.nil TabLOk.nil TabDOk.nil
theorem cx132 : Ctx PR e132 [] (fun _ => none) 2000 132 := ctx_of e132_ok mixed (fn := Go.Proofs.Tryz.f132) (by kernel_rfl) (by kernel_rfl) (by kernel_rfl) (tabOk_none _)
theorem n132 : Enters PR 132 := enters_of (fn := Go.Proofs.Tryz.f132) (by kernel_rfl) (by kernel_rfl) (by kernel_rfl)
noncomputable def g132 : List AV → AH → Nat → Option (Bool × AV × AH) := deepC PR e132 3 2000 132 4096 true
theorem g132_ok : ActOk PR 4096 132 g132 := deepC_ok cx132 rfl rfl

/-! reliquary/curve.in1 -/
noncomputable def e134 : Env := envD eqsT [(185, g185)] [] [] [] [9] false []
theorem e134_ok : EnvOk PR e134 := envD_ok eqsT_ok (TabPOk.cons g185_ok TabPOk.nil) TabHOk.nil TabLOk.nil TabDOk.nil
theorem cx134 : Ctx PR e134 [] (fun _ => none) 2000 134 := ctx_of e134_ok mixed (fn := Go.Proofs.Tryz.f134) (by kernel_rfl) (by kernel_rfl) (by kernel_rfl) (tabOk_none _)
theorem n134 : Enters PR 134 := enters_of (fn := Go.Proofs.Tryz.f134) (by kernel_rfl) (by kernel_rfl) (by kernel_rfl)
noncomputable def g134 : List AV → Option (Bool × AV) := (inlineC PR e134 4 2000 134)
theorem g134_ok : CallOk PR 134 g134 := (.inl ⟨n134, inlineC_ok cx134 rfl rfl⟩)

/-! reliquary/modulus.Base -/
noncomputable def e197 : Env := envD eqsT [] [] [] [] [9] false []
theorem e197_ok : EnvOk PR e197 := envD_ok eqsT_ok TabPOk.nil TabHOk.nil TabLOk.nil TabDOk.nil
theorem cx197 : Ctx PR e197 [] (fun _ => none) 2000 197 := ctx_of e197_ok mixed (fn := Go.Proofs.Tryz.f197) (by kernel_rfl) (by kernel_rfl) (by kernel_rfl) (tabOk_none _)
theorem n197 : Enters PR 197 := enters_of (fn := Go.Proofs.Tryz.f197) (by kernel_rfl) (by kernel_rfl) (by kernel_rfl)
noncomputable def g197 : List AV → Option (Bool × AV) := (inlineC PR e197 1 2000 197)
theorem g197_ok : CallOk PR 197 g197 := (.inl ⟨n197, inlineC_ok cx197 rfl rfl⟩)

/-! reliquary/curve.below -/
noncomputable def e208 : Env := envD eqsT [(36, (fn2 c6.agg c6.agg (kInt .i64) fun a b => chainV (cmpL a b) 0)), (197, g197)] [] [] [] [9] false []
theorem e208_ok : EnvOk PR e208 := envD_ok eqsT_ok (TabPOk.cons cmp_ok (TabPOk.cons g197_ok TabPOk.nil)) TabHOk.nil TabLOk.nil TabDOk.nil
theorem cx208 : Ctx PR e208 [] (fun _ => none) 2000 208 := ctx_of e208_ok mixed (fn := Go.Proofs.Tryz.f208) (by kernel_rfl) (by kernel_rfl) (by kernel_rfl) (tabOk_none _)
theorem n208 : Enters PR 208 := enters_of (fn := Go.Proofs.Tryz.f208) (by kernel_rfl) (by kernel_rfl) (by kernel_rfl)
noncomputable def g208 : List AV → Option (Bool × AV) := (inlineC PR e208 3 2000 208)
theorem g208_ok : CallOk PR 208 g208 := (.inl ⟨n208, inlineC_ok cx208 rfl rfl⟩)

/-! reliquary/curve.below1 -/
noncomputable def e160 : Env := envD eqsT [(208, g208)] [] [] [] [9] false []
theorem e160_ok : EnvOk PR e160 := envD_ok eqsT_ok (TabPOk.cons g208_ok TabPOk.nil) TabHOk.nil TabLOk.nil TabDOk.nil
theorem cx160 : Ctx PR e160 [] (fun _ => none) 2000 160 := ctx_of e160_ok mixed (fn := Go.Proofs.Tryz.f160) (by kernel_rfl) (by kernel_rfl) (by kernel_rfl) (tabOk_none _)
theorem n160 : Enters PR 160 := enters_of (fn := Go.Proofs.Tryz.f160) (by kernel_rfl) (by kernel_rfl) (by kernel_rfl)
noncomputable def g160 : List AV → Option (Bool × AV) := (inlineC PR e160 4 2000 160)
theorem g160_ok : CallOk PR 160 g160 := (.inl ⟨n160, inlineC_ok cx160 rfl rfl⟩)

/-! (reliquary/curve.field[reliquary/mont.El]).on -/
noncomputable def e178 : Env := envA eqsT [(182, g182), (180, g180)] [] [] [] [] [] true []
theorem e178_ok : EnvOk PR e178 := envA_ok eqsT_ok (TabPOk.cons g182_ok (TabPOk.cons g180_ok TabPOk.nil)) TabHOk.nil TabLOk.nil TabAOk.nil
theorem cx178 : Ctx PR e178 [] (fun _ => none) 2000 178 := ctx_of e178_ok mixed (fn := Go.Proofs.Tryz.f178) (by kernel_rfl) (by kernel_rfl) (by kernel_rfl) (tabOk_none _)
theorem n178 : Enters PR 178 := enters_of (fn := Go.Proofs.Tryz.f178) (by kernel_rfl) (by kernel_rfl) (by kernel_rfl)
noncomputable def g178 : List AV → AH → Nat → Option (Bool × AV × AH) := deepC PR e178 6 2000 178 4096 true
theorem g178_ok : ActOk PR 4096 178 g178 := deepC_ok cx178 rfl rfl

/-! (reliquary/curve.field[reliquary/mont.El]).lower -/
noncomputable def e209 : Env := envD eqsT [] [] [] [] [9] false []
theorem e209_ok : EnvOk PR e209 := envD_ok eqsT_ok TabPOk.nil TabHOk.nil TabLOk.nil TabDOk.nil
theorem cx209 : Ctx PR e209 [] (fun _ => none) 2000 209 := ctx_of e209_ok mixed (fn := Go.Proofs.Tryz.f209) (by kernel_rfl) (by kernel_rfl) (by kernel_rfl) (tabOk_none _)
theorem n209 : Enters PR 209 := enters_of (fn := Go.Proofs.Tryz.f209) (by kernel_rfl) (by kernel_rfl) (by kernel_rfl)
noncomputable def g209 : List AV → AH → Nat → Option (Bool × AV × AH) := deepC PR e209 6 2000 209 4096 true
theorem g209_ok : ActOk PR 4096 209 g209 := deepC_ok cx209 rfl rfl

/-! (reliquary/curve.field[reliquary/mont.El]).twice -/
noncomputable def e245 : Env := envD eqsT [] [] [] [] [9] false []
theorem e245_ok : EnvOk PR e245 := envD_ok eqsT_ok TabPOk.nil TabHOk.nil TabLOk.nil TabDOk.nil
theorem cx245 : Ctx PR e245 [] (fun _ => none) 2000 245 := ctx_of e245_ok mixed (fn := Go.Proofs.Tryz.f245) (by kernel_rfl) (by kernel_rfl) (by kernel_rfl) (tabOk_none _)
theorem n245 : Enters PR 245 := enters_of (fn := Go.Proofs.Tryz.f245) (by kernel_rfl) (by kernel_rfl) (by kernel_rfl)
noncomputable def g245 : List AV → AH → Nat → Option (Bool × AV × AH) := deepC PR e245 7 2000 245 4096 true
theorem g245_ok : ActOk PR 4096 245 g245 := deepC_ok cx245 rfl rfl

/-! (reliquary/curve.field[reliquary/mont.El]).sum -/
noncomputable def e212 : Env := envD eqsT [] [] [] [(245, g245)] [9] false [245]
theorem e212_ok : EnvOk PR e212 := envD_ok eqsT_ok TabPOk.nil TabHOk.nil TabLOk.nil (TabDOk.cons n245 g245_ok TabDOk.nil)
theorem cx212 : Ctx PR e212 [] (fun _ => none) 2000 212 := ctx_of e212_ok mixed (fn := Go.Proofs.Tryz.f212) (by kernel_rfl) (by kernel_rfl) (by kernel_rfl) (tabOk_none _)
theorem n212 : Enters PR 212 := enters_of (fn := Go.Proofs.Tryz.f212) (by kernel_rfl) (by kernel_rfl) (by kernel_rfl)
noncomputable def g212 : List AV → AH → Nat → Option (Bool × AV × AH) := deepC PR e212 8 2000 212 4096 true
theorem g212_ok : ActOk PR 4096 212 g212 := deepC_ok cx212 rfl rfl

/-! (reliquary/curve.field[reliquary/mont.El]).times -/
noncomputable def e210 : Env := envD eqsT [(176, (fn1 c6.agg (kInt .i64) lenI)), (246, (fn2 c6.agg (kInt .i64) (kInt .i64) bitI))] [] [] [(212, g212), (245, g245)] [9] false [212, 245]
theorem e210_ok : EnvOk PR e210 := envD_ok eqsT_ok (TabPOk.cons len_ok (TabPOk.cons bit_ok TabPOk.nil)) TabHOk.nil TabLOk.nil (TabDOk.cons n212 g212_ok (TabDOk.cons n245 g245_ok TabDOk.nil))
theorem cx210 : Ctx PR e210 [] (fun _ => none) 2000 210 := ctx_of e210_ok mixed (fn := Go.Proofs.Tryz.f210) (by kernel_rfl) (by kernel_rfl) (by kernel_rfl) (tabOk_none _)
theorem n210 : Enters PR 210 := enters_of (fn := Go.Proofs.Tryz.f210) (by kernel_rfl) (by kernel_rfl) (by kernel_rfl)
noncomputable def g210 : List AV → AH → Nat → Option (Bool × AV × AH) := deepC PR e210 6 2000 210 4096 true
theorem g210_ok : ActOk PR 4096 210 g210 := deepC_ok cx210 rfl rfl

/-! (reliquary/curve.field[reliquary/mont.El]).raise -/
noncomputable def e211 : Env := envD eqsT [] [] [] [] [9] false []
theorem e211_ok : EnvOk PR e211 := envD_ok eqsT_ok TabPOk.nil TabHOk.nil TabLOk.nil TabDOk.nil
theorem cx211 : Ctx PR e211 [] (fun _ => none) 2000 211 := ctx_of e211_ok mixed (fn := Go.Proofs.Tryz.f211) (by kernel_rfl) (by kernel_rfl) (by kernel_rfl) (tabOk_none _)
theorem n211 : Enters PR 211 := enters_of (fn := Go.Proofs.Tryz.f211) (by kernel_rfl) (by kernel_rfl) (by kernel_rfl)
noncomputable def g211 : List AV → AH → Nat → Option (Bool × AV × AH) := deepC PR e211 5 2000 211 4096 true
theorem g211_ok : ActOk PR 4096 211 g211 := deepC_ok cx211 rfl rfl

/-! (reliquary/curve.field[reliquary/mont.El]).in -/
noncomputable def e161 : Env := envD eqsT [(120, g120)] [] [] [(178, g178), (209, g209), (210, g210), (211, g211)] [9] false [178, 209, 210, 211]
theorem e161_ok : EnvOk PR e161 := envD_ok eqsT_ok (TabPOk.cons g120_ok TabPOk.nil) TabHOk.nil TabLOk.nil (TabDOk.cons n178 g178_ok (TabDOk.cons n209 g209_ok (TabDOk.cons n210 g210_ok (TabDOk.cons n211 g211_ok TabDOk.nil))))
theorem cx161 : Ctx PR e161 [] (fun _ => none) 2000 161 := ctx_of e161_ok mixed (fn := Go.Proofs.Tryz.f161) (by kernel_rfl) (by kernel_rfl) (by kernel_rfl) (tabOk_none _)
theorem n161 : Enters PR 161 := enters_of (fn := Go.Proofs.Tryz.f161) (by kernel_rfl) (by kernel_rfl) (by kernel_rfl)
noncomputable def g161 : List AV → AH → Nat → Option (Bool × AV × AH) := deepC PR e161 5 2000 161 4096 true
theorem g161_ok : ActOk PR 4096 161 g161 := deepC_ok cx161 rfl rfl

/-! reliquary/curve.In1 -/
noncomputable def e108 : Env := envD eqsT [(134, g134), (160, g160)] [] [] [(132, g132), (161, g161)] [9] false [132, 161]
theorem e108_ok : EnvOk PR e108 := envD_ok eqsT_ok (TabPOk.cons g134_ok (TabPOk.cons g160_ok TabPOk.nil)) TabHOk.nil TabLOk.nil (TabDOk.cons n132 g132_ok (TabDOk.cons n161 g161_ok TabDOk.nil))
theorem cx108 : Ctx PR e108 [] (fun _ => none) 2000 108 := ctx_of e108_ok mixed (fn := Go.Proofs.Tryz.f108) (by kernel_rfl) (by kernel_rfl) (by kernel_rfl) (tabOk_none _)
theorem n108 : Enters PR 108 := enters_of (fn := Go.Proofs.Tryz.f108) (by kernel_rfl) (by kernel_rfl) (by kernel_rfl)
noncomputable def g108 : List AV → Option (Bool × AV) := (inlineC PR e108 4 2000 108)
theorem g108_ok : CallOk PR 108 g108 := (.inl ⟨n108, inlineC_ok cx108 rfl rfl⟩)

/-! reliquary/little.In -/
noncomputable def e109 : Env := envD eqsT [(162, g162), (163, (fn2 kCv cLp.agg kBool inF))] [] [] [] [9] false []
theorem e109_ok : EnvOk PR e109 := envD_ok eqsT_ok (TabPOk.cons g162_ok (TabPOk.cons lin_ok TabPOk.nil)) TabHOk.nil TabLOk.nil TabDOk.nil
theorem cx109 : Ctx PR e109 [] (fun _ => none) 2000 109 := ctx_of e109_ok mixed (fn := Go.Proofs.Tryz.f109) (by kernel_rfl) (by kernel_rfl) (by kernel_rfl) (tabOk_none _)
theorem n109 : Enters PR 109 := enters_of (fn := Go.Proofs.Tryz.f109) (by kernel_rfl) (by kernel_rfl) (by kernel_rfl)
noncomputable def g109 : List AV → Option (Bool × AV) := (inlineC PR e109 5 2000 109)
theorem g109_ok : CallOk PR 109 g109 := (.inl ⟨n109, inlineC_ok cx109 rfl rfl⟩)

/-! reliquary/suite.KeyCheck -/
noncomputable def e67 : Env := envD eqsT [(108, g108), (109, g109)] [] [] [] [9] false []
theorem e67_ok : EnvOk PR e67 := envD_ok eqsT_ok (TabPOk.cons g108_ok (TabPOk.cons g109_ok TabPOk.nil)) TabHOk.nil TabLOk.nil TabDOk.nil
theorem cx67 : Ctx PR e67 [] (fun _ => none) 2000 67 := ctx_of e67_ok mixed (fn := Go.Proofs.Tryz.f67) (by kernel_rfl) (by kernel_rfl) (by kernel_rfl) (tabOk_none _)
theorem n67 : Enters PR 67 := enters_of (fn := Go.Proofs.Tryz.f67) (by kernel_rfl) (by kernel_rfl) (by kernel_rfl)
noncomputable def g67 : List AV → Option (Bool × AV) := (inlineC PR e67 5 2000 67)
theorem g67_ok : CallOk PR 67 g67 := (.inl ⟨n67, inlineC_ok cx67 rfl rfl⟩)
end Go.Rq.Cl

/- A closed law's functions, each gone through where it is called. Written by a program of ours. -/
namespace Go.Rq.Cl
open Go Go.Proofs Go.Rq Go.Rq.Sm

/-! reliquary/curve.below2 -/
noncomputable def e198 : Env := envD eqsT [(208, g208)] [] [] [] [9] false []
theorem e198_ok : EnvOk PR e198 := envD_ok eqsT_ok (TabPOk.cons g208_ok TabPOk.nil) TabHOk.nil TabLOk.nil TabDOk.nil
theorem cx198 : Ctx PR e198 [] (fun _ => none) 2000 198 := ctx_of e198_ok mixed (fn := Go.Proofs.Tryz.f198) (by kernel_rfl) (by kernel_rfl) (by kernel_rfl) (tabOk_none _)
theorem n198 : Enters PR 198 := enters_of (fn := Go.Proofs.Tryz.f198) (by kernel_rfl) (by kernel_rfl) (by kernel_rfl)
noncomputable def g198 : List AV → Option (Bool × AV) := (inlineC PR e198 5 2000 198)
theorem g198_ok : CallOk PR 198 g198 := (.inl ⟨n198, inlineC_ok cx198 rfl rfl⟩)

/-! reliquary/mont.One2 -/
noncomputable def e231 : Env := envD eqsT [(184, g184)] [] [] [] [9] false []
theorem e231_ok : EnvOk PR e231 := envD_ok eqsT_ok (TabPOk.cons g184_ok TabPOk.nil) TabHOk.nil TabLOk.nil TabDOk.nil
theorem cx231 : Ctx PR e231 [] (fun _ => none) 2000 231 := ctx_of e231_ok mixed (fn := Go.Proofs.Tryz.f231) (by kernel_rfl) (by kernel_rfl) (by kernel_rfl) (tabOk_none _)
theorem n231 : Enters PR 231 := enters_of (fn := Go.Proofs.Tryz.f231) (by kernel_rfl) (by kernel_rfl) (by kernel_rfl)
noncomputable def g231 : List AV → Option (Bool × AV) := (inlineC PR e231 2 2000 231)
theorem g231_ok : CallOk PR 231 g231 := (.inl ⟨n231, inlineC_ok cx231 rfl rfl⟩)

/-! reliquary/mont.Add2 -/
noncomputable def e227 : Env := envD eqsT [(180, g180)] [] [] [] [9] false []
theorem e227_ok : EnvOk PR e227 := envD_ok eqsT_ok (TabPOk.cons g180_ok TabPOk.nil) TabHOk.nil TabLOk.nil TabDOk.nil
theorem cx227 : Ctx PR e227 [] (fun _ => none) 2000 227 := ctx_of e227_ok mixed (fn := Go.Proofs.Tryz.f227) (by kernel_rfl) (by kernel_rfl) (by kernel_rfl) (tabOk_none _)
theorem n227 : Enters PR 227 := enters_of (fn := Go.Proofs.Tryz.f227) (by kernel_rfl) (by kernel_rfl) (by kernel_rfl)
noncomputable def g227 : List AV → Option (Bool × AV) := (inlineC PR e227 4 2000 227)
theorem g227_ok : CallOk PR 227 g227 := (.inl ⟨n227, inlineC_ok cx227 rfl rfl⟩)

/-! reliquary/mont.Sub2 -/
noncomputable def e228 : Env := envD eqsT [(181, g181)] [] [] [] [9] false []
theorem e228_ok : EnvOk PR e228 := envD_ok eqsT_ok (TabPOk.cons g181_ok TabPOk.nil) TabHOk.nil TabLOk.nil TabDOk.nil
theorem cx228 : Ctx PR e228 [] (fun _ => none) 2000 228 := ctx_of e228_ok mixed (fn := Go.Proofs.Tryz.f228) (by kernel_rfl) (by kernel_rfl) (by kernel_rfl) (tabOk_none _)
theorem n228 : Enters PR 228 := enters_of (fn := Go.Proofs.Tryz.f228) (by kernel_rfl) (by kernel_rfl) (by kernel_rfl)
noncomputable def g228 : List AV → Option (Bool × AV) := (inlineC PR e228 4 2000 228)
theorem g228_ok : CallOk PR 228 g228 := (.inl ⟨n228, inlineC_ok cx228 rfl rfl⟩)

/-! reliquary/mont.Mul2 -/
noncomputable def e229 : Env := envD eqsT [(180, g180), (181, g181), (182, g182)] [] [] [] [9] false []
theorem e229_ok : EnvOk PR e229 := envD_ok eqsT_ok (TabPOk.cons g180_ok (TabPOk.cons g181_ok (TabPOk.cons g182_ok TabPOk.nil))) TabHOk.nil TabLOk.nil TabDOk.nil
theorem cx229 : Ctx PR e229 [] (fun _ => none) 2000 229 := ctx_of e229_ok mixed (fn := Go.Proofs.Tryz.f229) (by kernel_rfl) (by kernel_rfl) (by kernel_rfl) (tabOk_none _)
theorem n229 : Enters PR 229 := enters_of (fn := Go.Proofs.Tryz.f229) (by kernel_rfl) (by kernel_rfl) (by kernel_rfl)
noncomputable def g229 : List AV → Option (Bool × AV) := (inlineC PR e229 6 2000 229)
theorem g229_ok : CallOk PR 229 g229 := (.inl ⟨n229, inlineC_ok cx229 rfl rfl⟩)

/-! reliquary/mont.Scale -/
noncomputable def e252 : Env := envD eqsT [(182, g182)] [] [] [] [9] false []
theorem e252_ok : EnvOk PR e252 := envD_ok eqsT_ok (TabPOk.cons g182_ok TabPOk.nil) TabHOk.nil TabLOk.nil TabDOk.nil
theorem cx252 : Ctx PR e252 [] (fun _ => none) 2000 252 := ctx_of e252_ok mixed (fn := Go.Proofs.Tryz.f252) (by kernel_rfl) (by kernel_rfl) (by kernel_rfl) (tabOk_none _)
theorem n252 : Enters PR 252 := enters_of (fn := Go.Proofs.Tryz.f252) (by kernel_rfl) (by kernel_rfl) (by kernel_rfl)
noncomputable def g252 : List AV → Option (Bool × AV) := (inlineC PR e252 4 2000 252)
theorem g252_ok : CallOk PR 252 g252 := (.inl ⟨n252, inlineC_ok cx252 rfl rfl⟩)

/-! reliquary/mont.Neg -/
noncomputable def e261 : Env := envD eqsT [(181, g181)] [] [] [] [9] false []
theorem e261_ok : EnvOk PR e261 := envD_ok eqsT_ok (TabPOk.cons g181_ok TabPOk.nil) TabHOk.nil TabLOk.nil TabDOk.nil
theorem cx261 : Ctx PR e261 [] (fun _ => none) 2000 261 := ctx_of e261_ok mixed (fn := Go.Proofs.Tryz.f261) (by kernel_rfl) (by kernel_rfl) (by kernel_rfl) (tabOk_none _)
theorem n261 : Enters PR 261 := enters_of (fn := Go.Proofs.Tryz.f261) (by kernel_rfl) (by kernel_rfl) (by kernel_rfl)
noncomputable def g261 : List AV → Option (Bool × AV) := (inlineC PR e261 3 2000 261)
theorem g261_ok : CallOk PR 261 g261 := (.inl ⟨n261, inlineC_ok cx261 rfl rfl⟩)

/-! reliquary/mont.Conj2 -/
noncomputable def e253 : Env := envD eqsT [(261, g261)] [] [] [] [9] false []
theorem e253_ok : EnvOk PR e253 := envD_ok eqsT_ok (TabPOk.cons g261_ok TabPOk.nil) TabHOk.nil TabLOk.nil TabDOk.nil
theorem cx253 : Ctx PR e253 [] (fun _ => none) 2000 253 := ctx_of e253_ok mixed (fn := Go.Proofs.Tryz.f253) (by kernel_rfl) (by kernel_rfl) (by kernel_rfl) (tabOk_none _)
theorem n253 : Enters PR 253 := enters_of (fn := Go.Proofs.Tryz.f253) (by kernel_rfl) (by kernel_rfl) (by kernel_rfl)
noncomputable def g253 : List AV → Option (Bool × AV) := (inlineC PR e253 4 2000 253)
theorem g253_ok : CallOk PR 253 g253 := (.inl ⟨n253, inlineC_ok cx253 rfl rfl⟩)

/-! reliquary/mont.Norm -/
noncomputable def e254 : Env := envD eqsT [(180, g180), (182, g182)] [] [] [] [9] false []
theorem e254_ok : EnvOk PR e254 := envD_ok eqsT_ok (TabPOk.cons g180_ok (TabPOk.cons g182_ok TabPOk.nil)) TabHOk.nil TabLOk.nil TabDOk.nil
theorem cx254 : Ctx PR e254 [] (fun _ => none) 2000 254 := ctx_of e254_ok mixed (fn := Go.Proofs.Tryz.f254) (by kernel_rfl) (by kernel_rfl) (by kernel_rfl) (tabOk_none _)
theorem n254 : Enters PR 254 := enters_of (fn := Go.Proofs.Tryz.f254) (by kernel_rfl) (by kernel_rfl) (by kernel_rfl)
noncomputable def g254 : List AV → Option (Bool × AV) := (inlineC PR e254 4 2000 254)
theorem g254_ok : CallOk PR 254 g254 := (.inl ⟨n254, inlineC_ok cx254 rfl rfl⟩)

/-! reliquary/mont.Inv2 -/
noncomputable def e230 : Env := envD eqsT [(183, g183), (252, g252), (253, g253), (254, g254)] [] [] [] [9] false []
theorem e230_ok : EnvOk PR e230 := envD_ok eqsT_ok (TabPOk.cons g183_ok (TabPOk.cons g252_ok (TabPOk.cons g253_ok (TabPOk.cons g254_ok TabPOk.nil)))) TabHOk.nil TabLOk.nil TabDOk.nil
theorem cx230 : Ctx PR e230 [] (fun _ => none) 2000 230 := ctx_of e230_ok mixed (fn := Go.Proofs.Tryz.f230) (by kernel_rfl) (by kernel_rfl) (by kernel_rfl) (tabOk_none _)
theorem n230 : Enters PR 230 := enters_of (fn := Go.Proofs.Tryz.f230) (by kernel_rfl) (by kernel_rfl) (by kernel_rfl)
noncomputable def g230 : List AV → Option (Bool × AV) := (inlineC PR e230 4 2000 230)
theorem g230_ok : CallOk PR 230 g230 := (.inl ⟨n230, inlineC_ok cx230 rfl rfl⟩)

/-! reliquary/curve.second -/
noncomputable def e199 : Env := envD eqsT [(111, (fn1 kU c6.agg ofW)), (185, g185), (231, g231)] [] [] [] [9] false []
theorem e199_ok : EnvOk PR e199 := envD_ok eqsT_ok (TabPOk.cons of_ok (TabPOk.cons g185_ok (TabPOk.cons g231_ok TabPOk.nil))) TabHOk.nil TabLOk.nil TabDOk.nil
theorem cx199 : Ctx PR e199 [] (fun _ => none) 2000 199 := ctx_of e199_ok mixed (fn := Go.Proofs.Tryz.f199) (by kernel_rfl) (by kernel_rfl) (by kernel_rfl) (tabOk_none _)
theorem n199 : Enters PR 199 := enters_of (fn := Go.Proofs.Tryz.f199) (by kernel_rfl) (by kernel_rfl) (by kernel_rfl)
noncomputable def g199 : List AV → AH → Nat → Option (Bool × AV × AH) := deepC PR e199 4 2000 199 4096 true
theorem g199_ok : ActOk PR 4096 199 g199 := deepC_ok cx199 rfl rfl

/-! (reliquary/curve.field[reliquary/mont.F2]).on -/
noncomputable def e202 : Env := envD eqsT [] [] [] [] [9] false []
theorem e202_ok : EnvOk PR e202 := envD_ok eqsT_ok TabPOk.nil TabHOk.nil TabLOk.nil TabDOk.nil
theorem cx202 : Ctx PR e202 [] (fun _ => none) 2000 202 := ctx_of e202_ok mixed (fn := Go.Proofs.Tryz.f202) (by kernel_rfl) (by kernel_rfl) (by kernel_rfl) (tabOk_none _)
theorem n202 : Enters PR 202 := enters_of (fn := Go.Proofs.Tryz.f202) (by kernel_rfl) (by kernel_rfl) (by kernel_rfl)
noncomputable def g202 : List AV → AH → Nat → Option (Bool × AV × AH) := deepC PR e202 6 2000 202 4096 true
theorem g202_ok : ActOk PR 4096 202 g202 := deepC_ok cx202 rfl rfl

/-! (reliquary/curve.field[reliquary/mont.F2]).lower -/
noncomputable def e232 : Env := envD eqsT [] [] [] [] [9] false []
theorem e232_ok : EnvOk PR e232 := envD_ok eqsT_ok TabPOk.nil TabHOk.nil TabLOk.nil TabDOk.nil
theorem cx232 : Ctx PR e232 [] (fun _ => none) 2000 232 := ctx_of e232_ok mixed (fn := Go.Proofs.Tryz.f232) (by kernel_rfl) (by kernel_rfl) (by kernel_rfl) (tabOk_none _)
theorem n232 : Enters PR 232 := enters_of (fn := Go.Proofs.Tryz.f232) (by kernel_rfl) (by kernel_rfl) (by kernel_rfl)
noncomputable def g232 : List AV → AH → Nat → Option (Bool × AV × AH) := deepC PR e232 6 2000 232 4096 true
theorem g232_ok : ActOk PR 4096 232 g232 := deepC_ok cx232 rfl rfl

/-! (reliquary/curve.field[reliquary/mont.F2]).twice -/
noncomputable def e255 : Env := envD eqsT [] [] [] [] [9] false []
theorem e255_ok : EnvOk PR e255 := envD_ok eqsT_ok TabPOk.nil TabHOk.nil TabLOk.nil TabDOk.nil
theorem cx255 : Ctx PR e255 [] (fun _ => none) 2000 255 := ctx_of e255_ok mixed (fn := Go.Proofs.Tryz.f255) (by kernel_rfl) (by kernel_rfl) (by kernel_rfl) (tabOk_none _)
theorem n255 : Enters PR 255 := enters_of (fn := Go.Proofs.Tryz.f255) (by kernel_rfl) (by kernel_rfl) (by kernel_rfl)
noncomputable def g255 : List AV → AH → Nat → Option (Bool × AV × AH) := deepC PR e255 7 2000 255 4096 true
theorem g255_ok : ActOk PR 4096 255 g255 := deepC_ok cx255 rfl rfl

/-! (reliquary/curve.field[reliquary/mont.F2]).sum -/
noncomputable def e256 : Env := envD eqsT [] [] [] [(255, g255)] [9] false [255]
theorem e256_ok : EnvOk PR e256 := envD_ok eqsT_ok TabPOk.nil TabHOk.nil TabLOk.nil (TabDOk.cons n255 g255_ok TabDOk.nil)
theorem cx256 : Ctx PR e256 [] (fun _ => none) 2000 256 := ctx_of e256_ok mixed (fn := Go.Proofs.Tryz.f256) (by kernel_rfl) (by kernel_rfl) (by kernel_rfl) (tabOk_none _)
theorem n256 : Enters PR 256 := enters_of (fn := Go.Proofs.Tryz.f256) (by kernel_rfl) (by kernel_rfl) (by kernel_rfl)
noncomputable def g256 : List AV → AH → Nat → Option (Bool × AV × AH) := deepC PR e256 8 2000 256 4096 true
theorem g256_ok : ActOk PR 4096 256 g256 := deepC_ok cx256 rfl rfl

/-! (reliquary/curve.field[reliquary/mont.F2]).times -/
noncomputable def e233 : Env := envD eqsT [(176, (fn1 c6.agg (kInt .i64) lenI)), (246, (fn2 c6.agg (kInt .i64) (kInt .i64) bitI))] [] [] [(255, g255), (256, g256)] [9] false [255, 256]
theorem e233_ok : EnvOk PR e233 := envD_ok eqsT_ok (TabPOk.cons len_ok (TabPOk.cons bit_ok TabPOk.nil)) TabHOk.nil TabLOk.nil (TabDOk.cons n255 g255_ok (TabDOk.cons n256 g256_ok TabDOk.nil))
theorem cx233 : Ctx PR e233 [] (fun _ => none) 2000 233 := ctx_of e233_ok mixed (fn := Go.Proofs.Tryz.f233) (by kernel_rfl) (by kernel_rfl) (by kernel_rfl) (tabOk_none _)
theorem n233 : Enters PR 233 := enters_of (fn := Go.Proofs.Tryz.f233) (by kernel_rfl) (by kernel_rfl) (by kernel_rfl)
noncomputable def g233 : List AV → AH → Nat → Option (Bool × AV × AH) := deepC PR e233 6 2000 233 4096 true
theorem g233_ok : ActOk PR 4096 233 g233 := deepC_ok cx233 rfl rfl

/-! (reliquary/curve.field[reliquary/mont.F2]).raise -/
noncomputable def e234 : Env := envD eqsT [] [] [] [] [9] false []
theorem e234_ok : EnvOk PR e234 := envD_ok eqsT_ok TabPOk.nil TabHOk.nil TabLOk.nil TabDOk.nil
theorem cx234 : Ctx PR e234 [] (fun _ => none) 2000 234 := ctx_of e234_ok mixed (fn := Go.Proofs.Tryz.f234) (by kernel_rfl) (by kernel_rfl) (by kernel_rfl) (tabOk_none _)
theorem n234 : Enters PR 234 := enters_of (fn := Go.Proofs.Tryz.f234) (by kernel_rfl) (by kernel_rfl) (by kernel_rfl)
noncomputable def g234 : List AV → AH → Nat → Option (Bool × AV × AH) := deepC PR e234 5 2000 234 4096 true
theorem g234_ok : ActOk PR 4096 234 g234 := deepC_ok cx234 rfl rfl

/-! (reliquary/curve.field[reliquary/mont.F2]).in -/
noncomputable def e200 : Env := envD eqsT [(120, g120)] [] [] [(202, g202), (232, g232), (233, g233), (234, g234)] [9] false [202, 232, 233, 234]
theorem e200_ok : EnvOk PR e200 := envD_ok eqsT_ok (TabPOk.cons g120_ok TabPOk.nil) TabHOk.nil TabLOk.nil (TabDOk.cons n202 g202_ok (TabDOk.cons n232 g232_ok (TabDOk.cons n233 g233_ok (TabDOk.cons n234 g234_ok TabDOk.nil))))
theorem cx200 : Ctx PR e200 [] (fun _ => none) 2000 200 := ctx_of e200_ok mixed (fn := Go.Proofs.Tryz.f200) (by kernel_rfl) (by kernel_rfl) (by kernel_rfl) (tabOk_none _)
theorem n200 : Enters PR 200 := enters_of (fn := Go.Proofs.Tryz.f200) (by kernel_rfl) (by kernel_rfl) (by kernel_rfl)
noncomputable def g200 : List AV → AH → Nat → Option (Bool × AV × AH) := deepC PR e200 5 2000 200 4096 true
theorem g200_ok : ActOk PR 4096 200 g200 := deepC_ok cx200 rfl rfl

/-! reliquary/mont.To2 -/
noncomputable def e235 : Env := envD eqsT [(185, g185)] [] [] [] [9] false []
theorem e235_ok : EnvOk PR e235 := envD_ok eqsT_ok (TabPOk.cons g185_ok TabPOk.nil) TabHOk.nil TabLOk.nil TabDOk.nil
theorem cx235 : Ctx PR e235 [] (fun _ => none) 2000 235 := ctx_of e235_ok mixed (fn := Go.Proofs.Tryz.f235) (by kernel_rfl) (by kernel_rfl) (by kernel_rfl) (tabOk_none _)
theorem n235 : Enters PR 235 := enters_of (fn := Go.Proofs.Tryz.f235) (by kernel_rfl) (by kernel_rfl) (by kernel_rfl)
noncomputable def g235 : List AV → Option (Bool × AV) := (inlineC PR e235 4 2000 235)
theorem g235_ok : CallOk PR 235 g235 := (.inl ⟨n235, inlineC_ok cx235 rfl rfl⟩)

/-! reliquary/curve.in2 -/
noncomputable def e201 : Env := envD eqsT [(235, g235)] [] [] [] [9] false []
theorem e201_ok : EnvOk PR e201 := envD_ok eqsT_ok (TabPOk.cons g235_ok TabPOk.nil) TabHOk.nil TabLOk.nil TabDOk.nil
theorem cx201 : Ctx PR e201 [] (fun _ => none) 2000 201 := ctx_of e201_ok mixed (fn := Go.Proofs.Tryz.f201) (by kernel_rfl) (by kernel_rfl) (by kernel_rfl) (tabOk_none _)
theorem n201 : Enters PR 201 := enters_of (fn := Go.Proofs.Tryz.f201) (by kernel_rfl) (by kernel_rfl) (by kernel_rfl)
noncomputable def g201 : List AV → Option (Bool × AV) := (inlineC PR e201 4 2000 201)
theorem g201_ok : CallOk PR 201 g201 := (.inl ⟨n201, inlineC_ok cx201 rfl rfl⟩)

/-! reliquary/curve.In2 -/
noncomputable def e154 : Env := envD eqsT [(198, g198), (201, g201)] [] [] [(199, g199), (200, g200)] [9] false [199, 200]
theorem e154_ok : EnvOk PR e154 := envD_ok eqsT_ok (TabPOk.cons g198_ok (TabPOk.cons g201_ok TabPOk.nil)) TabHOk.nil TabLOk.nil (TabDOk.cons n199 g199_ok (TabDOk.cons n200 g200_ok TabDOk.nil))
theorem cx154 : Ctx PR e154 [] (fun _ => none) 2000 154 := ctx_of e154_ok mixed (fn := Go.Proofs.Tryz.f154) (by kernel_rfl) (by kernel_rfl) (by kernel_rfl) (tabOk_none _)
theorem n154 : Enters PR 154 := enters_of (fn := Go.Proofs.Tryz.f154) (by kernel_rfl) (by kernel_rfl) (by kernel_rfl)
noncomputable def g154 : List AV → Option (Bool × AV) := (inlineC PR e154 4 2000 154)
theorem g154_ok : CallOk PR 154 g154 := (.inl ⟨n154, inlineC_ok cx154 rfl rfl⟩)

/-! reliquary/suite.SigCheck -/
noncomputable def e102 : Env := envD eqsT [(109, g109), (154, g154)] [] [] [] [9] false []
theorem e102_ok : EnvOk PR e102 := envD_ok eqsT_ok (TabPOk.cons g109_ok (TabPOk.cons g154_ok TabPOk.nil)) TabHOk.nil TabLOk.nil TabDOk.nil
theorem cx102 : Ctx PR e102 [] (fun _ => none) 2000 102 := ctx_of e102_ok mixed (fn := Go.Proofs.Tryz.f102) (by kernel_rfl) (by kernel_rfl) (by kernel_rfl) (tabOk_none _)
theorem n102 : Enters PR 102 := enters_of (fn := Go.Proofs.Tryz.f102) (by kernel_rfl) (by kernel_rfl) (by kernel_rfl)
noncomputable def g102 : List AV → Option (Bool × AV) := (inlineC PR e102 5 2000 102)
theorem g102_ok : CallOk PR 102 g102 := (.inl ⟨n102, inlineC_ok cx102 rfl rfl⟩)

/-! reliquary/wire.points -/
noncomputable def e66 : Env := envD eqsT [(67, g67), (102, g102)] [] [] [] [9] false []
theorem e66_ok : EnvOk PR e66 := envD_ok eqsT_ok (TabPOk.cons g67_ok (TabPOk.cons g102_ok TabPOk.nil)) TabHOk.nil TabLOk.nil TabDOk.nil
theorem cx66 : Ctx PR e66 [] (fun _ => none) 2000 66 := ctx_of e66_ok mixed (fn := Go.Proofs.Tryz.f66) (by kernel_rfl) (by kernel_rfl) (by kernel_rfl) (tabOk_none _)
theorem n66 : Enters PR 66 := enters_of (fn := Go.Proofs.Tryz.f66) (by kernel_rfl) (by kernel_rfl) (by kernel_rfl)
noncomputable def g66 : List AV → AH → Nat → Option (Bool × AV × AH) := deepC PR e66 6 2000 66 4096 true
theorem g66_ok : ActOk PR 4096 66 g66 := deepC_ok cx66 rfl rfl

/-! reliquary/wire.Check -/
noncomputable def e30 : Env := envD eqsT [(35, g35), (36, (fn2 c6.agg c6.agg (kInt .i64) fun a b => chainV (cmpL a b) 0))] [] [] [(64, g64), (65, g65), (66, g66)] [9] false [64, 65, 66]
theorem e30_ok : EnvOk PR e30 := envD_ok eqsT_ok (TabPOk.cons g35_ok (TabPOk.cons cmp_ok TabPOk.nil)) TabHOk.nil TabLOk.nil (TabDOk.cons n64 g64_ok (TabDOk.cons n65 g65_ok (TabDOk.cons n66 g66_ok TabDOk.nil)))
theorem cx30 : Ctx PR e30 [] (fun _ => none) 2000 30 := ctx_of e30_ok mixed (fn := Go.Proofs.Tryz.f30) (by kernel_rfl) (by kernel_rfl) (by kernel_rfl) (tabOk_none _)
theorem n30 : Enters PR 30 := enters_of (fn := Go.Proofs.Tryz.f30) (by kernel_rfl) (by kernel_rfl) (by kernel_rfl)
noncomputable def g30 : List AV → AH → Nat → Option (Bool × AV × AH) := deepC PR e30 6 2000 30 4096 true
theorem g30_ok : ActOk PR 4096 30 g30 := deepC_ok cx30 rfl rfl

/-! reliquary/words.Bytes -/
noncomputable def e55 : Env := envD eqsT [] [] [] [] [9] false []
theorem e55_ok : EnvOk PR e55 := envD_ok eqsT_ok TabPOk.nil TabHOk.nil TabLOk.nil TabDOk.nil
theorem cx55 : Ctx PR e55 [] (fun _ => none) 2000 55 := ctx_of e55_ok mixed (fn := Go.Proofs.Tryz.f55) (by kernel_rfl) (by kernel_rfl) (by kernel_rfl) (tabOk_none _)
theorem n55 : Enters PR 55 := enters_of (fn := Go.Proofs.Tryz.f55) (by kernel_rfl) (by kernel_rfl) (by kernel_rfl)
noncomputable def g55 : List AV → AH → Nat → Option (Bool × AV × AH) := deepC PR e55 5 2000 55 4096 true
theorem g55_ok : ActOk PR 4096 55 g55 := deepC_ok cx55 rfl rfl

/-! reliquary/wire.width -/
noncomputable def e56 : Env := envD eqsT [] [] [] [] [9] false []
theorem e56_ok : EnvOk PR e56 := envD_ok eqsT_ok TabPOk.nil TabHOk.nil TabLOk.nil TabDOk.nil
theorem cx56 : Ctx PR e56 [] (fun _ => none) 2000 56 := ctx_of e56_ok mixed (fn := Go.Proofs.Tryz.f56) (by kernel_rfl) (by kernel_rfl) (by kernel_rfl) (tabOk_none _)
theorem n56 : Enters PR 56 := enters_of (fn := Go.Proofs.Tryz.f56) (by kernel_rfl) (by kernel_rfl) (by kernel_rfl)
noncomputable def g56 : List AV → Option (Bool × AV) := (inlineC PR e56 3 2000 56)
theorem g56_ok : CallOk PR 56 g56 := (.inl ⟨n56, inlineC_ok cx56 rfl rfl⟩)

/-! reliquary/curve.Check1 -/
noncomputable def e130 : Env := envD eqsT [(134, g134), (160, g160)] [] [] [(132, g132), (178, g178)] [9] false [132, 178]
theorem e130_ok : EnvOk PR e130 := envD_ok eqsT_ok (TabPOk.cons g134_ok (TabPOk.cons g160_ok TabPOk.nil)) TabHOk.nil TabLOk.nil (TabDOk.cons n132 g132_ok (TabDOk.cons n178 g178_ok TabDOk.nil))
theorem cx130 : Ctx PR e130 [] (fun _ => none) 2000 130 := ctx_of e130_ok mixed (fn := Go.Proofs.Tryz.f130) (by kernel_rfl) (by kernel_rfl) (by kernel_rfl) (tabOk_none _)
theorem n130 : Enters PR 130 := enters_of (fn := Go.Proofs.Tryz.f130) (by kernel_rfl) (by kernel_rfl) (by kernel_rfl)
noncomputable def g130 : List AV → Option (Bool × AV) := (inlineC PR e130 4 2000 130)
theorem g130_ok : CallOk PR 130 g130 := (.inl ⟨n130, inlineC_ok cx130 rfl rfl⟩)

/-! reliquary/point.marked -/
noncomputable def e151 : Env := envD eqsT [] [] [] [] [9] false []
theorem e151_ok : EnvOk PR e151 := envD_ok eqsT_ok TabPOk.nil TabHOk.nil TabLOk.nil TabDOk.nil
theorem cx151 : Ctx PR e151 [] (fun _ => none) 2000 151 := ctx_of e151_ok mixed (fn := Go.Proofs.Tryz.f151) (by kernel_rfl) (by kernel_rfl) (by kernel_rfl) (tabOk_none _)
theorem n151 : Enters PR 151 := enters_of (fn := Go.Proofs.Tryz.f151) (by kernel_rfl) (by kernel_rfl) (by kernel_rfl)
noncomputable def g151 : List AV → AH → Nat → Option (Bool × AV × AH) := slimG 4096 (deepC PR e151 5 2000 151 4096 false)
theorem g151_ok : ActOk PR 4096 151 g151 := slimG_ok (deepC_ok cx151 rfl rfl)

/-! reliquary/words.Shift -/
noncomputable def e127 : Env := envD eqsT [] [] [] [] [9] false []
theorem e127_ok : EnvOk PR e127 := envD_ok eqsT_ok TabPOk.nil TabHOk.nil TabLOk.nil TabDOk.nil
theorem cx127 : Ctx PR e127 [] (fun _ => none) 2000 127 := ctx_of e127_ok mixed (fn := Go.Proofs.Tryz.f127) (by kernel_rfl) (by kernel_rfl) (by kernel_rfl) (tabOk_none _)
theorem n127 : Enters PR 127 := enters_of (fn := Go.Proofs.Tryz.f127) (by kernel_rfl) (by kernel_rfl) (by kernel_rfl)
noncomputable def g127 : List AV → Option (Bool × AV) := (inlineC PR e127 7 2000 127)
theorem g127_ok : CallOk PR 127 g127 := (.inl ⟨n127, inlineC_ok cx127 rfl rfl⟩)

/-! reliquary/point.above -/
noncomputable def e152 : Env := envD eqsT [(36, (fn2 c6.agg c6.agg (kInt .i64) fun a b => chainV (cmpL a b) 0)), (127, g127), (197, g197)] [] [] [] [9] false []
theorem e152_ok : EnvOk PR e152 := envD_ok eqsT_ok (TabPOk.cons cmp_ok (TabPOk.cons g127_ok (TabPOk.cons g197_ok TabPOk.nil))) TabHOk.nil TabLOk.nil TabDOk.nil
theorem cx152 : Ctx PR e152 [] (fun _ => none) 2000 152 := ctx_of e152_ok mixed (fn := Go.Proofs.Tryz.f152) (by kernel_rfl) (by kernel_rfl) (by kernel_rfl) (tabOk_none _)
theorem n152 : Enters PR 152 := enters_of (fn := Go.Proofs.Tryz.f152) (by kernel_rfl) (by kernel_rfl) (by kernel_rfl)
noncomputable def g152 : List AV → Option (Bool × AV) := (inlineC PR e152 3 2000 152)
theorem g152_ok : CallOk PR 152 g152 := (.inl ⟨n152, inlineC_ok cx152 rfl rfl⟩)

/-! reliquary/point.Bytes1 -/
noncomputable def e100 : Env := envD eqsT [(130, g130), (152, g152)] [] [] [(55, g55), (151, g151)] [9] false [55]
theorem e100_ok : EnvOk PR e100 := envD_ok eqsT_ok (TabPOk.cons g130_ok (TabPOk.cons g152_ok TabPOk.nil)) TabHOk.nil TabLOk.nil (TabDOk.cons n55 g55_ok (TabDOk.cons n151 g151_ok TabDOk.nil))
theorem cx100 : Ctx PR e100 [] (fun _ => none) 2000 100 := ctx_of e100_ok mixed (fn := Go.Proofs.Tryz.f100) (by kernel_rfl) (by kernel_rfl) (by kernel_rfl) (tabOk_none _)
theorem n100 : Enters PR 100 := enters_of (fn := Go.Proofs.Tryz.f100) (by kernel_rfl) (by kernel_rfl) (by kernel_rfl)
noncomputable def g100 : List AV → AH → Nat → Option (Bool × AV × AH) := deepC PR e100 4 2000 100 4096 true
theorem g100_ok : ActOk PR 4096 100 g100 := deepC_ok cx100 rfl rfl

/-! reliquary/little.checked -/
noncomputable def e112 : Env := envD eqsT [(162, g162), (165, (fn2 kCv cLp.agg kBool onF))] [] [] [] [9] false []
theorem e112_ok : EnvOk PR e112 := envD_ok eqsT_ok (TabPOk.cons g162_ok (TabPOk.cons lo_ok TabPOk.nil)) TabHOk.nil TabLOk.nil TabDOk.nil
theorem cx112 : Ctx PR e112 [] (fun _ => none) 2000 112 := ctx_of e112_ok mixed (fn := Go.Proofs.Tryz.f112) (by kernel_rfl) (by kernel_rfl) (by kernel_rfl) (tabOk_none _)
theorem n112 : Enters PR 112 := enters_of (fn := Go.Proofs.Tryz.f112) (by kernel_rfl) (by kernel_rfl) (by kernel_rfl)
noncomputable def g112 : List AV → AH → Nat → Option (Bool × AV × AH) := deepC PR e112 5 2000 112 4096 true
theorem g112_ok : ActOk PR 4096 112 g112 := deepC_ok cx112 rfl rfl

/-! reliquary/little.written -/
noncomputable def e153 : Env := envD eqsT [] [] [] [] [9] false []
theorem e153_ok : EnvOk PR e153 := envD_ok eqsT_ok TabPOk.nil TabHOk.nil TabLOk.nil TabDOk.nil
theorem cx153 : Ctx PR e153 [] (fun _ => none) 2000 153 := ctx_of e153_ok mixed (fn := Go.Proofs.Tryz.f153) (by kernel_rfl) (by kernel_rfl) (by kernel_rfl) (tabOk_none _)
theorem n153 : Enters PR 153 := enters_of (fn := Go.Proofs.Tryz.f153) (by kernel_rfl) (by kernel_rfl) (by kernel_rfl)
noncomputable def g153 : List AV → Option (Bool × AV) := (inlineC PR e153 6 2000 153)
theorem g153_ok : CallOk PR 153 g153 := (.inl ⟨n153, inlineC_ok cx153 rfl rfl⟩)

/-! reliquary/little.Bytes -/
noncomputable def e101 : Env := envD eqsT [(153, g153)] [] [] [(112, g112)] [9] false [112]
theorem e101_ok : EnvOk PR e101 := envD_ok eqsT_ok (TabPOk.cons g153_ok TabPOk.nil) TabHOk.nil TabLOk.nil (TabDOk.cons n112 g112_ok TabDOk.nil)
theorem cx101 : Ctx PR e101 [] (fun _ => none) 2000 101 := ctx_of e101_ok mixed (fn := Go.Proofs.Tryz.f101) (by kernel_rfl) (by kernel_rfl) (by kernel_rfl) (tabOk_none _)
theorem n101 : Enters PR 101 := enters_of (fn := Go.Proofs.Tryz.f101) (by kernel_rfl) (by kernel_rfl) (by kernel_rfl)
noncomputable def g101 : List AV → AH → Nat → Option (Bool × AV × AH) := deepC PR e101 5 2000 101 4096 true
theorem g101_ok : ActOk PR 4096 101 g101 := deepC_ok cx101 rfl rfl

/-! reliquary/suite.KeyBytes -/
noncomputable def e57 : Env := envD eqsT [(67, g67)] [] [] [(100, g100), (101, g101)] [9] false [100, 101]
theorem e57_ok : EnvOk PR e57 := envD_ok eqsT_ok (TabPOk.cons g67_ok TabPOk.nil) TabHOk.nil TabLOk.nil (TabDOk.cons n100 g100_ok (TabDOk.cons n101 g101_ok TabDOk.nil))
theorem cx57 : Ctx PR e57 [] (fun _ => none) 2000 57 := ctx_of e57_ok mixed (fn := Go.Proofs.Tryz.f57) (by kernel_rfl) (by kernel_rfl) (by kernel_rfl) (tabOk_none _)
theorem n57 : Enters PR 57 := enters_of (fn := Go.Proofs.Tryz.f57) (by kernel_rfl) (by kernel_rfl) (by kernel_rfl)
noncomputable def g57 : List AV → AH → Nat → Option (Bool × AV × AH) := deepC PR e57 5 2000 57 4096 true
theorem g57_ok : ActOk PR 4096 57 g57 := deepC_ok cx57 rfl rfl

/-! reliquary/curve.Check2 -/
noncomputable def e155 : Env := envD eqsT [(198, g198), (201, g201)] [] [] [(199, g199), (202, g202)] [9] false [199, 202]
theorem e155_ok : EnvOk PR e155 := envD_ok eqsT_ok (TabPOk.cons g198_ok (TabPOk.cons g201_ok TabPOk.nil)) TabHOk.nil TabLOk.nil (TabDOk.cons n199 g199_ok (TabDOk.cons n202 g202_ok TabDOk.nil))
theorem cx155 : Ctx PR e155 [] (fun _ => none) 2000 155 := ctx_of e155_ok mixed (fn := Go.Proofs.Tryz.f155) (by kernel_rfl) (by kernel_rfl) (by kernel_rfl) (tabOk_none _)
theorem n155 : Enters PR 155 := enters_of (fn := Go.Proofs.Tryz.f155) (by kernel_rfl) (by kernel_rfl) (by kernel_rfl)
noncomputable def g155 : List AV → Option (Bool × AV) := (inlineC PR e155 4 2000 155)
theorem g155_ok : CallOk PR 155 g155 := (.inl ⟨n155, inlineC_ok cx155 rfl rfl⟩)

/-! reliquary/point.above2 -/
noncomputable def e156 : Env := envD eqsT [(152, g152)] [] [] [] [9] false []
theorem e156_ok : EnvOk PR e156 := envD_ok eqsT_ok (TabPOk.cons g152_ok TabPOk.nil) TabHOk.nil TabLOk.nil TabDOk.nil
theorem cx156 : Ctx PR e156 [] (fun _ => none) 2000 156 := ctx_of e156_ok mixed (fn := Go.Proofs.Tryz.f156) (by kernel_rfl) (by kernel_rfl) (by kernel_rfl) (tabOk_none _)
theorem n156 : Enters PR 156 := enters_of (fn := Go.Proofs.Tryz.f156) (by kernel_rfl) (by kernel_rfl) (by kernel_rfl)
noncomputable def g156 : List AV → Option (Bool × AV) := (inlineC PR e156 5 2000 156)
theorem g156_ok : CallOk PR 156 g156 := (.inl ⟨n156, inlineC_ok cx156 rfl rfl⟩)

/-! reliquary/point.Bytes2 -/
noncomputable def e103 : Env := envD eqsT [(155, g155), (156, g156)] [] [] [(55, g55), (151, g151)] [9] false [55]
theorem e103_ok : EnvOk PR e103 := envD_ok eqsT_ok (TabPOk.cons g155_ok (TabPOk.cons g156_ok TabPOk.nil)) TabHOk.nil TabLOk.nil (TabDOk.cons n55 g55_ok (TabDOk.cons n151 g151_ok TabDOk.nil))
theorem cx103 : Ctx PR e103 [] (fun _ => none) 2000 103 := ctx_of e103_ok mixed (fn := Go.Proofs.Tryz.f103) (by kernel_rfl) (by kernel_rfl) (by kernel_rfl) (tabOk_none _)
theorem n103 : Enters PR 103 := enters_of (fn := Go.Proofs.Tryz.f103) (by kernel_rfl) (by kernel_rfl) (by kernel_rfl)
noncomputable def g103 : List AV → AH → Nat → Option (Bool × AV × AH) := deepC PR e103 5 2000 103 4096 true
theorem g103_ok : ActOk PR 4096 103 g103 := deepC_ok cx103 rfl rfl

/-! reliquary/suite.SigBytes -/
noncomputable def e58 : Env := envD eqsT [(102, g102)] [] [] [(101, g101), (103, g103)] [9] false [101, 103]
theorem e58_ok : EnvOk PR e58 := envD_ok eqsT_ok (TabPOk.cons g102_ok TabPOk.nil) TabHOk.nil TabLOk.nil (TabDOk.cons n101 g101_ok (TabDOk.cons n103 g103_ok TabDOk.nil))
theorem cx58 : Ctx PR e58 [] (fun _ => none) 2000 58 := ctx_of e58_ok mixed (fn := Go.Proofs.Tryz.f58) (by kernel_rfl) (by kernel_rfl) (by kernel_rfl) (tabOk_none _)
theorem n58 : Enters PR 58 := enters_of (fn := Go.Proofs.Tryz.f58) (by kernel_rfl) (by kernel_rfl) (by kernel_rfl)
noncomputable def g58 : List AV → AH → Nat → Option (Bool × AV × AH) := deepC PR e58 5 2000 58 4096 true
theorem g58_ok : ActOk PR 4096 58 g58 := deepC_ok cx58 rfl rfl

/-! reliquary/wire.Entry -/
noncomputable def e24 : Env := envD eqsT [(56, g56)] [] [] [(30, g30), (52, g52), (55, g55), (57, g57), (58, g58)] [9] false [30, 55, 57, 58]
theorem e24_ok : EnvOk PR e24 := envD_ok eqsT_ok (TabPOk.cons g56_ok TabPOk.nil) TabHOk.nil TabLOk.nil (TabDOk.cons n30 g30_ok (TabDOk.cons n52 g52_ok (TabDOk.cons n55 g55_ok (TabDOk.cons n57 g57_ok (TabDOk.cons n58 g58_ok TabDOk.nil)))))
theorem cx24 : Ctx PR e24 [] (fun _ => none) 2000 24 := ctx_of e24_ok mixed (fn := Go.Proofs.Tryz.f24) (by kernel_rfl) (by kernel_rfl) (by kernel_rfl) (tabOk_none _)
theorem n24 : Enters PR 24 := enters_of (fn := Go.Proofs.Tryz.f24) (by kernel_rfl) (by kernel_rfl) (by kernel_rfl)
noncomputable def g24 : List AV → AH → Nat → Option (Bool × AV × AH) := deepC PR e24 8 2000 24 4096 true
theorem g24_ok : ActOk PR 4096 24 g24 := deepC_ok cx24 rfl rfl
end Go.Rq.Cl
