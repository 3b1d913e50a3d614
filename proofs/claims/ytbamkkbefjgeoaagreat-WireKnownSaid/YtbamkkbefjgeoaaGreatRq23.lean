/- A closed law's functions, each gone through where it is called. Written by a program of ours. -/
import Derived.Test.YtbamkkbefjgeoaaGreatRq22
namespace Go.Rq.Cl
open Go Go.Proofs Go.Rq Go.Rq.Sm

/-! slices.Clone[[]byte,byte] -/
noncomputable def e59 : Env := envD eqsT [] [] [] [] [9] false []
theorem e59_ok : EnvOk PR e59 := envD_ok eqsT_ok TabPOk.nil TabHOk.nil TabLOk.nil TabDOk.nil
theorem cx59 : Ctx PR e59 [] (fun _ => none) 2000 59 := ctx_of e59_ok mixed (fn := Go.Proofs.Tryz.f59) (by kernel_rfl) (by kernel_rfl) (by kernel_rfl) (tabOk_none _)
theorem n59 : Enters PR 59 := enters_of (fn := Go.Proofs.Tryz.f59) (by kernel_rfl) (by kernel_rfl) (by kernel_rfl)
noncomputable def g59 : List AV → AH → Nat → Option (Bool × AV × AH) := deepC PR e59 3 2000 59 4096 true
theorem g59_ok : ActOk PR 4096 59 g59 := deepC_ok cx59 rfl rfl

/-! (*reliquary/wire.reader).text -/
noncomputable def e60 : Env := envD eqsT [] [] [] [(53, g53), (99, g99)] [9] false []
theorem e60_ok : EnvOk PR e60 := envD_ok eqsT_ok TabPOk.nil TabHOk.nil TabLOk.nil (TabDOk.cons n53 g53_ok (TabDOk.cons n99 g99_ok TabDOk.nil))
theorem cx60 : Ctx PR e60 [] (fun _ => none) 2000 60 := ctx_of e60_ok mixed (fn := Go.Proofs.Tryz.f60) (by kernel_rfl) (by kernel_rfl) (by kernel_rfl) (tabOk_none _)
theorem n60 : Enters PR 60 := enters_of (fn := Go.Proofs.Tryz.f60) (by kernel_rfl) (by kernel_rfl) (by kernel_rfl)
noncomputable def g60 : List AV → AH → Nat → Option (Bool × AV × AH) := slimG 4096 (deepC PR e60 4 2000 60 4096 false)
theorem g60_ok : ActOk PR 4096 60 g60 := slimG_ok (deepC_ok cx60 rfl rfl)

/-! reliquary/wire.ReadFields -/
noncomputable def e25 : Env := envD eqsT [] [] [] [(53, g53), (54, g54), (59, g59), (60, g60)] [9] false [59]
theorem e25_ok : EnvOk PR e25 := envD_ok eqsT_ok TabPOk.nil TabHOk.nil TabLOk.nil (TabDOk.cons n53 g53_ok (TabDOk.cons n54 g54_ok (TabDOk.cons n59 g59_ok (TabDOk.cons n60 g60_ok TabDOk.nil))))
theorem cx25 : Ctx PR e25 [] (fun _ => none) 2000 25 := ctx_of e25_ok mixed (fn := Go.Proofs.Tryz.f25) (by kernel_rfl) (by kernel_rfl) (by kernel_rfl) (tabOk_none _)
theorem n25 : Enters PR 25 := enters_of (fn := Go.Proofs.Tryz.f25) (by kernel_rfl) (by kernel_rfl) (by kernel_rfl)
noncomputable def g25 : List AV → AH → Nat → Option (Bool × AV × AH) := deepC PR e25 6 2000 25 4096 true
theorem g25_ok : ActOk PR 4096 25 g25 := deepC_ok cx25 rfl rfl

/-! reliquary/wire.sizes -/
noncomputable def e104 : Env := envD eqsT [] [] [] [] [9] false []
theorem e104_ok : EnvOk PR e104 := envD_ok eqsT_ok TabPOk.nil TabHOk.nil TabLOk.nil TabDOk.nil
theorem cx104 : Ctx PR e104 [] (fun _ => none) 2000 104 := ctx_of e104_ok mixed (fn := Go.Proofs.Tryz.f104) (by kernel_rfl) (by kernel_rfl) (by kernel_rfl) (tabOk_none _)
theorem n104 : Enters PR 104 := enters_of (fn := Go.Proofs.Tryz.f104) (by kernel_rfl) (by kernel_rfl) (by kernel_rfl)
noncomputable def g104 : List AV → Option (Bool × AV) := (inlineC PR e104 3 2000 104)
theorem g104_ok : CallOk PR 104 g104 := (.inl ⟨n104, inlineC_ok cx104 rfl rfl⟩)

/-! reliquary/words.Read -/
noncomputable def e105 : Env := envD eqsT [] [] [] [] [9] false []
theorem e105_ok : EnvOk PR e105 := envD_ok eqsT_ok TabPOk.nil TabHOk.nil TabLOk.nil TabDOk.nil
theorem cx105 : Ctx PR e105 [] (fun _ => none) 2000 105 := ctx_of e105_ok mixed (fn := Go.Proofs.Tryz.f105) (by kernel_rfl) (by kernel_rfl) (by kernel_rfl) (tabOk_none _)
theorem n105 : Enters PR 105 := enters_of (fn := Go.Proofs.Tryz.f105) (by kernel_rfl) (by kernel_rfl) (by kernel_rfl)
noncomputable def g105 : List AV → AH → Nat → Option (Bool × AV × AH) := deepC PR e105 6 2000 105 4096 true
theorem g105_ok : ActOk PR 4096 105 g105 := deepC_ok cx105 rfl rfl

/-! reliquary/mont.From -/
noncomputable def e179 : Env := envD eqsT [(182, g182)] [] [] [] [9] false []
theorem e179_ok : EnvOk PR e179 := envD_ok eqsT_ok (TabPOk.cons g182_ok TabPOk.nil) TabHOk.nil TabLOk.nil TabDOk.nil
theorem cx179 : Ctx PR e179 [] (fun _ => none) 2000 179 := ctx_of e179_ok mixed (fn := Go.Proofs.Tryz.f179) (by kernel_rfl) (by kernel_rfl) (by kernel_rfl) (tabOk_none _)
theorem n179 : Enters PR 179 := enters_of (fn := Go.Proofs.Tryz.f179) (by kernel_rfl) (by kernel_rfl) (by kernel_rfl)
noncomputable def g179 : List AV → Option (Bool × AV) := (inlineC PR e179 3 2000 179)
theorem g179_ok : CallOk PR 179 g179 := (.inl ⟨n179, inlineC_ok cx179 rfl rfl⟩)

/-! reliquary/curve.out1 -/
noncomputable def e131 : Env := envD eqsT [(179, g179)] [] [] [] [9] false []
theorem e131_ok : EnvOk PR e131 := envD_ok eqsT_ok (TabPOk.cons g179_ok TabPOk.nil) TabHOk.nil TabLOk.nil TabDOk.nil
theorem cx131 : Ctx PR e131 [] (fun _ => none) 2000 131 := ctx_of e131_ok mixed (fn := Go.Proofs.Tryz.f131) (by kernel_rfl) (by kernel_rfl) (by kernel_rfl) (tabOk_none _)
theorem n131 : Enters PR 131 := enters_of (fn := Go.Proofs.Tryz.f131) (by kernel_rfl) (by kernel_rfl) (by kernel_rfl)
noncomputable def g131 : List AV → Option (Bool × AV) := (inlineC PR e131 4 2000 131)
theorem g131_ok : CallOk PR 131 g131 := (.inl ⟨n131, inlineC_ok cx131 rfl rfl⟩)

/-! (reliquary/curve.field[reliquary/mont.El]).neg -/
noncomputable def e133 : Env := envD eqsT [] [] [] [] [9] false []
theorem e133_ok : EnvOk PR e133 := envD_ok eqsT_ok TabPOk.nil TabHOk.nil TabLOk.nil TabDOk.nil
theorem cx133 : Ctx PR e133 [] (fun _ => none) 2000 133 := ctx_of e133_ok mixed (fn := Go.Proofs.Tryz.f133) (by kernel_rfl) (by kernel_rfl) (by kernel_rfl) (tabOk_none _)
theorem n133 : Enters PR 133 := enters_of (fn := Go.Proofs.Tryz.f133) (by kernel_rfl) (by kernel_rfl) (by kernel_rfl)
noncomputable def g133 : List AV → AH → Nat → Option (Bool × AV × AH) := deepC PR e133 4 2000 133 4096 true
theorem g133_ok : ActOk PR 4096 133 g133 := deepC_ok cx133 rfl rfl

/-! reliquary/curve.Neg1 -/
noncomputable def e83 : Env := envD eqsT [(130, g130), (131, g131), (134, g134)] [] [] [(132, g132), (133, g133)] [9] false [132, 133]
theorem e83_ok : EnvOk PR e83 := envD_ok eqsT_ok (TabPOk.cons g130_ok (TabPOk.cons g131_ok (TabPOk.cons g134_ok TabPOk.nil))) TabHOk.nil TabLOk.nil (TabDOk.cons n132 g132_ok (TabDOk.cons n133 g133_ok TabDOk.nil))
theorem cx83 : Ctx PR e83 [] (fun _ => none) 2000 83 := ctx_of e83_ok mixed (fn := Go.Proofs.Tryz.f83) (by kernel_rfl) (by kernel_rfl) (by kernel_rfl) (tabOk_none _)
theorem n83 : Enters PR 83 := enters_of (fn := Go.Proofs.Tryz.f83) (by kernel_rfl) (by kernel_rfl) (by kernel_rfl)
noncomputable def g83 : List AV → Option (Bool × AV) := (inlineC PR e83 4 2000 83)
theorem g83_ok : CallOk PR 83 g83 := (.inl ⟨n83, inlineC_ok cx83 rfl rfl⟩)

/-! bytes.Clone -/
noncomputable def e236 : Env := envD eqsT [] [] [] [] [9] false []
theorem e236_ok : EnvOk PR e236 := envD_ok eqsT_ok TabPOk.nil TabHOk.nil TabLOk.nil TabDOk.nil
theorem cx236 : Ctx PR e236 [] (fun _ => none) 2000 236 := ctx_of e236_ok mixed (fn := Go.Proofs.Tryz.f236) (by kernel_rfl) (by kernel_rfl) (by kernel_rfl) (tabOk_none _)
theorem n236 : Enters PR 236 := enters_of (fn := Go.Proofs.Tryz.f236) (by kernel_rfl) (by kernel_rfl) (by kernel_rfl)
noncomputable def g236 : List AV → AH → Nat → Option (Bool × AV × AH) := deepC PR e236 3 2000 236 4096 true
theorem g236_ok : ActOk PR 4096 236 g236 := deepC_ok cx236 rfl rfl

/-! reliquary/point.bare -/
noncomputable def e203 : Env := envD eqsT [] [] [] [(236, g236)] [9] false [236]
theorem e203_ok : EnvOk PR e203 := envD_ok eqsT_ok TabPOk.nil TabHOk.nil TabLOk.nil (TabDOk.cons n236 g236_ok TabDOk.nil)
theorem cx203 : Ctx PR e203 [] (fun _ => none) 2000 203 := ctx_of e203_ok mixed (fn := Go.Proofs.Tryz.f203) (by kernel_rfl) (by kernel_rfl) (by kernel_rfl) (tabOk_none _)
theorem n203 : Enters PR 203 := enters_of (fn := Go.Proofs.Tryz.f203) (by kernel_rfl) (by kernel_rfl) (by kernel_rfl)
noncomputable def g203 : List AV → AH → Nat → Option (Bool × AV × AH) := deepC PR e203 4 2000 203 4096 true
theorem g203_ok : ActOk PR 4096 203 g203 := deepC_ok cx203 rfl rfl

/-! (*reliquary/modulus.Modulus).none -/
noncomputable def e122 : Env := envD eqsT [] [] [] [] [9] false []
theorem e122_ok : EnvOk PR e122 := envD_ok eqsT_ok TabPOk.nil TabHOk.nil TabLOk.nil TabDOk.nil
theorem cx122 : Ctx PR e122 [] (fun _ => none) 2000 122 := ctx_of e122_ok mixed (fn := Go.Proofs.Tryz.f122) (by kernel_rfl) (by kernel_rfl) (by kernel_rfl) (tabOk_none _)
theorem n122 : Enters PR 122 := enters_of (fn := Go.Proofs.Tryz.f122) (by kernel_rfl) (by kernel_rfl) (by kernel_rfl)
noncomputable def g122 : List AV → AH → Nat → Option (Bool × AV × AH) := deepC PR e122 4 2000 122 4096 true
theorem g122_ok : ActOk PR 4096 122 g122 := deepC_ok cx122 rfl rfl

/-! reliquary/words.Sub -/
noncomputable def e123 : Env := envD eqsT [(174, (fn3 kU kU kBit kUB sub64))] [] [] [] [9] false []
theorem e123_ok : EnvOk PR e123 := envD_ok eqsT_ok (TabPOk.cons sub64_ok TabPOk.nil) TabHOk.nil TabLOk.nil TabDOk.nil
theorem cx123 : Ctx PR e123 [] (fun _ => none) 2000 123 := ctx_of e123_ok mixed (fn := Go.Proofs.Tryz.f123) (by kernel_rfl) (by kernel_rfl) (by kernel_rfl) (tabOk_none _)
theorem n123 : Enters PR 123 := enters_of (fn := Go.Proofs.Tryz.f123) (by kernel_rfl) (by kernel_rfl) (by kernel_rfl)
noncomputable def g123 : List AV → Option (Bool × AV) := (inlineC PR e123 5 2000 123)
theorem g123_ok : CallOk PR 123 g123 := (.inl ⟨n123, inlineC_ok cx123 rfl rfl⟩)

/-! (*reliquary/modulus.Modulus).less -/
noncomputable def e177 : Env := envD eqsT [(123, g123)] [] [] [] [9] false []
theorem e177_ok : EnvOk PR e177 := envD_ok eqsT_ok (TabPOk.cons g123_ok TabPOk.nil) TabHOk.nil TabLOk.nil TabDOk.nil
theorem cx177 : Ctx PR e177 [] (fun _ => none) 2000 177 := ctx_of e177_ok mixed (fn := Go.Proofs.Tryz.f177) (by kernel_rfl) (by kernel_rfl) (by kernel_rfl) (tabOk_none _)
theorem n177 : Enters PR 177 := enters_of (fn := Go.Proofs.Tryz.f177) (by kernel_rfl) (by kernel_rfl) (by kernel_rfl)
noncomputable def g177 : List AV → AH → Nat → Option (Bool × AV × AH) := deepC PR e177 5 2000 177 4096 true
theorem g177_ok : ActOk PR 4096 177 g177 := deepC_ok cx177 rfl rfl

/-! (*reliquary/modulus.Modulus).mont -/
noncomputable def e129 : Env := envD eqsT [(172, (fn2 kU kU kUU mul64)), (175, (fn3 kU kU kBit kUB add64))] [] [] [(177, g177)] [9] false [177]
theorem e129_ok : EnvOk PR e129 := envD_ok eqsT_ok (TabPOk.cons mul64_ok (TabPOk.cons add64_ok TabPOk.nil)) TabHOk.nil TabLOk.nil (TabDOk.cons n177 g177_ok TabDOk.nil)
theorem cx129 : Ctx PR e129 [] (fun _ => none) 2000 129 := ctx_of e129_ok mixed (fn := Go.Proofs.Tryz.f129) (by kernel_rfl) (by kernel_rfl) (by kernel_rfl) (tabOk_none _)
theorem n129 : Enters PR 129 := enters_of (fn := Go.Proofs.Tryz.f129) (by kernel_rfl) (by kernel_rfl) (by kernel_rfl)
noncomputable def g129 : List AV → AH → Nat → Option (Bool × AV × AH) := deepC PR e129 8 2000 129 4096 true
theorem g129_ok : ActOk PR 4096 129 g129 := deepC_ok cx129 rfl rfl

/-! (*reliquary/modulus.Modulus).Mul -/
noncomputable def e82 : Env := envD eqsT [] [] [] [(122, g122), (129, g129)] [9] false [122, 129]
theorem e82_ok : EnvOk PR e82 := envD_ok eqsT_ok TabPOk.nil TabHOk.nil TabLOk.nil (TabDOk.cons n122 g122_ok (TabDOk.cons n129 g129_ok TabDOk.nil))
theorem cx82 : Ctx PR e82 [] (fun _ => none) 2000 82 := ctx_of e82_ok mixed (fn := Go.Proofs.Tryz.f82) (by kernel_rfl) (by kernel_rfl) (by kernel_rfl) (tabOk_none _)
theorem n82 : Enters PR 82 := enters_of (fn := Go.Proofs.Tryz.f82) (by kernel_rfl) (by kernel_rfl) (by kernel_rfl)
noncomputable def g82 : List AV → AH → Nat → Option (Bool × AV × AH) := deepC PR e82 5 2000 82 4096 true
theorem g82_ok : ActOk PR 4096 82 g82 := deepC_ok cx82 rfl rfl

/-! reliquary/modulus.New -/
noncomputable def e126 : Env := envD eqsT [(36, (fn2 c6.agg c6.agg (kInt .i64) fun a b => chainV (cmpL a b) 0)), (111, (fn1 kU c6.agg ofW)), (127, g127), (176, (fn1 c6.agg (kInt .i64) lenI))] [] [] [(177, g177)] [9] false [177]
theorem e126_ok : EnvOk PR e126 := envD_ok eqsT_ok (TabPOk.cons cmp_ok (TabPOk.cons of_ok (TabPOk.cons g127_ok (TabPOk.cons len_ok TabPOk.nil)))) TabHOk.nil TabLOk.nil (TabDOk.cons n177 g177_ok TabDOk.nil)
theorem cx126 : Ctx PR e126 [] (fun _ => none) 2000 126 := ctx_of e126_ok mixed (fn := Go.Proofs.Tryz.f126) (by kernel_rfl) (by kernel_rfl) (by kernel_rfl) (tabOk_none _)
theorem n126 : Enters PR 126 := enters_of (fn := Go.Proofs.Tryz.f126) (by kernel_rfl) (by kernel_rfl) (by kernel_rfl)
noncomputable def g126 : List AV → AH → Nat → Option (Bool × AV × AH) := deepC PR e126 6 2000 126 4096 true
theorem g126_ok : ActOk PR 4096 126 g126 := deepC_ok cx126 rfl rfl

/-! reliquary/point.base -/
noncomputable def e237 : Env := envD eqsT [(197, g197)] [] [] [(126, g126)] [9] false [126]
theorem e237_ok : EnvOk PR e237 := envD_ok eqsT_ok (TabPOk.cons g197_ok TabPOk.nil) TabHOk.nil TabLOk.nil (TabDOk.cons n126 g126_ok TabDOk.nil)
theorem cx237 : Ctx PR e237 [] (fun _ => none) 2000 237 := ctx_of e237_ok mixed (fn := Go.Proofs.Tryz.f237) (by kernel_rfl) (by kernel_rfl) (by kernel_rfl) (tabOk_none _)
theorem n237 : Enters PR 237 := enters_of (fn := Go.Proofs.Tryz.f237) (by kernel_rfl) (by kernel_rfl) (by kernel_rfl)
noncomputable def g237 : List AV → AH → Nat → Option (Bool × AV × AH) := deepC PR e237 4 2000 237 4096 true
theorem g237_ok : ActOk PR 4096 237 g237 := deepC_ok cx237 rfl rfl

/-! (*reliquary/modulus.Modulus).Reduce -/
noncomputable def e124 : Env := envD eqsT [(36, (fn2 c6.agg c6.agg (kInt .i64) fun a b => chainV (cmpL a b) 0)), (111, (fn1 kU c6.agg ofW))] [] [] [(122, g122), (129, g129)] [9] false [122, 129]
theorem e124_ok : EnvOk PR e124 := envD_ok eqsT_ok (TabPOk.cons cmp_ok (TabPOk.cons of_ok TabPOk.nil)) TabHOk.nil TabLOk.nil (TabDOk.cons n122 g122_ok (TabDOk.cons n129 g129_ok TabDOk.nil))
theorem cx124 : Ctx PR e124 [] (fun _ => none) 2000 124 := ctx_of e124_ok mixed (fn := Go.Proofs.Tryz.f124) (by kernel_rfl) (by kernel_rfl) (by kernel_rfl) (tabOk_none _)
theorem n124 : Enters PR 124 := enters_of (fn := Go.Proofs.Tryz.f124) (by kernel_rfl) (by kernel_rfl) (by kernel_rfl)
noncomputable def g124 : List AV → AH → Nat → Option (Bool × AV × AH) := deepC PR e124 5 2000 124 4096 true
theorem g124_ok : ActOk PR 4096 124 g124 := deepC_ok cx124 rfl rfl

/-! reliquary/words.Add -/
noncomputable def e125 : Env := envD eqsT [(175, (fn3 kU kU kBit kUB add64))] [] [] [] [9] false []
theorem e125_ok : EnvOk PR e125 := envD_ok eqsT_ok (TabPOk.cons add64_ok TabPOk.nil) TabHOk.nil TabLOk.nil TabDOk.nil
theorem cx125 : Ctx PR e125 [] (fun _ => none) 2000 125 := ctx_of e125_ok mixed (fn := Go.Proofs.Tryz.f125) (by kernel_rfl) (by kernel_rfl) (by kernel_rfl) (tabOk_none _)
theorem n125 : Enters PR 125 := enters_of (fn := Go.Proofs.Tryz.f125) (by kernel_rfl) (by kernel_rfl) (by kernel_rfl)
noncomputable def g125 : List AV → Option (Bool × AV) := (inlineC PR e125 5 2000 125)
theorem g125_ok : CallOk PR 125 g125 := (.inl ⟨n125, inlineC_ok cx125 rfl rfl⟩)

/-! (*reliquary/modulus.Modulus).Pow -/
noncomputable def e257 : Env := envD eqsT [(111, (fn1 kU c6.agg ofW)), (176, (fn1 c6.agg (kInt .i64) lenI)), (246, (fn2 c6.agg (kInt .i64) (kInt .i64) bitI))] [] [] [(122, g122), (129, g129)] [9] false [122, 129]
theorem e257_ok : EnvOk PR e257 := envD_ok eqsT_ok (TabPOk.cons of_ok (TabPOk.cons len_ok (TabPOk.cons bit_ok TabPOk.nil))) TabHOk.nil TabLOk.nil (TabDOk.cons n122 g122_ok (TabDOk.cons n129 g129_ok TabDOk.nil))
theorem cx257 : Ctx PR e257 [] (fun _ => none) 2000 257 := ctx_of e257_ok mixed (fn := Go.Proofs.Tryz.f257) (by kernel_rfl) (by kernel_rfl) (by kernel_rfl) (tabOk_none _)
theorem n257 : Enters PR 257 := enters_of (fn := Go.Proofs.Tryz.f257) (by kernel_rfl) (by kernel_rfl) (by kernel_rfl)
noncomputable def g257 : List AV → AH → Nat → Option (Bool × AV × AH) := deepC PR e257 6 2000 257 4096 true
theorem g257_ok : ActOk PR 4096 257 g257 := deepC_ok cx257 rfl rfl

/-! (*reliquary/modulus.Modulus).Sub -/
noncomputable def e78 : Env := envD eqsT [(123, g123), (125, g125)] [] [] [(122, g122), (124, g124)] [9] false [122, 124]
theorem e78_ok : EnvOk PR e78 := envD_ok eqsT_ok (TabPOk.cons g123_ok (TabPOk.cons g125_ok TabPOk.nil)) TabHOk.nil TabLOk.nil (TabDOk.cons n122 g122_ok (TabDOk.cons n124 g124_ok TabDOk.nil))
theorem cx78 : Ctx PR e78 [] (fun _ => none) 2000 78 := ctx_of e78_ok mixed (fn := Go.Proofs.Tryz.f78) (by kernel_rfl) (by kernel_rfl) (by kernel_rfl) (tabOk_none _)
theorem n78 : Enters PR 78 := enters_of (fn := Go.Proofs.Tryz.f78) (by kernel_rfl) (by kernel_rfl) (by kernel_rfl)
noncomputable def g78 : List AV → AH → Nat → Option (Bool × AV × AH) := deepC PR e78 6 2000 78 4096 true
theorem g78_ok : ActOk PR 4096 78 g78 := deepC_ok cx78 rfl rfl

/-! (*reliquary/modulus.Modulus).Neg -/
noncomputable def e258 : Env := envD eqsT [] [] [] [(78, g78)] [9] false [78]
theorem e258_ok : EnvOk PR e258 := envD_ok eqsT_ok TabPOk.nil TabHOk.nil TabLOk.nil (TabDOk.cons n78 g78_ok TabDOk.nil)
theorem cx258 : Ctx PR e258 [] (fun _ => none) 2000 258 := ctx_of e258_ok mixed (fn := Go.Proofs.Tryz.f258) (by kernel_rfl) (by kernel_rfl) (by kernel_rfl) (tabOk_none _)
theorem n258 : Enters PR 258 := enters_of (fn := Go.Proofs.Tryz.f258) (by kernel_rfl) (by kernel_rfl) (by kernel_rfl)
noncomputable def g258 : List AV → AH → Nat → Option (Bool × AV × AH) := deepC PR e258 4 2000 258 4096 true
theorem g258_ok : ActOk PR 4096 258 g258 := deepC_ok cx258 rfl rfl

/-! (*reliquary/modulus.Modulus).Root -/
noncomputable def e238 : Env := envD eqsT [(36, (fn2 c6.agg c6.agg (kInt .i64) fun a b => chainV (cmpL a b) 0)), (111, (fn1 kU c6.agg ofW)), (125, g125), (127, g127)] [] [] [(82, g82), (122, g122), (124, g124), (257, g257), (258, g258)] [9] false [82, 122, 124, 257, 258]
theorem e238_ok : EnvOk PR e238 := envD_ok eqsT_ok (TabPOk.cons cmp_ok (TabPOk.cons of_ok (TabPOk.cons g125_ok (TabPOk.cons g127_ok TabPOk.nil)))) TabHOk.nil TabLOk.nil (TabDOk.cons n82 g82_ok (TabDOk.cons n122 g122_ok (TabDOk.cons n124 g124_ok (TabDOk.cons n257 g257_ok (TabDOk.cons n258 g258_ok TabDOk.nil)))))
theorem cx238 : Ctx PR e238 [] (fun _ => none) 2000 238 := ctx_of e238_ok mixed (fn := Go.Proofs.Tryz.f238) (by kernel_rfl) (by kernel_rfl) (by kernel_rfl) (tabOk_none _)
theorem n238 : Enters PR 238 := enters_of (fn := Go.Proofs.Tryz.f238) (by kernel_rfl) (by kernel_rfl) (by kernel_rfl)
noncomputable def g238 : List AV → AH → Nat → Option (Bool × AV × AH) := deepC PR e238 6 2000 238 4096 true
theorem g238_ok : ActOk PR 4096 238 g238 := deepC_ok cx238 rfl rfl

/-! (*reliquary/modulus.Modulus).Add -/
noncomputable def e239 : Env := envD eqsT [(125, g125)] [] [] [(122, g122), (124, g124), (177, g177)] [9] false [122, 124, 177]
theorem e239_ok : EnvOk PR e239 := envD_ok eqsT_ok (TabPOk.cons g125_ok TabPOk.nil) TabHOk.nil TabLOk.nil (TabDOk.cons n122 g122_ok (TabDOk.cons n124 g124_ok (TabDOk.cons n177 g177_ok TabDOk.nil)))
theorem cx239 : Ctx PR e239 [] (fun _ => none) 2000 239 := ctx_of e239_ok mixed (fn := Go.Proofs.Tryz.f239) (by kernel_rfl) (by kernel_rfl) (by kernel_rfl) (tabOk_none _)
theorem n239 : Enters PR 239 := enters_of (fn := Go.Proofs.Tryz.f239) (by kernel_rfl) (by kernel_rfl) (by kernel_rfl)
noncomputable def g239 : List AV → AH → Nat → Option (Bool × AV × AH) := deepC PR e239 5 2000 239 4096 true
theorem g239_ok : ActOk PR 4096 239 g239 := deepC_ok cx239 rfl rfl

/-! reliquary/point.at1 -/
noncomputable def e204 : Env := envD eqsT [(111, (fn1 kU c6.agg ofW))] [] [] [(82, g82), (237, g237), (238, g238), (239, g239)] [9] false [82, 237, 238, 239]
theorem e204_ok : EnvOk PR e204 := envD_ok eqsT_ok (TabPOk.cons of_ok TabPOk.nil) TabHOk.nil TabLOk.nil (TabDOk.cons n82 g82_ok (TabDOk.cons n237 g237_ok (TabDOk.cons n238 g238_ok (TabDOk.cons n239 g239_ok TabDOk.nil))))
theorem cx204 : Ctx PR e204 [] (fun _ => none) 2000 204 := ctx_of e204_ok mixed (fn := Go.Proofs.Tryz.f204) (by kernel_rfl) (by kernel_rfl) (by kernel_rfl) (tabOk_none _)
theorem n204 : Enters PR 204 := enters_of (fn := Go.Proofs.Tryz.f204) (by kernel_rfl) (by kernel_rfl) (by kernel_rfl)
noncomputable def g204 : List AV → Option (Bool × AV) := (inlineC PR e204 5 2000 204)
theorem g204_ok : CallOk PR 204 g204 := (.inl ⟨n204, inlineC_ok cx204 rfl rfl⟩)

/-! bytes.Equal -/
noncomputable def e205 : Env := envD eqsT [] [] [] [] [9] false []
theorem e205_ok : EnvOk PR e205 := envD_ok eqsT_ok TabPOk.nil TabHOk.nil TabLOk.nil TabDOk.nil
theorem cx205 : Ctx PR e205 [] (fun _ => none) 2000 205 := ctx_of e205_ok mixed (fn := Go.Proofs.Tryz.f205) (by kernel_rfl) (by kernel_rfl) (by kernel_rfl) (tabOk_none _)
theorem n205 : Enters PR 205 := enters_of (fn := Go.Proofs.Tryz.f205) (by kernel_rfl) (by kernel_rfl) (by kernel_rfl)
noncomputable def g205 : List AV → AH → Nat → Option (Bool × AV × AH) := deepC PR e205 4 2000 205 4096 true
theorem g205_ok : ActOk PR 4096 205 g205 := deepC_ok cx205 rfl rfl

/-! reliquary/point.Read1 -/
noncomputable def e157 : Env := envD eqsT [(36, (fn2 c6.agg c6.agg (kInt .i64) fun a b => chainV (cmpL a b) 0)), (83, g83), (108, g108), (197, g197), (204, g204)] [] [] [(100, g100), (105, g105), (203, g203), (205, g205)] [9] false [100, 105, 203, 205]
theorem e157_ok : EnvOk PR e157 := envD_ok eqsT_ok (TabPOk.cons cmp_ok (TabPOk.cons g83_ok (TabPOk.cons g108_ok (TabPOk.cons g197_ok (TabPOk.cons g204_ok TabPOk.nil))))) TabHOk.nil TabLOk.nil (TabDOk.cons n100 g100_ok (TabDOk.cons n105 g105_ok (TabDOk.cons n203 g203_ok (TabDOk.cons n205 g205_ok TabDOk.nil))))
theorem cx157 : Ctx PR e157 [] (fun _ => none) 2000 157 := ctx_of e157_ok mixed (fn := Go.Proofs.Tryz.f157) (by kernel_rfl) (by kernel_rfl) (by kernel_rfl) (tabOk_none _)
theorem n157 : Enters PR 157 := enters_of (fn := Go.Proofs.Tryz.f157) (by kernel_rfl) (by kernel_rfl) (by kernel_rfl)
noncomputable def g157 : List AV → AH → Nat → Option (Bool × AV × AH) := deepC PR e157 7 2000 157 4096 true
theorem g157_ok : ActOk PR 4096 157 g157 := deepC_ok cx157 rfl rfl

/-! reliquary/little.Read -/
noncomputable def e158 : Env := envD eqsT [(163, (fn2 kCv cLp.agg kBool inF)), (165, (fn2 kCv cLp.agg kBool onF))] [] [] [(112, g112)] [9] false [112]
theorem e158_ok : EnvOk PR e158 := envD_ok eqsT_ok (TabPOk.cons lin_ok (TabPOk.cons lo_ok TabPOk.nil)) TabHOk.nil TabLOk.nil (TabDOk.cons n112 g112_ok TabDOk.nil)
theorem cx158 : Ctx PR e158 [] (fun _ => none) 2000 158 := ctx_of e158_ok mixed (fn := Go.Proofs.Tryz.f158) (by kernel_rfl) (by kernel_rfl) (by kernel_rfl) (tabOk_none _)
theorem n158 : Enters PR 158 := enters_of (fn := Go.Proofs.Tryz.f158) (by kernel_rfl) (by kernel_rfl) (by kernel_rfl)
noncomputable def g158 : List AV → AH → Nat → Option (Bool × AV × AH) := deepC PR e158 7 2000 158 4096 true
theorem g158_ok : ActOk PR 4096 158 g158 := deepC_ok cx158 rfl rfl

/-! reliquary/suite.ReadKey -/
noncomputable def e106 : Env := envD eqsT [(74, g74)] [] [] [(157, g157), (158, g158)] [9] false [157, 158]
theorem e106_ok : EnvOk PR e106 := envD_ok eqsT_ok (TabPOk.cons g74_ok TabPOk.nil) TabHOk.nil TabLOk.nil (TabDOk.cons n157 g157_ok (TabDOk.cons n158 g158_ok TabDOk.nil))
theorem cx106 : Ctx PR e106 [] (fun _ => none) 2000 106 := ctx_of e106_ok mixed (fn := Go.Proofs.Tryz.f106) (by kernel_rfl) (by kernel_rfl) (by kernel_rfl) (tabOk_none _)
theorem n106 : Enters PR 106 := enters_of (fn := Go.Proofs.Tryz.f106) (by kernel_rfl) (by kernel_rfl) (by kernel_rfl)
noncomputable def g106 : List AV → AH → Nat → Option (Bool × AV × AH) := deepC PR e106 6 2000 106 4096 true
theorem g106_ok : ActOk PR 4096 106 g106 := deepC_ok cx106 rfl rfl

/-! reliquary/tower.root -/
noncomputable def e259 : Env := envD eqsT [(111, (fn1 kU c6.agg ofW)), (125, g125), (127, g127), (182, g182), (197, g197), (220, g220)] [] [] [] [9] false []
theorem e259_ok : EnvOk PR e259 := envD_ok eqsT_ok (TabPOk.cons of_ok (TabPOk.cons g125_ok (TabPOk.cons g127_ok (TabPOk.cons g182_ok (TabPOk.cons g197_ok (TabPOk.cons g220_ok TabPOk.nil)))))) TabHOk.nil TabLOk.nil TabDOk.nil
theorem cx259 : Ctx PR e259 [] (fun _ => none) 2000 259 := ctx_of e259_ok mixed (fn := Go.Proofs.Tryz.f259) (by kernel_rfl) (by kernel_rfl) (by kernel_rfl) (tabOk_none _)
theorem n259 : Enters PR 259 := enters_of (fn := Go.Proofs.Tryz.f259) (by kernel_rfl) (by kernel_rfl) (by kernel_rfl)
noncomputable def g259 : List AV → Option (Bool × AV) := (inlineC PR e259 5 2000 259)
theorem g259_ok : CallOk PR 259 g259 := (.inl ⟨n259, inlineC_ok cx259 rfl rfl⟩)

/-! reliquary/mont.From2 -/
noncomputable def e262 : Env := envD eqsT [(179, g179)] [] [] [] [9] false []
theorem e262_ok : EnvOk PR e262 := envD_ok eqsT_ok (TabPOk.cons g179_ok TabPOk.nil) TabHOk.nil TabLOk.nil TabDOk.nil
theorem cx262 : Ctx PR e262 [] (fun _ => none) 2000 262 := ctx_of e262_ok mixed (fn := Go.Proofs.Tryz.f262) (by kernel_rfl) (by kernel_rfl) (by kernel_rfl) (tabOk_none _)
theorem n262 : Enters PR 262 := enters_of (fn := Go.Proofs.Tryz.f262) (by kernel_rfl) (by kernel_rfl) (by kernel_rfl)
noncomputable def g262 : List AV → Option (Bool × AV) := (inlineC PR e262 4 2000 262)
theorem g262_ok : CallOk PR 262 g262 := (.inl ⟨n262, inlineC_ok cx262 rfl rfl⟩)

/-! reliquary/mont.Neg2 -/
noncomputable def e265 : Env := envD eqsT [(261, g261)] [] [] [] [9] false []
theorem e265_ok : EnvOk PR e265 := envD_ok eqsT_ok (TabPOk.cons g261_ok TabPOk.nil) TabHOk.nil TabLOk.nil TabDOk.nil
theorem cx265 : Ctx PR e265 [] (fun _ => none) 2000 265 := ctx_of e265_ok mixed (fn := Go.Proofs.Tryz.f265) (by kernel_rfl) (by kernel_rfl) (by kernel_rfl) (tabOk_none _)
theorem n265 : Enters PR 265 := enters_of (fn := Go.Proofs.Tryz.f265) (by kernel_rfl) (by kernel_rfl) (by kernel_rfl)
noncomputable def g265 : List AV → Option (Bool × AV) := (inlineC PR e265 4 2000 265)
theorem g265_ok : CallOk PR 265 g265 := (.inl ⟨n265, inlineC_ok cx265 rfl rfl⟩)

/-! reliquary/tower.lesser -/
noncomputable def e260 : Env := envD eqsT [(36, (fn2 c6.agg c6.agg (kInt .i64) fun a b => chainV (cmpL a b) 0)), (262, g262), (265, g265)] [] [] [] [9] false []
theorem e260_ok : EnvOk PR e260 := envD_ok eqsT_ok (TabPOk.cons cmp_ok (TabPOk.cons g262_ok (TabPOk.cons g265_ok TabPOk.nil))) TabHOk.nil TabLOk.nil TabDOk.nil
theorem cx260 : Ctx PR e260 [] (fun _ => none) 2000 260 := ctx_of e260_ok mixed (fn := Go.Proofs.Tryz.f260) (by kernel_rfl) (by kernel_rfl) (by kernel_rfl) (tabOk_none _)
theorem n260 : Enters PR 260 := enters_of (fn := Go.Proofs.Tryz.f260) (by kernel_rfl) (by kernel_rfl) (by kernel_rfl)
noncomputable def g260 : List AV → Option (Bool × AV) := (inlineC PR e260 5 2000 260)
theorem g260_ok : CallOk PR 260 g260 := (.inl ⟨n260, inlineC_ok cx260 rfl rfl⟩)

/-! reliquary/tower.Root2 -/
noncomputable def e240 : Env := envD eqsT [(180, g180), (182, g182), (183, g183), (184, g184), (235, g235), (254, g254), (259, g259), (260, g260), (261, g261)] [] [] [] [9] false []
theorem e240_ok : EnvOk PR e240 := envD_ok eqsT_ok (TabPOk.cons g180_ok (TabPOk.cons g182_ok (TabPOk.cons g183_ok (TabPOk.cons g184_ok (TabPOk.cons g235_ok (TabPOk.cons g254_ok (TabPOk.cons g259_ok (TabPOk.cons g260_ok (TabPOk.cons g261_ok TabPOk.nil))))))))) TabHOk.nil TabLOk.nil TabDOk.nil
theorem cx240 : Ctx PR e240 [] (fun _ => none) 2000 240 := ctx_of e240_ok mixed (fn := Go.Proofs.Tryz.f240) (by kernel_rfl) (by kernel_rfl) (by kernel_rfl) (tabOk_none _)
theorem n240 : Enters PR 240 := enters_of (fn := Go.Proofs.Tryz.f240) (by kernel_rfl) (by kernel_rfl) (by kernel_rfl)
noncomputable def g240 : List AV → Option (Bool × AV) := (inlineC PR e240 7 2000 240)
theorem g240_ok : CallOk PR 240 g240 := (.inl ⟨n240, inlineC_ok cx240 rfl rfl⟩)

/-! reliquary/tower.Add2 -/
noncomputable def e241 : Env := envD eqsT [(227, g227), (235, g235), (262, g262)] [] [] [] [9] false []
theorem e241_ok : EnvOk PR e241 := envD_ok eqsT_ok (TabPOk.cons g227_ok (TabPOk.cons g235_ok (TabPOk.cons g262_ok TabPOk.nil))) TabHOk.nil TabLOk.nil TabDOk.nil
theorem cx241 : Ctx PR e241 [] (fun _ => none) 2000 241 := ctx_of e241_ok mixed (fn := Go.Proofs.Tryz.f241) (by kernel_rfl) (by kernel_rfl) (by kernel_rfl) (tabOk_none _)
theorem n241 : Enters PR 241 := enters_of (fn := Go.Proofs.Tryz.f241) (by kernel_rfl) (by kernel_rfl) (by kernel_rfl)
noncomputable def g241 : List AV → Option (Bool × AV) := (inlineC PR e241 4 2000 241)
theorem g241_ok : CallOk PR 241 g241 := (.inl ⟨n241, inlineC_ok cx241 rfl rfl⟩)

/-! reliquary/tower.Mul2 -/
noncomputable def e242 : Env := envD eqsT [(229, g229), (235, g235), (262, g262)] [] [] [] [9] false []
theorem e242_ok : EnvOk PR e242 := envD_ok eqsT_ok (TabPOk.cons g229_ok (TabPOk.cons g235_ok (TabPOk.cons g262_ok TabPOk.nil))) TabHOk.nil TabLOk.nil TabDOk.nil
theorem cx242 : Ctx PR e242 [] (fun _ => none) 2000 242 := ctx_of e242_ok mixed (fn := Go.Proofs.Tryz.f242) (by kernel_rfl) (by kernel_rfl) (by kernel_rfl) (tabOk_none _)
theorem n242 : Enters PR 242 := enters_of (fn := Go.Proofs.Tryz.f242) (by kernel_rfl) (by kernel_rfl) (by kernel_rfl)
noncomputable def g242 : List AV → Option (Bool × AV) := (inlineC PR e242 4 2000 242)
theorem g242_ok : CallOk PR 242 g242 := (.inl ⟨n242, inlineC_ok cx242 rfl rfl⟩)

/-! reliquary/point.at2 -/
noncomputable def e206 : Env := envD eqsT [(111, (fn1 kU c6.agg ofW)), (240, g240), (241, g241), (242, g242)] [] [] [] [9] false []
theorem e206_ok : EnvOk PR e206 := envD_ok eqsT_ok (TabPOk.cons of_ok (TabPOk.cons g240_ok (TabPOk.cons g241_ok (TabPOk.cons g242_ok TabPOk.nil)))) TabHOk.nil TabLOk.nil TabDOk.nil
theorem cx206 : Ctx PR e206 [] (fun _ => none) 2000 206 := ctx_of e206_ok mixed (fn := Go.Proofs.Tryz.f206) (by kernel_rfl) (by kernel_rfl) (by kernel_rfl) (tabOk_none _)
theorem n206 : Enters PR 206 := enters_of (fn := Go.Proofs.Tryz.f206) (by kernel_rfl) (by kernel_rfl) (by kernel_rfl)
noncomputable def g206 : List AV → Option (Bool × AV) := (inlineC PR e206 5 2000 206)
theorem g206_ok : CallOk PR 206 g206 := (.inl ⟨n206, inlineC_ok cx206 rfl rfl⟩)

/-! reliquary/curve.out2 -/
noncomputable def e243 : Env := envD eqsT [(262, g262)] [] [] [] [9] false []
theorem e243_ok : EnvOk PR e243 := envD_ok eqsT_ok (TabPOk.cons g262_ok TabPOk.nil) TabHOk.nil TabLOk.nil TabDOk.nil
theorem cx243 : Ctx PR e243 [] (fun _ => none) 2000 243 := ctx_of e243_ok mixed (fn := Go.Proofs.Tryz.f243) (by kernel_rfl) (by kernel_rfl) (by kernel_rfl) (tabOk_none _)
theorem n243 : Enters PR 243 := enters_of (fn := Go.Proofs.Tryz.f243) (by kernel_rfl) (by kernel_rfl) (by kernel_rfl)
noncomputable def g243 : List AV → Option (Bool × AV) := (inlineC PR e243 4 2000 243)
theorem g243_ok : CallOk PR 243 g243 := (.inl ⟨n243, inlineC_ok cx243 rfl rfl⟩)

/-! (reliquary/curve.field[reliquary/mont.F2]).neg -/
noncomputable def e244 : Env := envD eqsT [] [] [] [] [9] false []
theorem e244_ok : EnvOk PR e244 := envD_ok eqsT_ok TabPOk.nil TabHOk.nil TabLOk.nil TabDOk.nil
theorem cx244 : Ctx PR e244 [] (fun _ => none) 2000 244 := ctx_of e244_ok mixed (fn := Go.Proofs.Tryz.f244) (by kernel_rfl) (by kernel_rfl) (by kernel_rfl) (tabOk_none _)
theorem n244 : Enters PR 244 := enters_of (fn := Go.Proofs.Tryz.f244) (by kernel_rfl) (by kernel_rfl) (by kernel_rfl)
noncomputable def g244 : List AV → AH → Nat → Option (Bool × AV × AH) := deepC PR e244 4 2000 244 4096 true
theorem g244_ok : ActOk PR 4096 244 g244 := deepC_ok cx244 rfl rfl
end Go.Rq.Cl

/- A closed law's functions, each gone through where it is called. Written by a program of ours. -/
namespace Go.Rq.Cl
open Go Go.Proofs Go.Rq Go.Rq.Sm

/-! reliquary/curve.Neg2 -/
noncomputable def e207 : Env := envD eqsT [(155, g155), (201, g201), (243, g243)] [] [] [(199, g199), (244, g244)] [9] false [199, 244]
theorem e207_ok : EnvOk PR e207 := envD_ok eqsT_ok (TabPOk.cons g155_ok (TabPOk.cons g201_ok (TabPOk.cons g243_ok TabPOk.nil))) TabHOk.nil TabLOk.nil (TabDOk.cons n199 g199_ok (TabDOk.cons n244 g244_ok TabDOk.nil))
theorem cx207 : Ctx PR e207 [] (fun _ => none) 2000 207 := ctx_of e207_ok mixed (fn := Go.Proofs.Tryz.f207) (by kernel_rfl) (by kernel_rfl) (by kernel_rfl) (tabOk_none _)
theorem n207 : Enters PR 207 := enters_of (fn := Go.Proofs.Tryz.f207) (by kernel_rfl) (by kernel_rfl) (by kernel_rfl)
noncomputable def g207 : List AV → Option (Bool × AV) := (inlineC PR e207 4 2000 207)
theorem g207_ok : CallOk PR 207 g207 := (.inl ⟨n207, inlineC_ok cx207 rfl rfl⟩)

/-! reliquary/point.Read2 -/
noncomputable def e159 : Env := envD eqsT [(36, (fn2 c6.agg c6.agg (kInt .i64) fun a b => chainV (cmpL a b) 0)), (154, g154), (197, g197), (206, g206), (207, g207)] [] [] [(103, g103), (105, g105), (203, g203), (205, g205)] [9] false [103, 105, 203, 205]
theorem e159_ok : EnvOk PR e159 := envD_ok eqsT_ok (TabPOk.cons cmp_ok (TabPOk.cons g154_ok (TabPOk.cons g197_ok (TabPOk.cons g206_ok (TabPOk.cons g207_ok TabPOk.nil))))) TabHOk.nil TabLOk.nil (TabDOk.cons n103 g103_ok (TabDOk.cons n105 g105_ok (TabDOk.cons n203 g203_ok (TabDOk.cons n205 g205_ok TabDOk.nil))))
theorem cx159 : Ctx PR e159 [] (fun _ => none) 2000 159 := ctx_of e159_ok mixed (fn := Go.Proofs.Tryz.f159) (by kernel_rfl) (by kernel_rfl) (by kernel_rfl) (tabOk_none _)
theorem n159 : Enters PR 159 := enters_of (fn := Go.Proofs.Tryz.f159) (by kernel_rfl) (by kernel_rfl) (by kernel_rfl)
noncomputable def g159 : List AV → AH → Nat → Option (Bool × AV × AH) := deepC PR e159 7 2000 159 4096 true
theorem g159_ok : ActOk PR 4096 159 g159 := deepC_ok cx159 rfl rfl

/-! reliquary/suite.ReadSig -/
noncomputable def e107 : Env := envD eqsT [(74, g74)] [] [] [(158, g158), (159, g159)] [9] false [158, 159]
theorem e107_ok : EnvOk PR e107 := envD_ok eqsT_ok (TabPOk.cons g74_ok TabPOk.nil) TabHOk.nil TabLOk.nil (TabDOk.cons n158 g158_ok (TabDOk.cons n159 g159_ok TabDOk.nil))
theorem cx107 : Ctx PR e107 [] (fun _ => none) 2000 107 := ctx_of e107_ok mixed (fn := Go.Proofs.Tryz.f107) (by kernel_rfl) (by kernel_rfl) (by kernel_rfl) (tabOk_none _)
theorem n107 : Enters PR 107 := enters_of (fn := Go.Proofs.Tryz.f107) (by kernel_rfl) (by kernel_rfl) (by kernel_rfl)
noncomputable def g107 : List AV → AH → Nat → Option (Bool × AV × AH) := deepC PR e107 6 2000 107 4096 true
theorem g107_ok : ActOk PR 4096 107 g107 := deepC_ok cx107 rfl rfl

/-! (*reliquary/wire.reader).lists -/
noncomputable def e61 : Env := envD eqsT [(56, g56), (104, g104)] [] [] [(53, g53), (99, g99), (105, g105), (106, g106), (107, g107)] [9] false [105, 106, 107]
theorem e61_ok : EnvOk PR e61 := envD_ok eqsT_ok (TabPOk.cons g56_ok (TabPOk.cons g104_ok TabPOk.nil)) TabHOk.nil TabLOk.nil (TabDOk.cons n53 g53_ok (TabDOk.cons n99 g99_ok (TabDOk.cons n105 g105_ok (TabDOk.cons n106 g106_ok (TabDOk.cons n107 g107_ok TabDOk.nil)))))
theorem cx61 : Ctx PR e61 [] (fun _ => none) 2000 61 := ctx_of e61_ok mixed (fn := Go.Proofs.Tryz.f61) (by kernel_rfl) (by kernel_rfl) (by kernel_rfl) (tabOk_none _)
theorem n61 : Enters PR 61 := enters_of (fn := Go.Proofs.Tryz.f61) (by kernel_rfl) (by kernel_rfl) (by kernel_rfl)
noncomputable def g61 : List AV → AH → Nat → Option (Bool × AV × AH) := slimG 4096 (deepC PR e61 8 2000 61 4096 false)
theorem g61_ok : ActOk PR 4096 61 g61 := slimG_ok (deepC_ok cx61 rfl rfl)

/-! reliquary/wire.ReadEntry -/
noncomputable def e26 : Env := envD eqsT [] [] [] [(30, g30), (53, g53), (54, g54), (59, g59), (60, g60), (61, g61)] [9] false [30, 59]
theorem e26_ok : EnvOk PR e26 := envD_ok eqsT_ok TabPOk.nil TabHOk.nil TabLOk.nil (TabDOk.cons n30 g30_ok (TabDOk.cons n53 g53_ok (TabDOk.cons n54 g54_ok (TabDOk.cons n59 g59_ok (TabDOk.cons n60 g60_ok (TabDOk.cons n61 g61_ok TabDOk.nil))))))
theorem cx26 : Ctx PR e26 [] (fun _ => none) 2000 26 := ctx_of e26_ok mixed (fn := Go.Proofs.Tryz.f26) (by kernel_rfl) (by kernel_rfl) (by kernel_rfl) (tabOk_none _)
theorem n26 : Enters PR 26 := enters_of (fn := Go.Proofs.Tryz.f26) (by kernel_rfl) (by kernel_rfl) (by kernel_rfl)
noncomputable def g26 : List AV → AH → Nat → Option (Bool × AV × AH) := deepC PR e26 7 2000 26 4096 true
theorem g26_ok : ActOk PR 4096 26 g26 := deepC_ok cx26 rfl rfl

/-! reliquary/reliquarykit.CopyBytes -/
noncomputable def e27 : Env := envD eqsT [] [] [] [] [9] false []
theorem e27_ok : EnvOk PR e27 := envD_ok eqsT_ok TabPOk.nil TabHOk.nil TabLOk.nil TabDOk.nil
theorem cx27 : Ctx PR e27 [] (fun _ => none) 2000 27 := ctx_of e27_ok mixed (fn := Go.Proofs.Tryz.f27) (by kernel_rfl) (by kernel_rfl) (by kernel_rfl) (tabOk_none _)
theorem n27 : Enters PR 27 := enters_of (fn := Go.Proofs.Tryz.f27) (by kernel_rfl) (by kernel_rfl) (by kernel_rfl)
noncomputable def g27 : List AV → AH → Nat → Option (Bool × AV × AH) := deepC PR e27 3 2000 27 4096 true
theorem g27_ok : ActOk PR 4096 27 g27 := deepC_ok cx27 rfl rfl

/-! reliquary/reliquarykit.SameKeys -/
noncomputable def e10 : Env := envD eqsT [] [] [] [] [9] false []
theorem e10_ok : EnvOk PR e10 := envD_ok eqsT_ok TabPOk.nil TabHOk.nil TabLOk.nil TabDOk.nil
theorem cx10 : Ctx PR e10 [] (fun _ => none) 2000 10 := ctx_of e10_ok mixed (fn := Go.Proofs.Tryz.f10) (by kernel_rfl) (by kernel_rfl) (by kernel_rfl) (tabOk_none _)
theorem n10 : Enters PR 10 := enters_of (fn := Go.Proofs.Tryz.f10) (by kernel_rfl) (by kernel_rfl) (by kernel_rfl)
noncomputable def g10 : List AV → AH → Nat → Option (Bool × AV × AH) := deepC PR e10 5 2000 10 4096 true
theorem g10_ok : ActOk PR 4096 10 g10 := deepC_ok cx10 rfl rfl

/-! reliquary/reliquarykit.SameBytes -/
noncomputable def e29 : Env := envD eqsT [] [] [] [] [9] false []
theorem e29_ok : EnvOk PR e29 := envD_ok eqsT_ok TabPOk.nil TabHOk.nil TabLOk.nil TabDOk.nil
theorem cx29 : Ctx PR e29 [] (fun _ => none) 2000 29 := ctx_of e29_ok mixed (fn := Go.Proofs.Tryz.f29) (by kernel_rfl) (by kernel_rfl) (by kernel_rfl) (tabOk_none _)
theorem n29 : Enters PR 29 := enters_of (fn := Go.Proofs.Tryz.f29) (by kernel_rfl) (by kernel_rfl) (by kernel_rfl)
noncomputable def g29 : List AV → AH → Nat → Option (Bool × AV × AH) := deepC PR e29 4 2000 29 4096 true
theorem g29_ok : ActOk PR 4096 29 g29 := deepC_ok cx29 rfl rfl

/-! reliquary/reliquarykit.SameInts -/
noncomputable def e62 : Env := envD eqsT [] [] [] [] [9] false []
theorem e62_ok : EnvOk PR e62 := envD_ok eqsT_ok TabPOk.nil TabHOk.nil TabLOk.nil TabDOk.nil
theorem cx62 : Ctx PR e62 [] (fun _ => none) 2000 62 := ctx_of e62_ok mixed (fn := Go.Proofs.Tryz.f62) (by kernel_rfl) (by kernel_rfl) (by kernel_rfl) (tabOk_none _)
theorem n62 : Enters PR 62 := enters_of (fn := Go.Proofs.Tryz.f62) (by kernel_rfl) (by kernel_rfl) (by kernel_rfl)
noncomputable def g62 : List AV → AH → Nat → Option (Bool × AV × AH) := deepC PR e62 5 2000 62 4096 true
theorem g62_ok : ActOk PR 4096 62 g62 := deepC_ok cx62 rfl rfl

/-! reliquary/reliquarykit.SameNums -/
noncomputable def e63 : Env := envD eqsT [] [] [] [] [9] false []
theorem e63_ok : EnvOk PR e63 := envD_ok eqsT_ok TabPOk.nil TabHOk.nil TabLOk.nil TabDOk.nil
theorem cx63 : Ctx PR e63 [] (fun _ => none) 2000 63 := ctx_of e63_ok mixed (fn := Go.Proofs.Tryz.f63) (by kernel_rfl) (by kernel_rfl) (by kernel_rfl) (tabOk_none _)
theorem n63 : Enters PR 63 := enters_of (fn := Go.Proofs.Tryz.f63) (by kernel_rfl) (by kernel_rfl) (by kernel_rfl)
noncomputable def g63 : List AV → AH → Nat → Option (Bool × AV × AH) := deepC PR e63 5 2000 63 4096 true
theorem g63_ok : ActOk PR 4096 63 g63 := deepC_ok cx63 rfl rfl

/-! reliquary/reliquarykit.SameEntry -/
noncomputable def e28 : Env := envD eqsT [] [] [] [(10, g10), (29, g29), (62, g62), (63, g63)] [9] false [10, 29, 62, 63]
theorem e28_ok : EnvOk PR e28 := envD_ok eqsT_ok TabPOk.nil TabHOk.nil TabLOk.nil (TabDOk.cons n10 g10_ok (TabDOk.cons n29 g29_ok (TabDOk.cons n62 g62_ok (TabDOk.cons n63 g63_ok TabDOk.nil))))
theorem cx28 : Ctx PR e28 [] (fun _ => none) 2000 28 := ctx_of e28_ok mixed (fn := Go.Proofs.Tryz.f28) (by kernel_rfl) (by kernel_rfl) (by kernel_rfl) (tabOk_none _)
theorem n28 : Enters PR 28 := enters_of (fn := Go.Proofs.Tryz.f28) (by kernel_rfl) (by kernel_rfl) (by kernel_rfl)
noncomputable def g28 : List AV → AH → Nat → Option (Bool × AV × AH) := deepC PR e28 7 2000 28 4096 true
theorem g28_ok : ActOk PR 4096 28 g28 := deepC_ok cx28 rfl rfl

/-! reliquary/reliquarylaw12.WireKnown -/
noncomputable def e5 : Env := envD eqsT [] [] [] [(21, g21), (22, g22), (23, g23), (24, g24), (25, g25), (26, g26), (27, g27), (28, g28), (29, g29), (30, g30)] [9] false [21, 22, 23, 24, 25, 26, 27, 28, 29, 30]
theorem e5_ok : EnvOk PR e5 := envD_ok eqsT_ok TabPOk.nil TabHOk.nil TabLOk.nil (TabDOk.cons n21 g21_ok (TabDOk.cons n22 g22_ok (TabDOk.cons n23 g23_ok (TabDOk.cons n24 g24_ok (TabDOk.cons n25 g25_ok (TabDOk.cons n26 g26_ok (TabDOk.cons n27 g27_ok (TabDOk.cons n28 g28_ok (TabDOk.cons n29 g29_ok (TabDOk.cons n30 g30_ok TabDOk.nil))))))))))
theorem cx5 : Ctx PR e5 [] (fun _ => none) 2000 5 := ctx_of e5_ok mixed (fn := Go.Proofs.Tryz.f5) (by kernel_rfl) (by kernel_rfl) (by kernel_rfl) (tabOk_none _)
theorem n5 : Enters PR 5 := enters_of (fn := Go.Proofs.Tryz.f5) (by kernel_rfl) (by kernel_rfl) (by kernel_rfl)
noncomputable def g5 : List AV → Option (Bool × AV) := (inlineC PR e5 8 2000 5)
theorem g5_ok : CallOk PR 5 g5 := (.inl ⟨n5, inlineC_ok cx5 rfl rfl⟩)
end Go.Rq.Cl

/- The law WireKnown, run through at once. -/
namespace Go.Rq.Cl
open Go Go.Proofs Go.Rq Go.Rq.Sm
theorem law_pure : PureOk PR 5 g5 := inlineC_ok cx5 rfl rfl
set_option maxRecDepth 1000000 in
theorem law_run : g5 [] = some (true, .v (.bool true)) := by kernel_rfl
end Go.Rq.Cl
