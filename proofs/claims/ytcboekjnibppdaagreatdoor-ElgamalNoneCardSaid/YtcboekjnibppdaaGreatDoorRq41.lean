/- A closed law's functions, each gone through where it is called. Written by a program of ours. -/
import Derived.Test.YtcboekjnibppdaaGreatDoorRq38
import Derived.Test.YtcboekjnibppdaaGreatDoorRq39
import Derived.Test.YtcboekjnibppdaaGreatDoorRq40
namespace Go.Rq
open Go Go.Proofs
def md311_2 : MemD := ⟨[.slc 0 0 32 32, .slc 1 0 12 12, .v (.int .u32 0)], [(0, some ⟨false, 236, [.v (.int .u8 13), .v (.int .u8 181), .v (.int .u8 127), .v (.int .u8 239), .v (.int .u8 248), .v (.int .u8 87), .v (.int .u8 22), .v (.int .u8 133), .v (.int .u8 105), .v (.int .u8 105), .v (.int .u8 114), .v (.int .u8 182), .v (.int .u8 148), .v (.int .u8 200), .v (.int .u8 57), .v (.int .u8 248), .v (.int .u8 69), .v (.int .u8 43), .v (.int .u8 144), .v (.int .u8 227), .v (.int .u8 189), .v (.int .u8 233), .v (.int .u8 169), .v (.int .u8 118), .v (.int .u8 175), .v (.int .u8 2), .v (.int .u8 255), .v (.int .u8 213), .v (.int .u8 254), .v (.int .u8 53), .v (.int .u8 101), .v (.int .u8 215)]⟩), (1, some ⟨false, 5, [.v (.int .u8 0), .v (.int .u8 0), .v (.int .u8 0), .v (.int .u8 0), .v (.int .u8 0), .v (.int .u8 0), .v (.int .u8 0), .v (.int .u8 0), .v (.int .u8 0), .v (.int .u8 0), .v (.int .u8 0), .v (.int .u8 0)]⟩)], .agg [.v (.int .u8 152), .v (.int .u8 132), .v (.int .u8 251), .v (.int .u8 230), .v (.int .u8 248), .v (.int .u8 246), .v (.int .u8 186), .v (.int .u8 231), .v (.int .u8 14), .v (.int .u8 95), .v (.int .u8 106), .v (.int .u8 152), .v (.int .u8 65), .v (.int .u8 79), .v (.int .u8 145), .v (.int .u8 70), .v (.int .u8 129), .v (.int .u8 118), .v (.int .u8 128), .v (.int .u8 89), .v (.int .u8 98), .v (.int .u8 26), .v (.int .u8 108), .v (.int .u8 79), .v (.int .u8 185), .v (.int .u8 146), .v (.int .u8 91), .v (.int .u8 248), .v (.int .u8 6), .v (.int .u8 145), .v (.int .u8 64), .v (.int .u8 150), .v (.int .u8 183), .v (.int .u8 61), .v (.int .u8 214), .v (.int .u8 182), .v (.int .u8 185), .v (.int .u8 112), .v (.int .u8 219), .v (.int .u8 216), .v (.int .u8 134), .v (.int .u8 103), .v (.int .u8 48), .v (.int .u8 60), .v (.int .u8 97), .v (.int .u8 44), .v (.int .u8 166), .v (.int .u8 55), .v (.int .u8 243), .v (.int .u8 186), .v (.int .u8 74), .v (.int .u8 133), .v (.int .u8 199), .v (.int .u8 134), .v (.int .u8 171), .v (.int .u8 51), .v (.int .u8 8), .v (.int .u8 234), .v (.int .u8 249), .v (.int .u8 55), .v (.int .u8 126), .v (.int .u8 29), .v (.int .u8 12), .v (.int .u8 185)]⟩
set_option maxRecDepth 1000000 in
theorem mf311_2 : outC2 (outC (crunF PR e311 7 2000 311 md311_2.as md311_2.h md311_2.h.length)) = some md311_2.r := by kernel_rfl
end Go.Rq

/- A closed law's functions, each gone through where it is called. Written by a program of ours. -/
namespace Go.Rq
open Go Go.Proofs

def mt311 : List MemD := [md311_0, md311_1, md311_2]
theorem mt311_ok : MemOk PR e311 7 2000 311 mt311 := (MemOk.cons mf311_0 (MemOk.cons mf311_1 (MemOk.cons mf311_2 MemOk.nil)))
noncomputable def g311 : List AV → AH → Nat → Option (Bool × AV × AH) := canG (memoD mt311 (deepC2 PR e311 7 2000 311 4096 true))
theorem g311_ok : ActOk PR 4096 311 g311 := memoD_ok cx311 rfl rfl mt311_ok (by kernel_rfl)

/-! reliquary/cipher.stream -/
noncomputable def e271 : Env := envD eqsT [] [] [] [(311, g311)] [9] false [311]
theorem e271_ok : EnvOk PR e271 := envD_ok eqsT_ok TabPOk.nil TabHOk.nil TabLOk.nil (TabDOk.cons n311 g311_ok TabDOk.nil)
theorem cx271 : Ctx PR e271 [] (fun _ => none) 2000 271 := ctx_of e271_ok mixed (fn := Go.Proofs.Tryz.f271) (by kernel_rfl) (by kernel_rfl) (by kernel_rfl) (tabOk_none _)
theorem n271 : Enters PR 271 := enters_of (fn := Go.Proofs.Tryz.f271) (by kernel_rfl) (by kernel_rfl) (by kernel_rfl)
noncomputable def g271 : List AV → AH → Nat → Option (Bool × AV × AH) := deepC PR e271 6 2000 271 4096 true
theorem g271_ok : ActOk PR 4096 271 g271 := deepC_ok cx271 rfl rfl

/-! reliquary/cipher.filled -/
noncomputable def e312 : Env := envD eqsT [] [] [] [] [9] false []
theorem e312_ok : EnvOk PR e312 := envD_ok eqsT_ok TabPOk.nil TabHOk.nil TabLOk.nil TabDOk.nil
theorem cx312 : Ctx PR e312 [] (fun _ => none) 2000 312 := ctx_of e312_ok mixed (fn := Go.Proofs.Tryz.f312) (by kernel_rfl) (by kernel_rfl) (by kernel_rfl) (tabOk_none _)
theorem n312 : Enters PR 312 := enters_of (fn := Go.Proofs.Tryz.f312) (by kernel_rfl) (by kernel_rfl) (by kernel_rfl)
noncomputable def g312 : List AV → AH → Nat → Option (Bool × AV × AH) := deepC PR e312 4 2000 312 4096 true
theorem g312_ok : ActOk PR 4096 312 g312 := deepC_ok cx312 rfl rfl

/-! reliquary/cipher.low64 -/
noncomputable def e327 : Env := envD eqsT [] [] [] [(325, g325)] [9] false [325]
theorem e327_ok : EnvOk PR e327 := envD_ok eqsT_ok TabPOk.nil TabHOk.nil TabLOk.nil (TabDOk.cons n325 g325_ok TabDOk.nil)
theorem cx327 : Ctx PR e327 [] (fun _ => none) 2000 327 := ctx_of e327_ok mixed (fn := Go.Proofs.Tryz.f327) (by kernel_rfl) (by kernel_rfl) (by kernel_rfl) (tabOk_none _)
theorem n327 : Enters PR 327 := enters_of (fn := Go.Proofs.Tryz.f327) (by kernel_rfl) (by kernel_rfl) (by kernel_rfl)
noncomputable def g327 : List AV → AH → Nat → Option (Bool × AV × AH) := deepC PR e327 4 2000 327 4096 true
theorem g327_ok : ActOk PR 4096 327 g327 := deepC_ok cx327 rfl rfl

/-! (*reliquary/cipher.poly).fold -/
noncomputable def e350 : Env := envD eqsT [(288, (fn3 kU kU kBit kUB add64))] [] [] [] [9] false []
theorem e350_ok : EnvOk PR e350 := envD_ok eqsT_ok (TabPOk.cons add64_ok TabPOk.nil) TabHOk.nil TabLOk.nil TabDOk.nil
theorem cx350 : Ctx PR e350 [] (fun _ => none) 2000 350 := ctx_of e350_ok mixed (fn := Go.Proofs.Tryz.f350) (by kernel_rfl) (by kernel_rfl) (by kernel_rfl) (tabOk_none _)
theorem n350 : Enters PR 350 := enters_of (fn := Go.Proofs.Tryz.f350) (by kernel_rfl) (by kernel_rfl) (by kernel_rfl)
noncomputable def g350 : List AV → AH → Nat → Option (Bool × AV × AH) := deepC PR e350 7 2000 350 4096 false
theorem g350_ok : ActOk PR 4096 350 g350 := deepC_ok cx350 rfl rfl

/-! (*reliquary/cipher.poly).times -/
noncomputable def e343 : Env := envD eqsT [(287, (fn2 kU kU kUU mul64)), (288, (fn3 kU kU kBit kUB add64))] [] [] [(350, g350)] [9] false []
theorem e343_ok : EnvOk PR e343 := envD_ok eqsT_ok (TabPOk.cons mul64_ok (TabPOk.cons add64_ok TabPOk.nil)) TabHOk.nil TabLOk.nil (TabDOk.cons n350 g350_ok TabDOk.nil)
theorem cx343 : Ctx PR e343 [] (fun _ => none) 2000 343 := ctx_of e343_ok mixed (fn := Go.Proofs.Tryz.f343) (by kernel_rfl) (by kernel_rfl) (by kernel_rfl) (tabOk_none _)
theorem n343 : Enters PR 343 := enters_of (fn := Go.Proofs.Tryz.f343) (by kernel_rfl) (by kernel_rfl) (by kernel_rfl)
noncomputable def g343 : List AV → AH → Nat → Option (Bool × AV × AH) := deepC PR e343 8 2000 343 4096 false
theorem g343_ok : ActOk PR 4096 343 g343 := deepC_ok cx343 rfl rfl

/-! (*reliquary/cipher.poly).piece -/
noncomputable def e328 : Env := envD eqsT [(288, (fn3 kU kU kBit kUB add64))] [] [] [(327, g327), (343, g343)] [9] false [327]
theorem e328_ok : EnvOk PR e328 := envD_ok eqsT_ok (TabPOk.cons add64_ok TabPOk.nil) TabHOk.nil TabLOk.nil (TabDOk.cons n327 g327_ok (TabDOk.cons n343 g343_ok TabDOk.nil))
theorem cx328 : Ctx PR e328 [] (fun _ => none) 2000 328 := ctx_of e328_ok mixed (fn := Go.Proofs.Tryz.f328) (by kernel_rfl) (by kernel_rfl) (by kernel_rfl) (tabOk_none _)
theorem n328 : Enters PR 328 := enters_of (fn := Go.Proofs.Tryz.f328) (by kernel_rfl) (by kernel_rfl) (by kernel_rfl)
noncomputable def g328 : List AV → AH → Nat → Option (Bool × AV × AH) := deepC PR e328 6 2000 328 4096 false
theorem g328_ok : ActOk PR 4096 328 g328 := deepC_ok cx328 rfl rfl

/-! (*reliquary/cipher.poly).end -/
noncomputable def e329 : Env := envD eqsT [(288, (fn3 kU kU kBit kUB add64))] [] [] [(327, g327)] [9] false [327]
theorem e329_ok : EnvOk PR e329 := envD_ok eqsT_ok (TabPOk.cons add64_ok TabPOk.nil) TabHOk.nil TabLOk.nil (TabDOk.cons n327 g327_ok TabDOk.nil)
theorem cx329 : Ctx PR e329 [] (fun _ => none) 2000 329 := ctx_of e329_ok mixed (fn := Go.Proofs.Tryz.f329) (by kernel_rfl) (by kernel_rfl) (by kernel_rfl) (tabOk_none _)
theorem n329 : Enters PR 329 := enters_of (fn := Go.Proofs.Tryz.f329) (by kernel_rfl) (by kernel_rfl) (by kernel_rfl)
noncomputable def g329 : List AV → AH → Nat → Option (Bool × AV × AH) := deepC PR e329 7 2000 329 4096 true
theorem g329_ok : ActOk PR 4096 329 g329 := deepC_ok cx329 rfl rfl

/-! reliquary/cipher.tagOf -/
noncomputable def e313 : Env := envD eqsT [] [] [] [(327, g327), (328, g328), (329, g329)] [9] false [327, 329]
theorem e313_ok : EnvOk PR e313 := envD_ok eqsT_ok TabPOk.nil TabHOk.nil TabLOk.nil (TabDOk.cons n327 g327_ok (TabDOk.cons n328 g328_ok (TabDOk.cons n329 g329_ok TabDOk.nil)))
theorem cx313 : Ctx PR e313 [] (fun _ => none) 2000 313 := ctx_of e313_ok mixed (fn := Go.Proofs.Tryz.f313) (by kernel_rfl) (by kernel_rfl) (by kernel_rfl) (tabOk_none _)
theorem n313 : Enters PR 313 := enters_of (fn := Go.Proofs.Tryz.f313) (by kernel_rfl) (by kernel_rfl) (by kernel_rfl)
noncomputable def g313 : List AV → AH → Nat → Option (Bool × AV × AH) := deepC PR e313 6 2000 313 4096 true
theorem g313_ok : ActOk PR 4096 313 g313 := deepC_ok cx313 rfl rfl

/-! reliquary/cipher.sealed -/
noncomputable def e272 : Env := envD eqsT [] [] [] [(311, g311), (312, g312), (313, g313)] [9] false [311, 312, 313]
theorem e272_ok : EnvOk PR e272 := envD_ok eqsT_ok TabPOk.nil TabHOk.nil TabLOk.nil (TabDOk.cons n311 g311_ok (TabDOk.cons n312 g312_ok (TabDOk.cons n313 g313_ok TabDOk.nil)))
theorem cx272 : Ctx PR e272 [] (fun _ => none) 2000 272 := ctx_of e272_ok mixed (fn := Go.Proofs.Tryz.f272) (by kernel_rfl) (by kernel_rfl) (by kernel_rfl) (tabOk_none _)
theorem n272 : Enters PR 272 := enters_of (fn := Go.Proofs.Tryz.f272) (by kernel_rfl) (by kernel_rfl) (by kernel_rfl)
noncomputable def g272 : List AV → AH → Nat → Option (Bool × AV × AH) := deepC PR e272 6 2000 272 4096 true
theorem g272_ok : ActOk PR 4096 272 g272 := deepC_ok cx272 rfl rfl

/-! reliquary/cipher.Open -/
noncomputable def e217 : Env := envD eqsT [] [] [] [(270, g270), (271, g271), (272, g272)] [9] false [270, 271, 272]
theorem e217_ok : EnvOk PR e217 := envD_ok eqsT_ok TabPOk.nil TabHOk.nil TabLOk.nil (TabDOk.cons n270 g270_ok (TabDOk.cons n271 g271_ok (TabDOk.cons n272 g272_ok TabDOk.nil)))
theorem cx217 : Ctx PR e217 [] (fun _ => none) 2000 217 := ctx_of e217_ok mixed (fn := Go.Proofs.Tryz.f217) (by kernel_rfl) (by kernel_rfl) (by kernel_rfl) (tabOk_none _)
theorem n217 : Enters PR 217 := enters_of (fn := Go.Proofs.Tryz.f217) (by kernel_rfl) (by kernel_rfl) (by kernel_rfl)
noncomputable def g217 : List AV → AH → Nat → Option (Bool × AV × AH) := deepC PR e217 7 2000 217 4096 true
theorem g217_ok : ActOk PR 4096 217 g217 := deepC_ok cx217 rfl rfl

/-! reliquary/elgamal.closing$2 -/
noncomputable def e216 : Env := envD eqsT [] [] [] [(217, g217)] [9] false [217]
theorem e216_ok : EnvOk PR e216 := envD_ok eqsT_ok TabPOk.nil TabHOk.nil TabLOk.nil (TabDOk.cons n217 g217_ok TabDOk.nil)
theorem cx216 : Ctx PR e216 [] (fun _ => none) 2000 216 := ctx_of e216_ok mixed (fn := Go.Proofs.Tryz.f216) (by kernel_rfl) (by kernel_rfl) (by kernel_rfl) (tabOk_none _)
theorem n216 : Enters PR 216 := enters_of (fn := Go.Proofs.Tryz.f216) (by kernel_rfl) (by kernel_rfl) (by kernel_rfl)
noncomputable def g216 : List AV → AH → Nat → Option (Bool × AV × AH) := deepC PR e216 4 2000 216 4096 true
theorem g216_ok : ActOk PR 4096 216 g216 := deepC_ok cx216 rfl rfl

/-! reliquary/elgamal.Open -/
noncomputable def e57 : Env := envD eqsT [(144, g144)] [] [] [(139, g139), (142, g142), (143, g143), (216, g216)] [9] false [139, 142, 143, 216]
theorem e57_ok : EnvOk PR e57 := envD_ok eqsT_ok (TabPOk.cons g144_ok TabPOk.nil) TabHOk.nil TabLOk.nil (TabDOk.cons n139 g139_ok (TabDOk.cons n142 g142_ok (TabDOk.cons n143 g143_ok (TabDOk.cons n216 g216_ok TabDOk.nil))))
theorem cx57 : Ctx PR e57 [] (fun _ => none) 2000 57 := ctx_of e57_ok mixed (fn := Go.Proofs.Tryz.f57) (by kernel_rfl) (by kernel_rfl) (by kernel_rfl) (tabOk_none _)
theorem n57 : Enters PR 57 := enters_of (fn := Go.Proofs.Tryz.f57) (by kernel_rfl) (by kernel_rfl) (by kernel_rfl)
noncomputable def g57 : List AV → AH → Nat → Option (Bool × AV × AH) := deepC PR e57 6 2000 57 4096 true
theorem g57_ok : ActOk PR 4096 57 g57 := deepC_ok cx57 rfl rfl

/-! (*reliquary/elgamal.Session).Text -/
noncomputable def e50 : Env := envD eqsT [] [] [] [(49, g49), (57, g57)] [9] false [49, 57]
theorem e50_ok : EnvOk PR e50 := envD_ok eqsT_ok TabPOk.nil TabHOk.nil TabLOk.nil (TabDOk.cons n49 g49_ok (TabDOk.cons n57 g57_ok TabDOk.nil))
theorem cx50 : Ctx PR e50 [] (fun _ => none) 2000 50 := ctx_of e50_ok mixed (fn := Go.Proofs.Tryz.f50) (by kernel_rfl) (by kernel_rfl) (by kernel_rfl) (tabOk_none _)
theorem n50 : Enters PR 50 := enters_of (fn := Go.Proofs.Tryz.f50) (by kernel_rfl) (by kernel_rfl) (by kernel_rfl)
noncomputable def g50 : List AV → AH → Nat → Option (Bool × AV × AH) := deepC PR e50 5 2000 50 4096 true
theorem g50_ok : ActOk PR 4096 50 g50 := deepC_ok cx50 rfl rfl

/-! reliquary/little.Gen -/
noncomputable def e103 : Env := envD eqsT [(171, g171)] [] [] [] [9] false []
theorem e103_ok : EnvOk PR e103 := envD_ok eqsT_ok (TabPOk.cons g171_ok TabPOk.nil) TabHOk.nil TabLOk.nil TabDOk.nil
theorem cx103 : Ctx PR e103 [] (fun _ => none) 2000 103 := ctx_of e103_ok mixed (fn := Go.Proofs.Tryz.f103) (by kernel_rfl) (by kernel_rfl) (by kernel_rfl) (tabOk_none _)
theorem n103 : Enters PR 103 := enters_of (fn := Go.Proofs.Tryz.f103) (by kernel_rfl) (by kernel_rfl) (by kernel_rfl)
noncomputable def g103 : List AV → Option (Bool × AV) := (inlineC PR e103 4 2000 103)
theorem g103_ok : CallOk PR 103 g103 := (.inl ⟨n103, inlineC_ok cx103 rfl rfl⟩)

/-! reliquary/suite.Gen -/
noncomputable def e23 : Env := envD eqsT [(103, g103)] [] [] [] [9] false []
theorem e23_ok : EnvOk PR e23 := envD_ok eqsT_ok (TabPOk.cons g103_ok TabPOk.nil) TabHOk.nil TabLOk.nil TabDOk.nil
theorem cx23 : Ctx PR e23 [] (fun _ => none) 2000 23 := ctx_of e23_ok mixed (fn := Go.Proofs.Tryz.f23) (by kernel_rfl) (by kernel_rfl) (by kernel_rfl) (tabOk_none _)
theorem n23 : Enters PR 23 := enters_of (fn := Go.Proofs.Tryz.f23) (by kernel_rfl) (by kernel_rfl) (by kernel_rfl)
noncomputable def g23 : List AV → Option (Bool × AV) := (inlineC PR e23 5 2000 23)
theorem g23_ok : CallOk PR 23 g23 := (.inl ⟨n23, inlineC_ok cx23 rfl rfl⟩)

/-! reliquary/proof.checked -/
noncomputable def e114 : Env := envD eqsT [(34, g34), (98, (fn2 c6.agg c6.agg (kInt .i64) fun a b => chainV (cmpL a b) 0)), (101, g101)] [] [] [] [9] false []
theorem e114_ok : EnvOk PR e114 := envD_ok eqsT_ok (TabPOk.cons g34_ok (TabPOk.cons cmp_ok (TabPOk.cons g101_ok TabPOk.nil))) TabHOk.nil TabLOk.nil TabDOk.nil
theorem cx114 : Ctx PR e114 [] (fun _ => none) 2000 114 := ctx_of e114_ok mixed (fn := Go.Proofs.Tryz.f114) (by kernel_rfl) (by kernel_rfl) (by kernel_rfl) (tabOk_none _)
theorem n114 : Enters PR 114 := enters_of (fn := Go.Proofs.Tryz.f114) (by kernel_rfl) (by kernel_rfl) (by kernel_rfl)
noncomputable def g114 : List AV → AH → Nat → Option (Bool × AV × AH) := deepC PR e114 6 2000 114 4096 true
theorem g114_ok : ActOk PR 4096 114 g114 := deepC_ok cx114 rfl rfl

/-! reliquary/suite.text -/
noncomputable def e253 : Env := envD eqsT [(104, g104)] [] [] [(105, g105)] [9] false [105]
theorem e253_ok : EnvOk PR e253 := envD_ok eqsT_ok (TabPOk.cons g104_ok TabPOk.nil) TabHOk.nil TabLOk.nil (TabDOk.cons n105 g105_ok TabDOk.nil)
theorem cx253 : Ctx PR e253 [] (fun _ => none) 2000 253 := ctx_of e253_ok mixed (fn := Go.Proofs.Tryz.f253) (by kernel_rfl) (by kernel_rfl) (by kernel_rfl) (tabOk_none _)
theorem n253 : Enters PR 253 := enters_of (fn := Go.Proofs.Tryz.f253) (by kernel_rfl) (by kernel_rfl) (by kernel_rfl)
noncomputable def g253 : List AV → AH → Nat → Option (Bool × AV × AH) := deepC PR e253 5 2000 253 4096 true
theorem g253_ok : ActOk PR 4096 253 g253 := deepC_ok cx253 rfl rfl

/-! reliquary/suite.HashNum -/
noncomputable def e190 : Env := envD eqsT [(123, g123)] [] [] [(107, g107), (253, g253)] [9] false [107, 253]
theorem e190_ok : EnvOk PR e190 := envD_ok eqsT_ok (TabPOk.cons g123_ok TabPOk.nil) TabHOk.nil TabLOk.nil (TabDOk.cons n107 g107_ok (TabDOk.cons n253 g253_ok TabDOk.nil))
theorem cx190 : Ctx PR e190 [] (fun _ => none) 2000 190 := ctx_of e190_ok mixed (fn := Go.Proofs.Tryz.f190) (by kernel_rfl) (by kernel_rfl) (by kernel_rfl) (tabOk_none _)
theorem n190 : Enters PR 190 := enters_of (fn := Go.Proofs.Tryz.f190) (by kernel_rfl) (by kernel_rfl) (by kernel_rfl)
noncomputable def g190 : List AV → AH → Nat → Option (Bool × AV × AH) := deepC PR e190 5 2000 190 4096 true
theorem g190_ok : ActOk PR 4096 190 g190 := deepC_ok cx190 rfl rfl

/-! reliquary/proof.challenge -/
noncomputable def e116 : Env := envD eqsT [] [] [] [(189, g189), (190, g190)] [9] false [189, 190]
theorem e116_ok : EnvOk PR e116 := envD_ok eqsT_ok TabPOk.nil TabHOk.nil TabLOk.nil (TabDOk.cons n189 g189_ok (TabDOk.cons n190 g190_ok TabDOk.nil))
theorem cx116 : Ctx PR e116 [] (fun _ => none) 2000 116 := ctx_of e116_ok mixed (fn := Go.Proofs.Tryz.f116) (by kernel_rfl) (by kernel_rfl) (by kernel_rfl) (tabOk_none _)
theorem n116 : Enters PR 116 := enters_of (fn := Go.Proofs.Tryz.f116) (by kernel_rfl) (by kernel_rfl) (by kernel_rfl)
noncomputable def g116 : List AV → AH → Nat → Option (Bool × AV × AH) := deepC PR e116 6 2000 116 4096 true
theorem g116_ok : ActOk PR 4096 116 g116 := deepC_ok cx116 rfl rfl

/-! reliquary/proof.times -/
noncomputable def e115 : Env := envD eqsT [(25, g25)] [] [] [] [9] false []
theorem e115_ok : EnvOk PR e115 := envD_ok eqsT_ok (TabPOk.cons g25_ok TabPOk.nil) TabHOk.nil TabLOk.nil TabDOk.nil
theorem cx115 : Ctx PR e115 [] (fun _ => none) 2000 115 := ctx_of e115_ok mixed (fn := Go.Proofs.Tryz.f115) (by kernel_rfl) (by kernel_rfl) (by kernel_rfl) (tabOk_none _)
theorem n115 : Enters PR 115 := enters_of (fn := Go.Proofs.Tryz.f115) (by kernel_rfl) (by kernel_rfl) (by kernel_rfl)
noncomputable def g115 : List AV → Option (Bool × AV) := (inlineC PR e115 4 2000 115)
theorem g115_ok : CallOk PR 115 g115 := (.inl ⟨n115, inlineC_ok cx115 rfl rfl⟩)

/-! reliquary/proof.fits -/
noncomputable def e118 : Env := envD eqsT [(99, g99), (115, g115)] [] [] [] [9] false []
theorem e118_ok : EnvOk PR e118 := envD_ok eqsT_ok (TabPOk.cons g99_ok (TabPOk.cons g115_ok TabPOk.nil)) TabHOk.nil TabLOk.nil TabDOk.nil
theorem cx118 : Ctx PR e118 [] (fun _ => none) 2000 118 := ctx_of e118_ok mixed (fn := Go.Proofs.Tryz.f118) (by kernel_rfl) (by kernel_rfl) (by kernel_rfl) (tabOk_none _)
theorem n118 : Enters PR 118 := enters_of (fn := Go.Proofs.Tryz.f118) (by kernel_rfl) (by kernel_rfl) (by kernel_rfl)
noncomputable def g118 : List AV → Option (Bool × AV) := (inlineC PR e118 5 2000 118)
theorem g118_ok : CallOk PR 118 g118 := (.inl ⟨n118, inlineC_ok cx118 rfl rfl⟩)

/-! reliquary/proof.SameCheck -/
noncomputable def e30 : Env := envD eqsT [(118, g118)] [] [] [(114, g114), (116, g116)] [9] false [114, 116]
theorem e30_ok : EnvOk PR e30 := envD_ok eqsT_ok (TabPOk.cons g118_ok TabPOk.nil) TabHOk.nil TabLOk.nil (TabDOk.cons n114 g114_ok (TabDOk.cons n116 g116_ok TabDOk.nil))
theorem cx30 : Ctx PR e30 [] (fun _ => none) 2000 30 := ctx_of e30_ok mixed (fn := Go.Proofs.Tryz.f30) (by kernel_rfl) (by kernel_rfl) (by kernel_rfl) (tabOk_none _)
theorem n30 : Enters PR 30 := enters_of (fn := Go.Proofs.Tryz.f30) (by kernel_rfl) (by kernel_rfl) (by kernel_rfl)
end Go.Rq
