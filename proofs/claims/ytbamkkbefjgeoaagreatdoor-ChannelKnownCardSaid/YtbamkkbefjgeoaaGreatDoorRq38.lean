/- A closed law's functions, each gone through where it is called. Written by a program of ours. -/
import Derived.Test.YtbamkkbefjgeoaaGreatDoorRq30
import Derived.Test.YtbamkkbefjgeoaaGreatDoorRq31
import Derived.Test.YtbamkkbefjgeoaaGreatDoorRq32
import Derived.Test.YtbamkkbefjgeoaaGreatDoorRq33
import Derived.Test.YtbamkkbefjgeoaaGreatDoorRq34
import Derived.Test.YtbamkkbefjgeoaaGreatDoorRq35
import Derived.Test.YtbamkkbefjgeoaaGreatDoorRq36
import Derived.Test.YtbamkkbefjgeoaaGreatDoorRq37
namespace Go.Rq.Cl
open Go Go.Proofs Go.Rq Go.Rq.Sm
def md150_7 : MemD := ⟨[.own 0 1 0 32, .slc 1 0 12 12, .v (.int .u32 0)], [(0, some ⟨false, 5, [.v (.int .u8 152), .v (.int .u8 23), .v (.int .u8 222), .v (.int .u8 159), .v (.int .u8 192), .v (.int .u8 234), .v (.int .u8 11), .v (.int .u8 17), .v (.int .u8 238), .v (.int .u8 146), .v (.int .u8 239), .v (.int .u8 64), .v (.int .u8 73), .v (.int .u8 106), .v (.int .u8 241), .v (.int .u8 122), .v (.int .u8 192), .v (.int .u8 230), .v (.int .u8 34), .v (.int .u8 164), .v (.int .u8 247), .v (.int .u8 99), .v (.int .u8 78), .v (.int .u8 4), .v (.int .u8 65), .v (.int .u8 166), .v (.int .u8 121), .v (.int .u8 226), .v (.int .u8 13), .v (.int .u8 25), .v (.int .u8 145), .v (.int .u8 212)]⟩), (1, some ⟨false, 5, [.v (.int .u8 0), .v (.int .u8 0), .v (.int .u8 0), .v (.int .u8 0), .v (.int .u8 0), .v (.int .u8 0), .v (.int .u8 0), .v (.int .u8 0), .v (.int .u8 0), .v (.int .u8 0), .v (.int .u8 0), .v (.int .u8 0)]⟩)], .agg [.v (.int .u8 111), .v (.int .u8 228), .v (.int .u8 165), .v (.int .u8 70), .v (.int .u8 238), .v (.int .u8 87), .v (.int .u8 145), .v (.int .u8 185), .v (.int .u8 101), .v (.int .u8 200), .v (.int .u8 23), .v (.int .u8 155), .v (.int .u8 204), .v (.int .u8 27), .v (.int .u8 251), .v (.int .u8 181), .v (.int .u8 102), .v (.int .u8 34), .v (.int .u8 182), .v (.int .u8 167), .v (.int .u8 5), .v (.int .u8 128), .v (.int .u8 120), .v (.int .u8 251), .v (.int .u8 59), .v (.int .u8 161), .v (.int .u8 135), .v (.int .u8 23), .v (.int .u8 103), .v (.int .u8 115), .v (.int .u8 171), .v (.int .u8 214), .v (.int .u8 68), .v (.int .u8 201), .v (.int .u8 166), .v (.int .u8 179), .v (.int .u8 202), .v (.int .u8 20), .v (.int .u8 218), .v (.int .u8 123), .v (.int .u8 250), .v (.int .u8 158), .v (.int .u8 116), .v (.int .u8 72), .v (.int .u8 19), .v (.int .u8 191), .v (.int .u8 5), .v (.int .u8 71), .v (.int .u8 45), .v (.int .u8 8), .v (.int .u8 93), .v (.int .u8 161), .v (.int .u8 125), .v (.int .u8 111), .v (.int .u8 192), .v (.int .u8 185), .v (.int .u8 188), .v (.int .u8 102), .v (.int .u8 13), .v (.int .u8 20), .v (.int .u8 128), .v (.int .u8 204), .v (.int .u8 44), .v (.int .u8 231)]⟩
set_option maxRecDepth 1000000 in
theorem mf150_7 : outC2 (outC (crunF PR e150 7 2000 150 md150_7.as md150_7.h md150_7.h.length)) = some md150_7.r := by kernel_rfl
end Go.Rq.Cl

/- A closed law's functions, each gone through where it is called. Written by a program of ours. -/
namespace Go.Rq.Cl
open Go Go.Proofs Go.Rq Go.Rq.Sm

def mt150 : List MemD := [md150_0, md150_1, md150_2, md150_3, md150_4, md150_5, md150_6, md150_7]
theorem mt150_ok : MemOk PR e150 7 2000 150 mt150 := (MemOk.cons mf150_0 (MemOk.cons mf150_1 (MemOk.cons mf150_2 (MemOk.cons mf150_3 (MemOk.cons mf150_4 (MemOk.cons mf150_5 (MemOk.cons mf150_6 (MemOk.cons mf150_7 MemOk.nil))))))))
noncomputable def g150 : List AV → AH → Nat → Option (Bool × AV × AH) := canG (memoD mt150 (deepC2 PR e150 7 2000 150 4096 true))
theorem g150_ok : ActOk PR 4096 150 g150 := memoD_ok cx150 rfl rfl mt150_ok (by kernel_rfl)

/-! reliquary/cipher.stream -/
noncomputable def e112 : Env := envD eqsT [] [] [] [(150, g150)] [9] false [150]
theorem e112_ok : EnvOk PR e112 := envD_ok eqsT_ok TabPOk.nil TabHOk.nil TabLOk.nil (TabDOk.cons n150 g150_ok TabDOk.nil)
theorem cx112 : Ctx PR e112 [] (fun _ => none) 2000 112 := ctx_of e112_ok mixed (fn := Go.Proofs.Tryz.f112) (by kernel_rfl) (by kernel_rfl) (by kernel_rfl) (tabOk_none _)
theorem n112 : Enters PR 112 := enters_of (fn := Go.Proofs.Tryz.f112) (by kernel_rfl) (by kernel_rfl) (by kernel_rfl)
noncomputable def g112 : List AV → AH → Nat → Option (Bool × AV × AH) := deepC PR e112 6 2000 112 4096 true
theorem g112_ok : ActOk PR 4096 112 g112 := deepC_ok cx112 rfl rfl

/-! reliquary/cipher.filled -/
noncomputable def e151 : Env := envD eqsT [] [] [] [] [9] false []
theorem e151_ok : EnvOk PR e151 := envD_ok eqsT_ok TabPOk.nil TabHOk.nil TabLOk.nil TabDOk.nil
theorem cx151 : Ctx PR e151 [] (fun _ => none) 2000 151 := ctx_of e151_ok mixed (fn := Go.Proofs.Tryz.f151) (by kernel_rfl) (by kernel_rfl) (by kernel_rfl) (tabOk_none _)
theorem n151 : Enters PR 151 := enters_of (fn := Go.Proofs.Tryz.f151) (by kernel_rfl) (by kernel_rfl) (by kernel_rfl)
noncomputable def g151 : List AV → AH → Nat → Option (Bool × AV × AH) := deepC PR e151 4 2000 151 4096 true
theorem g151_ok : ActOk PR 4096 151 g151 := deepC_ok cx151 rfl rfl

/-! reliquary/cipher.low64 -/
noncomputable def e178 : Env := envD eqsT [] [] [] [(176, g176)] [9] false [176]
theorem e178_ok : EnvOk PR e178 := envD_ok eqsT_ok TabPOk.nil TabHOk.nil TabLOk.nil (TabDOk.cons n176 g176_ok TabDOk.nil)
theorem cx178 : Ctx PR e178 [] (fun _ => none) 2000 178 := ctx_of e178_ok mixed (fn := Go.Proofs.Tryz.f178) (by kernel_rfl) (by kernel_rfl) (by kernel_rfl) (tabOk_none _)
theorem n178 : Enters PR 178 := enters_of (fn := Go.Proofs.Tryz.f178) (by kernel_rfl) (by kernel_rfl) (by kernel_rfl)
noncomputable def g178 : List AV → AH → Nat → Option (Bool × AV × AH) := deepC PR e178 4 2000 178 4096 true
theorem g178_ok : ActOk PR 4096 178 g178 := deepC_ok cx178 rfl rfl

/-! (*reliquary/cipher.poly).fold -/
noncomputable def e208 : Env := envD eqsT [(129, (fn3 kU kU kBit kUB add64))] [] [] [] [9] false []
theorem e208_ok : EnvOk PR e208 := envD_ok eqsT_ok (TabPOk.cons add64_ok TabPOk.nil) TabHOk.nil TabLOk.nil TabDOk.nil
theorem cx208 : Ctx PR e208 [] (fun _ => none) 2000 208 := ctx_of e208_ok mixed (fn := Go.Proofs.Tryz.f208) (by kernel_rfl) (by kernel_rfl) (by kernel_rfl) (tabOk_none _)
theorem n208 : Enters PR 208 := enters_of (fn := Go.Proofs.Tryz.f208) (by kernel_rfl) (by kernel_rfl) (by kernel_rfl)
noncomputable def g208 : List AV → AH → Nat → Option (Bool × AV × AH) := slimG 4096 (deepC PR e208 7 2000 208 4096 false)
theorem g208_ok : ActOk PR 4096 208 g208 := slimG_ok (deepC_ok cx208 rfl rfl)

/-! (*reliquary/cipher.poly).times -/
noncomputable def e200 : Env := envD eqsT [(128, (fn2 kU kU kUU mul64)), (129, (fn3 kU kU kBit kUB add64))] [] [] [(208, g208)] [9] false []
theorem e200_ok : EnvOk PR e200 := envD_ok eqsT_ok (TabPOk.cons mul64_ok (TabPOk.cons add64_ok TabPOk.nil)) TabHOk.nil TabLOk.nil (TabDOk.cons n208 g208_ok TabDOk.nil)
theorem cx200 : Ctx PR e200 [] (fun _ => none) 2000 200 := ctx_of e200_ok mixed (fn := Go.Proofs.Tryz.f200) (by kernel_rfl) (by kernel_rfl) (by kernel_rfl) (tabOk_none _)
theorem n200 : Enters PR 200 := enters_of (fn := Go.Proofs.Tryz.f200) (by kernel_rfl) (by kernel_rfl) (by kernel_rfl)
noncomputable def g200 : List AV → AH → Nat → Option (Bool × AV × AH) := slimG 4096 (deepC PR e200 8 2000 200 4096 false)
theorem g200_ok : ActOk PR 4096 200 g200 := slimG_ok (deepC_ok cx200 rfl rfl)

/-! (*reliquary/cipher.poly).piece -/
noncomputable def e179 : Env := envD eqsT [(129, (fn3 kU kU kBit kUB add64))] [] [] [(178, g178), (200, g200)] [9] false [178]
theorem e179_ok : EnvOk PR e179 := envD_ok eqsT_ok (TabPOk.cons add64_ok TabPOk.nil) TabHOk.nil TabLOk.nil (TabDOk.cons n178 g178_ok (TabDOk.cons n200 g200_ok TabDOk.nil))
theorem cx179 : Ctx PR e179 [] (fun _ => none) 2000 179 := ctx_of e179_ok mixed (fn := Go.Proofs.Tryz.f179) (by kernel_rfl) (by kernel_rfl) (by kernel_rfl) (tabOk_none _)
theorem n179 : Enters PR 179 := enters_of (fn := Go.Proofs.Tryz.f179) (by kernel_rfl) (by kernel_rfl) (by kernel_rfl)
noncomputable def g179 : List AV → AH → Nat → Option (Bool × AV × AH) := slimG 4096 (deepC PR e179 6 2000 179 4096 false)
theorem g179_ok : ActOk PR 4096 179 g179 := slimG_ok (deepC_ok cx179 rfl rfl)

/-! (*reliquary/cipher.poly).end -/
noncomputable def e180 : Env := envD eqsT [(129, (fn3 kU kU kBit kUB add64))] [] [] [(178, g178)] [9] false [178]
theorem e180_ok : EnvOk PR e180 := envD_ok eqsT_ok (TabPOk.cons add64_ok TabPOk.nil) TabHOk.nil TabLOk.nil (TabDOk.cons n178 g178_ok TabDOk.nil)
theorem cx180 : Ctx PR e180 [] (fun _ => none) 2000 180 := ctx_of e180_ok mixed (fn := Go.Proofs.Tryz.f180) (by kernel_rfl) (by kernel_rfl) (by kernel_rfl) (tabOk_none _)
theorem n180 : Enters PR 180 := enters_of (fn := Go.Proofs.Tryz.f180) (by kernel_rfl) (by kernel_rfl) (by kernel_rfl)
noncomputable def g180 : List AV → AH → Nat → Option (Bool × AV × AH) := deepC PR e180 7 2000 180 4096 true
theorem g180_ok : ActOk PR 4096 180 g180 := deepC_ok cx180 rfl rfl

/-! reliquary/cipher.tagOf -/
noncomputable def e152 : Env := envD eqsT [] [] [] [(178, g178), (179, g179), (180, g180)] [9] false [178, 180]
theorem e152_ok : EnvOk PR e152 := envD_ok eqsT_ok TabPOk.nil TabHOk.nil TabLOk.nil (TabDOk.cons n178 g178_ok (TabDOk.cons n179 g179_ok (TabDOk.cons n180 g180_ok TabDOk.nil)))
theorem cx152 : Ctx PR e152 [] (fun _ => none) 2000 152 := ctx_of e152_ok mixed (fn := Go.Proofs.Tryz.f152) (by kernel_rfl) (by kernel_rfl) (by kernel_rfl) (tabOk_none _)
theorem n152 : Enters PR 152 := enters_of (fn := Go.Proofs.Tryz.f152) (by kernel_rfl) (by kernel_rfl) (by kernel_rfl)
noncomputable def g152 : List AV → AH → Nat → Option (Bool × AV × AH) := deepC PR e152 6 2000 152 4096 true
theorem g152_ok : ActOk PR 4096 152 g152 := deepC_ok cx152 rfl rfl

/-! reliquary/cipher.sealed -/
noncomputable def e113 : Env := envD eqsT [] [] [] [(150, g150), (151, g151), (152, g152)] [9] false [150, 151, 152]
theorem e113_ok : EnvOk PR e113 := envD_ok eqsT_ok TabPOk.nil TabHOk.nil TabLOk.nil (TabDOk.cons n150 g150_ok (TabDOk.cons n151 g151_ok (TabDOk.cons n152 g152_ok TabDOk.nil)))
theorem cx113 : Ctx PR e113 [] (fun _ => none) 2000 113 := ctx_of e113_ok mixed (fn := Go.Proofs.Tryz.f113) (by kernel_rfl) (by kernel_rfl) (by kernel_rfl) (tabOk_none _)
theorem n113 : Enters PR 113 := enters_of (fn := Go.Proofs.Tryz.f113) (by kernel_rfl) (by kernel_rfl) (by kernel_rfl)
noncomputable def g113 : List AV → AH → Nat → Option (Bool × AV × AH) := deepC PR e113 6 2000 113 4096 true
theorem g113_ok : ActOk PR 4096 113 g113 := deepC_ok cx113 rfl rfl

/-! reliquary/cipher.Seal -/
noncomputable def e67 : Env := envD eqsT [] [] [] [(111, g111), (112, g112), (113, g113)] [9] false [111, 112, 113]
theorem e67_ok : EnvOk PR e67 := envD_ok eqsT_ok TabPOk.nil TabHOk.nil TabLOk.nil (TabDOk.cons n111 g111_ok (TabDOk.cons n112 g112_ok (TabDOk.cons n113 g113_ok TabDOk.nil)))
theorem cx67 : Ctx PR e67 [] (fun _ => none) 2000 67 := ctx_of e67_ok mixed (fn := Go.Proofs.Tryz.f67) (by kernel_rfl) (by kernel_rfl) (by kernel_rfl) (tabOk_none _)
theorem n67 : Enters PR 67 := enters_of (fn := Go.Proofs.Tryz.f67) (by kernel_rfl) (by kernel_rfl) (by kernel_rfl)
noncomputable def g67 : List AV → AH → Nat → Option (Bool × AV × AH) := deepC PR e67 5 2000 67 4096 true
theorem g67_ok : ActOk PR 4096 67 g67 := deepC_ok cx67 rfl rfl

/-! reliquary/wire.Int -/
noncomputable def e102 : Env := envD eqsT [] [] [] [(147, g147)] [9] false []
theorem e102_ok : EnvOk PR e102 := envD_ok eqsT_ok TabPOk.nil TabHOk.nil TabLOk.nil (TabDOk.cons n147 g147_ok TabDOk.nil)
theorem cx102 : Ctx PR e102 [] (fun _ => none) 2000 102 := ctx_of e102_ok mixed (fn := Go.Proofs.Tryz.f102) (by kernel_rfl) (by kernel_rfl) (by kernel_rfl) (tabOk_none _)
theorem n102 : Enters PR 102 := enters_of (fn := Go.Proofs.Tryz.f102) (by kernel_rfl) (by kernel_rfl) (by kernel_rfl)
noncomputable def g102 : List AV → AH → Nat → Option (Bool × AV × AH) := deepC PR e102 4 2000 102 4096 true
theorem g102_ok : ActOk PR 4096 102 g102 := deepC_ok cx102 rfl rfl

/-! (*reliquary/channel.side).epoch -/
noncomputable def e103 : Env := envD eqsT [] [] [] [(102, g102), (145, g145)] [9] false [102, 145]
theorem e103_ok : EnvOk PR e103 := envD_ok eqsT_ok TabPOk.nil TabHOk.nil TabLOk.nil (TabDOk.cons n102 g102_ok (TabDOk.cons n145 g145_ok TabDOk.nil))
theorem cx103 : Ctx PR e103 [] (fun _ => none) 2000 103 := ctx_of e103_ok mixed (fn := Go.Proofs.Tryz.f103) (by kernel_rfl) (by kernel_rfl) (by kernel_rfl) (tabOk_none _)
theorem n103 : Enters PR 103 := enters_of (fn := Go.Proofs.Tryz.f103) (by kernel_rfl) (by kernel_rfl) (by kernel_rfl)
noncomputable def g103 : List AV → AH → Nat → Option (Bool × AV × AH) := deepC PR e103 5 2000 103 4096 true
theorem g103_ok : ActOk PR 4096 103 g103 := deepC_ok cx103 rfl rfl

/-! reliquary/channel.nonce -/
noncomputable def e104 : Env := envD eqsT [] [] [] [(102, g102)] [9] false [102]
theorem e104_ok : EnvOk PR e104 := envD_ok eqsT_ok TabPOk.nil TabHOk.nil TabLOk.nil (TabDOk.cons n102 g102_ok TabDOk.nil)
theorem cx104 : Ctx PR e104 [] (fun _ => none) 2000 104 := ctx_of e104_ok mixed (fn := Go.Proofs.Tryz.f104) (by kernel_rfl) (by kernel_rfl) (by kernel_rfl) (tabOk_none _)
theorem n104 : Enters PR 104 := enters_of (fn := Go.Proofs.Tryz.f104) (by kernel_rfl) (by kernel_rfl) (by kernel_rfl)
noncomputable def g104 : List AV → AH → Nat → Option (Bool × AV × AH) := deepC PR e104 4 2000 104 4096 true
theorem g104_ok : ActOk PR 4096 104 g104 := deepC_ok cx104 rfl rfl

/-! (*reliquary/channel.side).seal -/
noncomputable def e60 : Env := envD eqsT [] [] [] [(67, g67), (102, g102), (103, g103), (104, g104)] [9] false [67, 102, 103, 104]
theorem e60_ok : EnvOk PR e60 := envD_ok eqsT_ok TabPOk.nil TabHOk.nil TabLOk.nil (TabDOk.cons n67 g67_ok (TabDOk.cons n102 g102_ok (TabDOk.cons n103 g103_ok (TabDOk.cons n104 g104_ok TabDOk.nil))))
theorem cx60 : Ctx PR e60 [] (fun _ => none) 2000 60 := ctx_of e60_ok mixed (fn := Go.Proofs.Tryz.f60) (by kernel_rfl) (by kernel_rfl) (by kernel_rfl) (tabOk_none _)
theorem n60 : Enters PR 60 := enters_of (fn := Go.Proofs.Tryz.f60) (by kernel_rfl) (by kernel_rfl) (by kernel_rfl)
noncomputable def g60 : List AV → AH → Nat → Option (Bool × AV × AH) := slimG 4096 (deepC PR e60 6 2000 60 4096 false)
theorem g60_ok : ActOk PR 4096 60 g60 := slimG_ok (deepC_ok cx60 rfl rfl)

/-! reliquary/channel.Answer -/
noncomputable def e17 : Env := envD eqsT [(51, g51), (53, g53), (57, g57), (59, g59)] [] [] [(52, g52), (56, g56), (58, g58), (60, g60)] [9] false [52, 56, 58]
theorem e17_ok : EnvOk PR e17 := envD_ok eqsT_ok (TabPOk.cons g51_ok (TabPOk.cons g53_ok (TabPOk.cons g57_ok (TabPOk.cons g59_ok TabPOk.nil)))) TabHOk.nil TabLOk.nil (TabDOk.cons n52 g52_ok (TabDOk.cons n56 g56_ok (TabDOk.cons n58 g58_ok (TabDOk.cons n60 g60_ok TabDOk.nil))))
theorem cx17 : Ctx PR e17 [] (fun _ => none) 2000 17 := ctx_of e17_ok mixed (fn := Go.Proofs.Tryz.f17) (by kernel_rfl) (by kernel_rfl) (by kernel_rfl) (tabOk_none _)
theorem n17 : Enters PR 17 := enters_of (fn := Go.Proofs.Tryz.f17) (by kernel_rfl) (by kernel_rfl) (by kernel_rfl)
noncomputable def g17 : List AV → AH → Nat → Option (Bool × AV × AH) := deepC PR e17 7 2000 17 4096 true
theorem g17_ok : ActOk PR 4096 17 g17 := deepC_ok cx17 rfl rfl

/-! reliquary/reliquarykit.CopyBytes -/
noncomputable def e18 : Env := envD eqsT [] [] [] [] [9] false []
theorem e18_ok : EnvOk PR e18 := envD_ok eqsT_ok TabPOk.nil TabHOk.nil TabLOk.nil TabDOk.nil
theorem cx18 : Ctx PR e18 [] (fun _ => none) 2000 18 := ctx_of e18_ok mixed (fn := Go.Proofs.Tryz.f18) (by kernel_rfl) (by kernel_rfl) (by kernel_rfl) (tabOk_none _)
theorem n18 : Enters PR 18 := enters_of (fn := Go.Proofs.Tryz.f18) (by kernel_rfl) (by kernel_rfl) (by kernel_rfl)
noncomputable def g18 : List AV → AH → Nat → Option (Bool × AV × AH) := deepC PR e18 3 2000 18 4096 true
theorem g18_ok : ActOk PR 4096 18 g18 := deepC_ok cx18 rfl rfl

/-! reliquary/channel.width -/
noncomputable def e61 : Env := envD eqsT [] [] [] [] [9] false []
theorem e61_ok : EnvOk PR e61 := envD_ok eqsT_ok TabPOk.nil TabHOk.nil TabLOk.nil TabDOk.nil
theorem cx61 : Ctx PR e61 [] (fun _ => none) 2000 61 := ctx_of e61_ok mixed (fn := Go.Proofs.Tryz.f61) (by kernel_rfl) (by kernel_rfl) (by kernel_rfl) (tabOk_none _)
theorem n61 : Enters PR 61 := enters_of (fn := Go.Proofs.Tryz.f61) (by kernel_rfl) (by kernel_rfl) (by kernel_rfl)
noncomputable def g61 : List AV → Option (Bool × AV) := (inlineC PR e61 3 2000 61)
theorem g61_ok : CallOk PR 61 g61 := (.inl ⟨n61, inlineC_ok cx61 rfl rfl⟩)

/-! (*reliquary/wire.reader).take -/
noncomputable def e148 : Env := envD eqsT [] [] [] [] [9] false []
theorem e148_ok : EnvOk PR e148 := envD_ok eqsT_ok TabPOk.nil TabHOk.nil TabLOk.nil TabDOk.nil
theorem cx148 : Ctx PR e148 [] (fun _ => none) 2000 148 := ctx_of e148_ok mixed (fn := Go.Proofs.Tryz.f148) (by kernel_rfl) (by kernel_rfl) (by kernel_rfl) (tabOk_none _)
theorem n148 : Enters PR 148 := enters_of (fn := Go.Proofs.Tryz.f148) (by kernel_rfl) (by kernel_rfl) (by kernel_rfl)
noncomputable def g148 : List AV → AH → Nat → Option (Bool × AV × AH) := slimG 4096 (deepC PR e148 6 2000 148 4096 false)
theorem g148_ok : ActOk PR 4096 148 g148 := slimG_ok (deepC_ok cx148 rfl rfl)

/-! (*reliquary/wire.reader).number -/
noncomputable def e105 : Env := envD eqsT [] [] [] [(148, g148)] [9] false []
theorem e105_ok : EnvOk PR e105 := envD_ok eqsT_ok TabPOk.nil TabHOk.nil TabLOk.nil (TabDOk.cons n148 g148_ok TabDOk.nil)
theorem cx105 : Ctx PR e105 [] (fun _ => none) 2000 105 := ctx_of e105_ok mixed (fn := Go.Proofs.Tryz.f105) (by kernel_rfl) (by kernel_rfl) (by kernel_rfl) (tabOk_none _)
theorem n105 : Enters PR 105 := enters_of (fn := Go.Proofs.Tryz.f105) (by kernel_rfl) (by kernel_rfl) (by kernel_rfl)
noncomputable def g105 : List AV → AH → Nat → Option (Bool × AV × AH) := slimG 4096 (deepC PR e105 5 2000 105 4096 false)
theorem g105_ok : ActOk PR 4096 105 g105 := slimG_ok (deepC_ok cx105 rfl rfl)

/-! (*reliquary/wire.reader).whole -/
noncomputable def e106 : Env := envD eqsT [] [] [] [] [9] false []
theorem e106_ok : EnvOk PR e106 := envD_ok eqsT_ok TabPOk.nil TabHOk.nil TabLOk.nil TabDOk.nil
theorem cx106 : Ctx PR e106 [] (fun _ => none) 2000 106 := ctx_of e106_ok mixed (fn := Go.Proofs.Tryz.f106) (by kernel_rfl) (by kernel_rfl) (by kernel_rfl) (tabOk_none _)
theorem n106 : Enters PR 106 := enters_of (fn := Go.Proofs.Tryz.f106) (by kernel_rfl) (by kernel_rfl) (by kernel_rfl)
noncomputable def g106 : List AV → AH → Nat → Option (Bool × AV × AH) := slimG 4096 (deepC PR e106 4 2000 106 4096 false)
theorem g106_ok : ActOk PR 4096 106 g106 := slimG_ok (deepC_ok cx106 rfl rfl)

/-! reliquary/wire.ReadInt -/
noncomputable def e62 : Env := envD eqsT [] [] [] [(105, g105), (106, g106)] [9] false []
theorem e62_ok : EnvOk PR e62 := envD_ok eqsT_ok TabPOk.nil TabHOk.nil TabLOk.nil (TabDOk.cons n105 g105_ok (TabDOk.cons n106 g106_ok TabDOk.nil))
theorem cx62 : Ctx PR e62 [] (fun _ => none) 2000 62 := ctx_of e62_ok mixed (fn := Go.Proofs.Tryz.f62) (by kernel_rfl) (by kernel_rfl) (by kernel_rfl) (tabOk_none _)
theorem n62 : Enters PR 62 := enters_of (fn := Go.Proofs.Tryz.f62) (by kernel_rfl) (by kernel_rfl) (by kernel_rfl)
noncomputable def g62 : List AV → AH → Nat → Option (Bool × AV × AH) := deepC PR e62 4 2000 62 4096 true
theorem g62_ok : ActOk PR 4096 62 g62 := deepC_ok cx62 rfl rfl

/-! reliquary/cipher.Open -/
noncomputable def e69 : Env := envD eqsT [] [] [] [(111, g111), (112, g112), (113, g113)] [9] false [111, 112, 113]
theorem e69_ok : EnvOk PR e69 := envD_ok eqsT_ok TabPOk.nil TabHOk.nil TabLOk.nil (TabDOk.cons n111 g111_ok (TabDOk.cons n112 g112_ok (TabDOk.cons n113 g113_ok TabDOk.nil)))
theorem cx69 : Ctx PR e69 [] (fun _ => none) 2000 69 := ctx_of e69_ok mixed (fn := Go.Proofs.Tryz.f69) (by kernel_rfl) (by kernel_rfl) (by kernel_rfl) (tabOk_none _)
theorem n69 : Enters PR 69 := enters_of (fn := Go.Proofs.Tryz.f69) (by kernel_rfl) (by kernel_rfl) (by kernel_rfl)
noncomputable def g69 : List AV → AH → Nat → Option (Bool × AV × AH) := deepC PR e69 7 2000 69 4096 true
theorem g69_ok : ActOk PR 4096 69 g69 := deepC_ok cx69 rfl rfl

/-! (*reliquary/channel.side).comes -/
noncomputable def e107 : Env := envD eqsT [] [] [] [] [9] false []
theorem e107_ok : EnvOk PR e107 := envD_ok eqsT_ok TabPOk.nil TabHOk.nil TabLOk.nil TabDOk.nil
theorem cx107 : Ctx PR e107 [] (fun _ => none) 2000 107 := ctx_of e107_ok mixed (fn := Go.Proofs.Tryz.f107) (by kernel_rfl) (by kernel_rfl) (by kernel_rfl) (tabOk_none _)
theorem n107 : Enters PR 107 := enters_of (fn := Go.Proofs.Tryz.f107) (by kernel_rfl) (by kernel_rfl) (by kernel_rfl)
noncomputable def g107 : List AV → AH → Nat → Option (Bool × AV × AH) := deepC PR e107 5 2000 107 4096 true
theorem g107_ok : ActOk PR 4096 107 g107 := deepC_ok cx107 rfl rfl

/-! (*reliquary/channel.side).took -/
noncomputable def e108 : Env := envD eqsT [] [] [] [] [9] false []
theorem e108_ok : EnvOk PR e108 := envD_ok eqsT_ok TabPOk.nil TabHOk.nil TabLOk.nil TabDOk.nil
theorem cx108 : Ctx PR e108 [] (fun _ => none) 2000 108 := ctx_of e108_ok mixed (fn := Go.Proofs.Tryz.f108) (by kernel_rfl) (by kernel_rfl) (by kernel_rfl) (tabOk_none _)
theorem n108 : Enters PR 108 := enters_of (fn := Go.Proofs.Tryz.f108) (by kernel_rfl) (by kernel_rfl) (by kernel_rfl)
noncomputable def g108 : List AV → AH → Nat → Option (Bool × AV × AH) := slimG 4096 (deepC PR e108 6 2000 108 4096 false)
theorem g108_ok : ActOk PR 4096 108 g108 := slimG_ok (deepC_ok cx108 rfl rfl)

/-! (*reliquary/channel.side).open -/
noncomputable def e63 : Env := envD eqsT [] [] [] [(62, g62), (69, g69), (103, g103), (104, g104), (107, g107), (108, g108)] [9] false [62, 69, 103, 104, 107]
theorem e63_ok : EnvOk PR e63 := envD_ok eqsT_ok TabPOk.nil TabHOk.nil TabLOk.nil (TabDOk.cons n62 g62_ok (TabDOk.cons n69 g69_ok (TabDOk.cons n103 g103_ok (TabDOk.cons n104 g104_ok (TabDOk.cons n107 g107_ok (TabDOk.cons n108 g108_ok TabDOk.nil))))))
theorem cx63 : Ctx PR e63 [] (fun _ => none) 2000 63 := ctx_of e63_ok mixed (fn := Go.Proofs.Tryz.f63) (by kernel_rfl) (by kernel_rfl) (by kernel_rfl) (tabOk_none _)
theorem n63 : Enters PR 63 := enters_of (fn := Go.Proofs.Tryz.f63) (by kernel_rfl) (by kernel_rfl) (by kernel_rfl)
noncomputable def g63 : List AV → AH → Nat → Option (Bool × AV × AH) := slimG 4096 (deepC PR e63 6 2000 63 4096 false)
theorem g63_ok : ActOk PR 4096 63 g63 := slimG_ok (deepC_ok cx63 rfl rfl)

/-! (*reliquary/channel.Opening).Finish -/
noncomputable def e19 : Env := envD eqsT [(53, g53), (57, g57), (59, g59), (61, g61)] [] [] [(56, g56), (58, g58), (62, g62), (63, g63)] [9] false [56, 58, 62]
theorem e19_ok : EnvOk PR e19 := envD_ok eqsT_ok (TabPOk.cons g53_ok (TabPOk.cons g57_ok (TabPOk.cons g59_ok (TabPOk.cons g61_ok TabPOk.nil)))) TabHOk.nil TabLOk.nil (TabDOk.cons n56 g56_ok (TabDOk.cons n58 g58_ok (TabDOk.cons n62 g62_ok (TabDOk.cons n63 g63_ok TabDOk.nil))))
theorem cx19 : Ctx PR e19 [] (fun _ => none) 2000 19 := ctx_of e19_ok mixed (fn := Go.Proofs.Tryz.f19) (by kernel_rfl) (by kernel_rfl) (by kernel_rfl) (tabOk_none _)
theorem n19 : Enters PR 19 := enters_of (fn := Go.Proofs.Tryz.f19) (by kernel_rfl) (by kernel_rfl) (by kernel_rfl)
noncomputable def g19 : List AV → AH → Nat → Option (Bool × AV × AH) := slimG 4096 (deepC PR e19 8 2000 19 4096 false)
theorem g19_ok : ActOk PR 4096 19 g19 := slimG_ok (deepC_ok cx19 rfl rfl)

/-! (*reliquary/channel.Channel).none -/
noncomputable def e64 : Env := envD eqsT [] [] [] [] [9] false []
theorem e64_ok : EnvOk PR e64 := envD_ok eqsT_ok TabPOk.nil TabHOk.nil TabLOk.nil TabDOk.nil
theorem cx64 : Ctx PR e64 [] (fun _ => none) 2000 64 := ctx_of e64_ok mixed (fn := Go.Proofs.Tryz.f64) (by kernel_rfl) (by kernel_rfl) (by kernel_rfl) (tabOk_none _)
theorem n64 : Enters PR 64 := enters_of (fn := Go.Proofs.Tryz.f64) (by kernel_rfl) (by kernel_rfl) (by kernel_rfl)
noncomputable def g64 : List AV → AH → Nat → Option (Bool × AV × AH) := deepC PR e64 4 2000 64 4096 true
theorem g64_ok : ActOk PR 4096 64 g64 := deepC_ok cx64 rfl rfl

/-! (*reliquary/channel.Channel).Sent -/
noncomputable def e20 : Env := envD eqsT [] [] [] [(64, g64)] [9] false [64]
theorem e20_ok : EnvOk PR e20 := envD_ok eqsT_ok TabPOk.nil TabHOk.nil TabLOk.nil (TabDOk.cons n64 g64_ok TabDOk.nil)
theorem cx20 : Ctx PR e20 [] (fun _ => none) 2000 20 := ctx_of e20_ok mixed (fn := Go.Proofs.Tryz.f20) (by kernel_rfl) (by kernel_rfl) (by kernel_rfl) (tabOk_none _)
theorem n20 : Enters PR 20 := enters_of (fn := Go.Proofs.Tryz.f20) (by kernel_rfl) (by kernel_rfl) (by kernel_rfl)
noncomputable def g20 : List AV → AH → Nat → Option (Bool × AV × AH) := deepC PR e20 4 2000 20 4096 true
theorem g20_ok : ActOk PR 4096 20 g20 := deepC_ok cx20 rfl rfl

/-! (*reliquary/channel.Channel).Highest -/
noncomputable def e21 : Env := envD eqsT [] [] [] [(64, g64)] [9] false [64]
theorem e21_ok : EnvOk PR e21 := envD_ok eqsT_ok TabPOk.nil TabHOk.nil TabLOk.nil (TabDOk.cons n64 g64_ok TabDOk.nil)
theorem cx21 : Ctx PR e21 [] (fun _ => none) 2000 21 := ctx_of e21_ok mixed (fn := Go.Proofs.Tryz.f21) (by kernel_rfl) (by kernel_rfl) (by kernel_rfl) (tabOk_none _)
theorem n21 : Enters PR 21 := enters_of (fn := Go.Proofs.Tryz.f21) (by kernel_rfl) (by kernel_rfl) (by kernel_rfl)
noncomputable def g21 : List AV → AH → Nat → Option (Bool × AV × AH) := deepC PR e21 4 2000 21 4096 true
theorem g21_ok : ActOk PR 4096 21 g21 := deepC_ok cx21 rfl rfl

/-! (*reliquary/channel.Channel).Seal -/
noncomputable def e22 : Env := envD eqsT [] [] [] [(60, g60), (64, g64)] [9] false [64]
theorem e22_ok : EnvOk PR e22 := envD_ok eqsT_ok TabPOk.nil TabHOk.nil TabLOk.nil (TabDOk.cons n60 g60_ok (TabDOk.cons n64 g64_ok TabDOk.nil))
theorem cx22 : Ctx PR e22 [] (fun _ => none) 2000 22 := ctx_of e22_ok mixed (fn := Go.Proofs.Tryz.f22) (by kernel_rfl) (by kernel_rfl) (by kernel_rfl) (tabOk_none _)
theorem n22 : Enters PR 22 := enters_of (fn := Go.Proofs.Tryz.f22) (by kernel_rfl) (by kernel_rfl) (by kernel_rfl)
noncomputable def g22 : List AV → AH → Nat → Option (Bool × AV × AH) := slimG 4096 (deepC PR e22 6 2000 22 4096 false)
theorem g22_ok : ActOk PR 4096 22 g22 := slimG_ok (deepC_ok cx22 rfl rfl)

/-! (*reliquary/channel.Channel).Open -/
noncomputable def e23 : Env := envD eqsT [] [] [] [(63, g63), (64, g64)] [9] false [64]
theorem e23_ok : EnvOk PR e23 := envD_ok eqsT_ok TabPOk.nil TabHOk.nil TabLOk.nil (TabDOk.cons n63 g63_ok (TabDOk.cons n64 g64_ok TabDOk.nil))
theorem cx23 : Ctx PR e23 [] (fun _ => none) 2000 23 := ctx_of e23_ok mixed (fn := Go.Proofs.Tryz.f23) (by kernel_rfl) (by kernel_rfl) (by kernel_rfl) (tabOk_none _)
theorem n23 : Enters PR 23 := enters_of (fn := Go.Proofs.Tryz.f23) (by kernel_rfl) (by kernel_rfl) (by kernel_rfl)
noncomputable def g23 : List AV → AH → Nat → Option (Bool × AV × AH) := slimG 4096 (deepC PR e23 5 2000 23 4096 false)
theorem g23_ok : ActOk PR 4096 23 g23 := slimG_ok (deepC_ok cx23 rfl rfl)

/-! reliquary/channel.Point -/
noncomputable def e24 : Env := envD eqsT [(9, g9), (57, g57), (65, g65)] [] [] [] [9] false []
theorem e24_ok : EnvOk PR e24 := envD_ok eqsT_ok (TabPOk.cons g9_ok (TabPOk.cons g57_ok (TabPOk.cons g65_ok TabPOk.nil))) TabHOk.nil TabLOk.nil TabDOk.nil
theorem cx24 : Ctx PR e24 [] (fun _ => none) 2000 24 := ctx_of e24_ok mixed (fn := Go.Proofs.Tryz.f24) (by kernel_rfl) (by kernel_rfl) (by kernel_rfl) (tabOk_none _)
theorem n24 : Enters PR 24 := enters_of (fn := Go.Proofs.Tryz.f24) (by kernel_rfl) (by kernel_rfl) (by kernel_rfl)
noncomputable def g24 : List AV → Option (Bool × AV) := (inlineC PR e24 5 2000 24)
theorem g24_ok : CallOk PR 24 g24 := (.inl ⟨n24, inlineC_ok cx24 rfl rfl⟩)

/-! reliquary/channel.boxKey -/
noncomputable def e68 : Env := envD eqsT [] [] [] [(52, g52), (100, g100)] [9] false [52, 100]
theorem e68_ok : EnvOk PR e68 := envD_ok eqsT_ok TabPOk.nil TabHOk.nil TabLOk.nil (TabDOk.cons n52 g52_ok (TabDOk.cons n100 g100_ok TabDOk.nil))
theorem cx68 : Ctx PR e68 [] (fun _ => none) 2000 68 := ctx_of e68_ok mixed (fn := Go.Proofs.Tryz.f68) (by kernel_rfl) (by kernel_rfl) (by kernel_rfl) (tabOk_none _)
theorem n68 : Enters PR 68 := enters_of (fn := Go.Proofs.Tryz.f68) (by kernel_rfl) (by kernel_rfl) (by kernel_rfl)
noncomputable def g68 : List AV → AH → Nat → Option (Bool × AV × AH) := deepC PR e68 5 2000 68 4096 true
theorem g68_ok : ActOk PR 4096 68 g68 := deepC_ok cx68 rfl rfl

/-! reliquary/channel.SealPoint -/
noncomputable def e25 : Env := envD eqsT [(66, g66)] [] [] [(67, g67), (68, g68)] [9] false [67, 68]
theorem e25_ok : EnvOk PR e25 := envD_ok eqsT_ok (TabPOk.cons g66_ok TabPOk.nil) TabHOk.nil TabLOk.nil (TabDOk.cons n67 g67_ok (TabDOk.cons n68 g68_ok TabDOk.nil))
theorem cx25 : Ctx PR e25 [] (fun _ => none) 2000 25 := ctx_of e25_ok mixed (fn := Go.Proofs.Tryz.f25) (by kernel_rfl) (by kernel_rfl) (by kernel_rfl) (tabOk_none _)
theorem n25 : Enters PR 25 := enters_of (fn := Go.Proofs.Tryz.f25) (by kernel_rfl) (by kernel_rfl) (by kernel_rfl)
noncomputable def g25 : List AV → AH → Nat → Option (Bool × AV × AH) := deepC PR e25 5 2000 25 4096 true
theorem g25_ok : ActOk PR 4096 25 g25 := deepC_ok cx25 rfl rfl

/-! reliquary/channel.OpenPoint -/
noncomputable def e26 : Env := envD eqsT [(66, g66)] [] [] [(68, g68), (69, g69)] [9] false [68, 69]
theorem e26_ok : EnvOk PR e26 := envD_ok eqsT_ok (TabPOk.cons g66_ok TabPOk.nil) TabHOk.nil TabLOk.nil (TabDOk.cons n68 g68_ok (TabDOk.cons n69 g69_ok TabDOk.nil))
theorem cx26 : Ctx PR e26 [] (fun _ => none) 2000 26 := ctx_of e26_ok mixed (fn := Go.Proofs.Tryz.f26) (by kernel_rfl) (by kernel_rfl) (by kernel_rfl) (tabOk_none _)
theorem n26 : Enters PR 26 := enters_of (fn := Go.Proofs.Tryz.f26) (by kernel_rfl) (by kernel_rfl) (by kernel_rfl)
noncomputable def g26 : List AV → AH → Nat → Option (Bool × AV × AH) := deepC PR e26 6 2000 26 4096 true
theorem g26_ok : ActOk PR 4096 26 g26 := deepC_ok cx26 rfl rfl

/-! reliquary/reliquarylaw16.ChannelKnown -/
noncomputable def e5 : Env := envD eqsT [(16, g16), (24, g24)] [] [] [(15, g15), (17, g17), (18, g18), (19, g19), (20, g20), (21, g21), (22, g22), (23, g23), (25, g25), (26, g26)] [9] false [15, 17, 18, 20, 21, 25, 26]
theorem e5_ok : EnvOk PR e5 := envD_ok eqsT_ok (TabPOk.cons g16_ok (TabPOk.cons g24_ok TabPOk.nil)) TabHOk.nil TabLOk.nil (TabDOk.cons n15 g15_ok (TabDOk.cons n17 g17_ok (TabDOk.cons n18 g18_ok (TabDOk.cons n19 g19_ok (TabDOk.cons n20 g20_ok (TabDOk.cons n21 g21_ok (TabDOk.cons n22 g22_ok (TabDOk.cons n23 g23_ok (TabDOk.cons n25 g25_ok (TabDOk.cons n26 g26_ok TabDOk.nil))))))))))
theorem cx5 : Ctx PR e5 [] (fun _ => none) 2000 5 := ctx_of e5_ok mixed (fn := Go.Proofs.Tryz.f5) (by kernel_rfl) (by kernel_rfl) (by kernel_rfl) (tabOk_none _)
noncomputable def g5 : List AV → Option (Bool × AV) := (inlineC PR e5 9 2000 5)
/-! reliquary/suite.scalars -/
/-! reliquary/suite.Sub$1 -/
/-! reliquary/suite.Mul$1 -/
end Go.Rq.Cl

/- A closed law's functions, each gone through where it is called. Written by a program of ours. -/
namespace Go.Rq.Cl
open Go Go.Proofs Go.Rq Go.Rq.Sm

/-! reliquary/suite.Add$1 -/
/-! reliquary/suite.done -/
/-! reliquary/suite.Mul -/
/-! reliquary/suite.Sub -/
/-! reliquary/words.Shift -/
/-! (*reliquary/modulus.Modulus).half -/
/-! (*reliquary/modulus.Modulus).Inv -/
/-! reliquary/suite.Inv -/
/-! reliquary/proof.Extract -/
/-! reliquary/proof.checked -/
/-! reliquary/proof.times -/
/-! reliquary/suite.bits32 -/
/-! reliquary/suite.joined -/
/-! reliquary/suite.text -/
/-! reliquary/words.Read -/
/-! (*reliquary/modulus.Modulus).Wide -/
/-! reliquary/suite.wide -/
/-! reliquary/suite.HashNum -/
/-! reliquary/proof.challenge -/
/-! reliquary/suite.Add -/
/-! reliquary/proof.answer -/
/-! reliquary/proof.Know -/
end Go.Rq.Cl
