/- A closed law's functions, each gone through where it is called. Written by a program of ours. -/
import Derived.Test.YtbamkkbefjgeoaaGreatDoorRq23
import Derived.Test.YtbamkkbefjgeoaaGreatDoorRq24
import Derived.Test.YtbamkkbefjgeoaaGreatDoorRq25
import Derived.Test.YtbamkkbefjgeoaaGreatDoorRq26
import Derived.Test.YtbamkkbefjgeoaaGreatDoorRq27
import Derived.Test.YtbamkkbefjgeoaaGreatDoorRq28
import Derived.Test.YtbamkkbefjgeoaaGreatDoorRq29
namespace Go.Rq.Cl
open Go Go.Proofs Go.Rq Go.Rq.Sm
def md175_6 : MemD := ⟨[.slc 0 0 32 32, .own 1 1 0 1], [(0, some ⟨false, 205, [.v (.int .u8 230), .v (.int .u8 33), .v (.int .u8 1), .v (.int .u8 234), .v (.int .u8 81), .v (.int .u8 66), .v (.int .u8 49), .v (.int .u8 179), .v (.int .u8 61), .v (.int .u8 112), .v (.int .u8 218), .v (.int .u8 104), .v (.int .u8 173), .v (.int .u8 17), .v (.int .u8 244), .v (.int .u8 52), .v (.int .u8 230), .v (.int .u8 151), .v (.int .u8 65), .v (.int .u8 139), .v (.int .u8 163), .v (.int .u8 12), .v (.int .u8 216), .v (.int .u8 123), .v (.int .u8 62), .v (.int .u8 161), .v (.int .u8 229), .v (.int .u8 193), .v (.int .u8 80), .v (.int .u8 138), .v (.int .u8 132), .v (.int .u8 99)]⟩), (1, some ⟨false, 5, [.v (.int .u8 1)]⟩)], .agg [.v (.int .u8 152), .v (.int .u8 23), .v (.int .u8 222), .v (.int .u8 159), .v (.int .u8 192), .v (.int .u8 234), .v (.int .u8 11), .v (.int .u8 17), .v (.int .u8 238), .v (.int .u8 146), .v (.int .u8 239), .v (.int .u8 64), .v (.int .u8 73), .v (.int .u8 106), .v (.int .u8 241), .v (.int .u8 122), .v (.int .u8 192), .v (.int .u8 230), .v (.int .u8 34), .v (.int .u8 164), .v (.int .u8 247), .v (.int .u8 99), .v (.int .u8 78), .v (.int .u8 4), .v (.int .u8 65), .v (.int .u8 166), .v (.int .u8 121), .v (.int .u8 226), .v (.int .u8 13), .v (.int .u8 25), .v (.int .u8 145), .v (.int .u8 212)]⟩
set_option maxRecDepth 1000000 in
theorem mf175_6 : outC2 (outC (crunF PR e175 5 2000 175 md175_6.as md175_6.h md175_6.h.length)) = some md175_6.r := by kernel_rfl
end Go.Rq.Cl

/- A closed law's functions, each gone through where it is called. Written by a program of ours. -/
namespace Go.Rq.Cl
open Go Go.Proofs Go.Rq Go.Rq.Sm

def mt175 : List MemD := [md175_0, md175_1, md175_2, md175_3, md175_4, md175_5, md175_6]
theorem mt175_ok : MemOk PR e175 5 2000 175 mt175 := (MemOk.cons mf175_0 (MemOk.cons mf175_1 (MemOk.cons mf175_2 (MemOk.cons mf175_3 (MemOk.cons mf175_4 (MemOk.cons mf175_5 (MemOk.cons mf175_6 MemOk.nil)))))))
noncomputable def g175 : List AV → AH → Nat → Option (Bool × AV × AH) := canG (memoD mt175 (deepC2 PR e175 5 2000 175 4096 true))
theorem g175_ok : ActOk PR 4096 175 g175 := memoD_ok cx175 rfl rfl mt175_ok (by kernel_rfl)

/-! reliquary/mac.Extract -/
noncomputable def e144 : Env := envD eqsT [] [] [] [(175, g175)] [9] false [175]
theorem e144_ok : EnvOk PR e144 := envD_ok eqsT_ok TabPOk.nil TabHOk.nil TabLOk.nil (TabDOk.cons n175 g175_ok TabDOk.nil)
theorem cx144 : Ctx PR e144 [] (fun _ => none) 2000 144 := ctx_of e144_ok mixed (fn := Go.Proofs.Tryz.f144) (by kernel_rfl) (by kernel_rfl) (by kernel_rfl) (tabOk_none _)
theorem n144 : Enters PR 144 := enters_of (fn := Go.Proofs.Tryz.f144) (by kernel_rfl) (by kernel_rfl) (by kernel_rfl)
noncomputable def g144 : List AV → AH → Nat → Option (Bool × AV × AH) := deepC PR e144 3 2000 144 4096 true
theorem g144_ok : ActOk PR 4096 144 g144 := deepC_ok cx144 rfl rfl

/-! reliquary/mac.Expand -/
noncomputable def e145 : Env := envD eqsT [] [] [] [(175, g175)] [9] false [175]
theorem e145_ok : EnvOk PR e145 := envD_ok eqsT_ok TabPOk.nil TabHOk.nil TabLOk.nil (TabDOk.cons n175 g175_ok TabDOk.nil)
theorem cx145 : Ctx PR e145 [] (fun _ => none) 2000 145 := ctx_of e145_ok mixed (fn := Go.Proofs.Tryz.f145) (by kernel_rfl) (by kernel_rfl) (by kernel_rfl) (tabOk_none _)
theorem n145 : Enters PR 145 := enters_of (fn := Go.Proofs.Tryz.f145) (by kernel_rfl) (by kernel_rfl) (by kernel_rfl)
noncomputable def g145 : List AV → AH → Nat → Option (Bool × AV × AH) := deepC PR e145 6 2000 145 4096 true
theorem g145_ok : ActOk PR 4096 145 g145 := deepC_ok cx145 rfl rfl

/-! reliquary/mac.Derive -/
noncomputable def e100 : Env := envD eqsT [] [] [] [(144, g144), (145, g145)] [9] false [144, 145]
theorem e100_ok : EnvOk PR e100 := envD_ok eqsT_ok TabPOk.nil TabHOk.nil TabLOk.nil (TabDOk.cons n144 g144_ok (TabDOk.cons n145 g145_ok TabDOk.nil))
theorem cx100 : Ctx PR e100 [] (fun _ => none) 2000 100 := ctx_of e100_ok mixed (fn := Go.Proofs.Tryz.f100) (by kernel_rfl) (by kernel_rfl) (by kernel_rfl) (tabOk_none _)
theorem n100 : Enters PR 100 := enters_of (fn := Go.Proofs.Tryz.f100) (by kernel_rfl) (by kernel_rfl) (by kernel_rfl)
noncomputable def g100 : List AV → AH → Nat → Option (Bool × AV × AH) := deepC PR e100 5 2000 100 4096 true
theorem g100_ok : ActOk PR 4096 100 g100 := deepC_ok cx100 rfl rfl

/-! (reliquary/wire.laid).put -/
noncomputable def e147 : Env := envD eqsT [] [] [] [] [9] false []
theorem e147_ok : EnvOk PR e147 := envD_ok eqsT_ok TabPOk.nil TabHOk.nil TabLOk.nil TabDOk.nil
theorem cx147 : Ctx PR e147 [] (fun _ => none) 2000 147 := ctx_of e147_ok mixed (fn := Go.Proofs.Tryz.f147) (by kernel_rfl) (by kernel_rfl) (by kernel_rfl) (tabOk_none _)
theorem n147 : Enters PR 147 := enters_of (fn := Go.Proofs.Tryz.f147) (by kernel_rfl) (by kernel_rfl) (by kernel_rfl)
noncomputable def g147 : List AV → AH → Nat → Option (Bool × AV × AH) := slimG 4096 (deepC PR e147 6 2000 147 4096 false)
theorem g147_ok : ActOk PR 4096 147 g147 := slimG_ok (deepC_ok cx147 rfl rfl)

/-! reliquary/wire.Fields -/
noncomputable def e146 : Env := envD eqsT [] [] [] [(147, g147)] [9] false []
theorem e146_ok : EnvOk PR e146 := envD_ok eqsT_ok TabPOk.nil TabHOk.nil TabLOk.nil (TabDOk.cons n147 g147_ok TabDOk.nil)
theorem cx146 : Ctx PR e146 [] (fun _ => none) 2000 146 := ctx_of e146_ok mixed (fn := Go.Proofs.Tryz.f146) (by kernel_rfl) (by kernel_rfl) (by kernel_rfl) (tabOk_none _)
theorem n146 : Enters PR 146 := enters_of (fn := Go.Proofs.Tryz.f146) (by kernel_rfl) (by kernel_rfl) (by kernel_rfl)
noncomputable def g146 : List AV → AH → Nat → Option (Bool × AV × AH) := deepC PR e146 6 2000 146 4096 true
theorem g146_ok : ActOk PR 4096 146 g146 := deepC_ok cx146 rfl rfl

/-! reliquary/channel.text -/
noncomputable def e101 : Env := envD eqsT [] [] [] [(52, g52), (146, g146)] [9] false [52, 146]
theorem e101_ok : EnvOk PR e101 := envD_ok eqsT_ok TabPOk.nil TabHOk.nil TabLOk.nil (TabDOk.cons n52 g52_ok (TabDOk.cons n146 g146_ok TabDOk.nil))
theorem cx101 : Ctx PR e101 [] (fun _ => none) 2000 101 := ctx_of e101_ok mixed (fn := Go.Proofs.Tryz.f101) (by kernel_rfl) (by kernel_rfl) (by kernel_rfl) (tabOk_none _)
theorem n101 : Enters PR 101 := enters_of (fn := Go.Proofs.Tryz.f101) (by kernel_rfl) (by kernel_rfl) (by kernel_rfl)
noncomputable def g101 : List AV → AH → Nat → Option (Bool × AV × AH) := deepC PR e101 5 2000 101 4096 true
theorem g101_ok : ActOk PR 4096 101 g101 := deepC_ok cx101 rfl rfl

/-! reliquary/channel.agreed -/
noncomputable def e58 : Env := envD eqsT [] [] [] [(100, g100), (101, g101)] [9] false [100, 101]
theorem e58_ok : EnvOk PR e58 := envD_ok eqsT_ok TabPOk.nil TabHOk.nil TabLOk.nil (TabDOk.cons n100 g100_ok (TabDOk.cons n101 g101_ok TabDOk.nil))
theorem cx58 : Ctx PR e58 [] (fun _ => none) 2000 58 := ctx_of e58_ok mixed (fn := Go.Proofs.Tryz.f58) (by kernel_rfl) (by kernel_rfl) (by kernel_rfl) (tabOk_none _)
theorem n58 : Enters PR 58 := enters_of (fn := Go.Proofs.Tryz.f58) (by kernel_rfl) (by kernel_rfl) (by kernel_rfl)
noncomputable def g58 : List AV → AH → Nat → Option (Bool × AV × AH) := deepC PR e58 6 2000 58 4096 true
theorem g58_ok : ActOk PR 4096 58 g58 := deepC_ok cx58 rfl rfl

/-! reliquary/cipher.wrong -/
noncomputable def e111 : Env := envD eqsT [] [] [] [] [9] false []
theorem e111_ok : EnvOk PR e111 := envD_ok eqsT_ok TabPOk.nil TabHOk.nil TabLOk.nil TabDOk.nil
theorem cx111 : Ctx PR e111 [] (fun _ => none) 2000 111 := ctx_of e111_ok mixed (fn := Go.Proofs.Tryz.f111) (by kernel_rfl) (by kernel_rfl) (by kernel_rfl) (tabOk_none _)
theorem n111 : Enters PR 111 := enters_of (fn := Go.Proofs.Tryz.f111) (by kernel_rfl) (by kernel_rfl) (by kernel_rfl)
noncomputable def g111 : List AV → AH → Nat → Option (Bool × AV × AH) := deepC PR e111 5 2000 111 4096 true
theorem g111_ok : ActOk PR 4096 111 g111 := deepC_ok cx111 rfl rfl

/-! reliquary/cipher.low32 -/
noncomputable def e176 : Env := envD eqsT [] [] [] [] [9] false []
theorem e176_ok : EnvOk PR e176 := envD_ok eqsT_ok TabPOk.nil TabHOk.nil TabLOk.nil TabDOk.nil
theorem cx176 : Ctx PR e176 [] (fun _ => none) 2000 176 := ctx_of e176_ok mixed (fn := Go.Proofs.Tryz.f176) (by kernel_rfl) (by kernel_rfl) (by kernel_rfl) (tabOk_none _)
theorem n176 : Enters PR 176 := enters_of (fn := Go.Proofs.Tryz.f176) (by kernel_rfl) (by kernel_rfl) (by kernel_rfl)
noncomputable def g176 : List AV → AH → Nat → Option (Bool × AV × AH) := deepC PR e176 5 2000 176 4096 true
theorem g176_ok : ActOk PR 4096 176 g176 := deepC_ok cx176 rfl rfl

/-! math/bits.RotateLeft32 -/
noncomputable def e199 : Env := envD eqsT [] [] [] [] [9] false []
theorem e199_ok : EnvOk PR e199 := envD_ok eqsT_ok TabPOk.nil TabHOk.nil TabLOk.nil TabDOk.nil
theorem cx199 : Ctx PR e199 [] (fun _ => none) 2000 199 := ctx_of e199_ok mixed (fn := Go.Proofs.Tryz.f199) (by kernel_rfl) (by kernel_rfl) (by kernel_rfl) (tabOk_none _)
theorem n199 : Enters PR 199 := enters_of (fn := Go.Proofs.Tryz.f199) (by kernel_rfl) (by kernel_rfl) (by kernel_rfl)
noncomputable def g199 : List AV → Option (Bool × AV) := (inlineC PR e199 5 2000 199)
theorem g199_ok : CallOk PR 199 g199 := (.inl ⟨n199, inlineC_ok cx199 rfl rfl⟩)

/-! reliquary/cipher.quarter -/
noncomputable def e177 : Env := envD eqsT [(199, g199)] [] [] [] [9] false []
theorem e177_ok : EnvOk PR e177 := envD_ok eqsT_ok (TabPOk.cons g199_ok TabPOk.nil) TabHOk.nil TabLOk.nil TabDOk.nil
theorem cx177 : Ctx PR e177 [] (fun _ => none) 2000 177 := ctx_of e177_ok mixed (fn := Go.Proofs.Tryz.f177) (by kernel_rfl) (by kernel_rfl) (by kernel_rfl) (tabOk_none _)
theorem n177 : Enters PR 177 := enters_of (fn := Go.Proofs.Tryz.f177) (by kernel_rfl) (by kernel_rfl) (by kernel_rfl)
noncomputable def g177 : List AV → AH → Nat → Option (Bool × AV × AH) := slimG 4096 (deepC PR e177 7 2000 177 4096 false)
theorem g177_ok : ActOk PR 4096 177 g177 := slimG_ok (deepC_ok cx177 rfl rfl)

/-! reliquary/cipher.block -/
noncomputable def e150 : Env := envD eqsT [] [] [] [(176, g176), (177, g177)] [9] false [176]
theorem e150_ok : EnvOk PR e150 := envD_ok eqsT_ok TabPOk.nil TabHOk.nil TabLOk.nil (TabDOk.cons n176 g176_ok (TabDOk.cons n177 g177_ok TabDOk.nil))
theorem cx150 : Ctx PR e150 [] (fun _ => none) 2000 150 := ctx_of e150_ok mixed (fn := Go.Proofs.Tryz.f150) (by kernel_rfl) (by kernel_rfl) (by kernel_rfl) (tabOk_none _)
theorem n150 : Enters PR 150 := enters_of (fn := Go.Proofs.Tryz.f150) (by kernel_rfl) (by kernel_rfl) (by kernel_rfl)
end Go.Rq.Cl
