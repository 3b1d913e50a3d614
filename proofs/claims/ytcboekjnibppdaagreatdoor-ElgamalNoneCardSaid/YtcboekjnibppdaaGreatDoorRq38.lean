/- A closed law's functions, each gone through where it is called. Written by a program of ours. -/
import Derived.Test.YtcboekjnibppdaaGreatDoorRq36
import Derived.Test.YtcboekjnibppdaaGreatDoorRq37
namespace Go.Rq
open Go Go.Proofs
def md213_1 : MemD := ⟨[.slc 0 0 17 17, .slc 1 0 17 17], [(0, some ⟨false, 352, [.v (.int .u8 0), .v (.int .u8 0), .v (.int .u8 0), .v (.int .u8 0), .v (.int .u8 0), .v (.int .u8 0), .v (.int .u8 7), .v (.int .u8 120), .v (.int .u8 202), .v (.int .u8 0), .v (.int .u8 0), .v (.int .u8 0), .v (.int .u8 0), .v (.int .u8 0), .v (.int .u8 4), .v (.int .u8 37), .v (.int .u8 121)]⟩), (1, some ⟨false, 352, [.v (.int .u8 0), .v (.int .u8 0), .v (.int .u8 0), .v (.int .u8 0), .v (.int .u8 0), .v (.int .u8 0), .v (.int .u8 5), .v (.int .u8 53), .v (.int .u8 80), .v (.int .u8 0), .v (.int .u8 0), .v (.int .u8 0), .v (.int .u8 0), .v (.int .u8 0), .v (.int .u8 10), .v (.int .u8 130), .v (.int .u8 38)]⟩)], .agg [.v (.int .u8 13), .v (.int .u8 181), .v (.int .u8 127), .v (.int .u8 239), .v (.int .u8 248), .v (.int .u8 87), .v (.int .u8 22), .v (.int .u8 133), .v (.int .u8 105), .v (.int .u8 105), .v (.int .u8 114), .v (.int .u8 182), .v (.int .u8 148), .v (.int .u8 200), .v (.int .u8 57), .v (.int .u8 248), .v (.int .u8 69), .v (.int .u8 43), .v (.int .u8 144), .v (.int .u8 227), .v (.int .u8 189), .v (.int .u8 233), .v (.int .u8 169), .v (.int .u8 118), .v (.int .u8 175), .v (.int .u8 2), .v (.int .u8 255), .v (.int .u8 213), .v (.int .u8 254), .v (.int .u8 53), .v (.int .u8 101), .v (.int .u8 215)]⟩
set_option maxRecDepth 1000000 in
theorem mf213_1 : outC2 (outC (crunF PR e213 3 2000 213 md213_1.as md213_1.h md213_1.h.length)) = some md213_1.r := by kernel_rfl
end Go.Rq

/- A closed law's functions, each gone through where it is called. Written by a program of ours. -/
namespace Go.Rq
open Go Go.Proofs

def mt213 : List MemD := [md213_0, md213_1]
theorem mt213_ok : MemOk PR e213 3 2000 213 mt213 := (MemOk.cons mf213_0 (MemOk.cons mf213_1 MemOk.nil))
noncomputable def g213 : List AV → AH → Nat → Option (Bool × AV × AH) := canG (memoD mt213 (deepC2 PR e213 3 2000 213 4096 true))
theorem g213_ok : ActOk PR 4096 213 g213 := memoD_ok cx213 rfl rfl mt213_ok (by kernel_rfl)

/-! reliquary/elgamal.closing -/
noncomputable def e142 : Env := envD eqsT [] [] [] [(189, g189), (213, g213)] [9] false [189, 213]
theorem e142_ok : EnvOk PR e142 := envD_ok eqsT_ok TabPOk.nil TabHOk.nil TabLOk.nil (TabDOk.cons n189 g189_ok (TabDOk.cons n213 g213_ok TabDOk.nil))
theorem cx142 : Ctx PR e142 [] (fun _ => none) 2000 142 := ctx_of e142_ok mixed (fn := Go.Proofs.Tryz.f142) (by kernel_rfl) (by kernel_rfl) (by kernel_rfl) (tabOk_none _)
theorem n142 : Enters PR 142 := enters_of (fn := Go.Proofs.Tryz.f142) (by kernel_rfl) (by kernel_rfl) (by kernel_rfl)
noncomputable def g142 : List AV → AH → Nat → Option (Bool × AV × AH) := deepC PR e142 6 2000 142 4096 true
theorem g142_ok : ActOk PR 4096 142 g142 := deepC_ok cx142 rfl rfl

/-! reliquary/elgamal.long -/
noncomputable def e143 : Env := envD eqsT [] [] [] [] [9] false []
theorem e143_ok : EnvOk PR e143 := envD_ok eqsT_ok TabPOk.nil TabHOk.nil TabLOk.nil TabDOk.nil
theorem cx143 : Ctx PR e143 [] (fun _ => none) 2000 143 := ctx_of e143_ok mixed (fn := Go.Proofs.Tryz.f143) (by kernel_rfl) (by kernel_rfl) (by kernel_rfl) (tabOk_none _)
theorem n143 : Enters PR 143 := enters_of (fn := Go.Proofs.Tryz.f143) (by kernel_rfl) (by kernel_rfl) (by kernel_rfl)
noncomputable def g143 : List AV → AH → Nat → Option (Bool × AV × AH) := deepC PR e143 3 2000 143 4096 true
theorem g143_ok : ActOk PR 4096 143 g143 := deepC_ok cx143 rfl rfl

/-! reliquary/elgamal.own -/
noncomputable def e144 : Env := envD eqsT [] [] [] [] [9] false []
theorem e144_ok : EnvOk PR e144 := envD_ok eqsT_ok TabPOk.nil TabHOk.nil TabLOk.nil TabDOk.nil
theorem cx144 : Ctx PR e144 [] (fun _ => none) 2000 144 := ctx_of e144_ok mixed (fn := Go.Proofs.Tryz.f144) (by kernel_rfl) (by kernel_rfl) (by kernel_rfl) (tabOk_none _)
theorem n144 : Enters PR 144 := enters_of (fn := Go.Proofs.Tryz.f144) (by kernel_rfl) (by kernel_rfl) (by kernel_rfl)
noncomputable def g144 : List AV → Option (Bool × AV) := (inlineC PR e144 3 2000 144)
theorem g144_ok : CallOk PR 144 g144 := (.inl ⟨n144, inlineC_ok cx144 rfl rfl⟩)

/-! reliquary/cipher.wrong -/
noncomputable def e270 : Env := envD eqsT [] [] [] [] [9] false []
theorem e270_ok : EnvOk PR e270 := envD_ok eqsT_ok TabPOk.nil TabHOk.nil TabLOk.nil TabDOk.nil
theorem cx270 : Ctx PR e270 [] (fun _ => none) 2000 270 := ctx_of e270_ok mixed (fn := Go.Proofs.Tryz.f270) (by kernel_rfl) (by kernel_rfl) (by kernel_rfl) (tabOk_none _)
theorem n270 : Enters PR 270 := enters_of (fn := Go.Proofs.Tryz.f270) (by kernel_rfl) (by kernel_rfl) (by kernel_rfl)
noncomputable def g270 : List AV → AH → Nat → Option (Bool × AV × AH) := deepC PR e270 5 2000 270 4096 true
theorem g270_ok : ActOk PR 4096 270 g270 := deepC_ok cx270 rfl rfl

/-! reliquary/cipher.low32 -/
noncomputable def e325 : Env := envD eqsT [] [] [] [] [9] false []
theorem e325_ok : EnvOk PR e325 := envD_ok eqsT_ok TabPOk.nil TabHOk.nil TabLOk.nil TabDOk.nil
theorem cx325 : Ctx PR e325 [] (fun _ => none) 2000 325 := ctx_of e325_ok mixed (fn := Go.Proofs.Tryz.f325) (by kernel_rfl) (by kernel_rfl) (by kernel_rfl) (tabOk_none _)
theorem n325 : Enters PR 325 := enters_of (fn := Go.Proofs.Tryz.f325) (by kernel_rfl) (by kernel_rfl) (by kernel_rfl)
noncomputable def g325 : List AV → AH → Nat → Option (Bool × AV × AH) := deepC PR e325 5 2000 325 4096 true
theorem g325_ok : ActOk PR 4096 325 g325 := deepC_ok cx325 rfl rfl

/-! math/bits.RotateLeft32 -/
noncomputable def e331 : Env := envD eqsT [] [] [] [] [9] false []
theorem e331_ok : EnvOk PR e331 := envD_ok eqsT_ok TabPOk.nil TabHOk.nil TabLOk.nil TabDOk.nil
theorem cx331 : Ctx PR e331 [] (fun _ => none) 2000 331 := ctx_of e331_ok mixed (fn := Go.Proofs.Tryz.f331) (by kernel_rfl) (by kernel_rfl) (by kernel_rfl) (tabOk_none _)
theorem n331 : Enters PR 331 := enters_of (fn := Go.Proofs.Tryz.f331) (by kernel_rfl) (by kernel_rfl) (by kernel_rfl)
noncomputable def g331 : List AV → Option (Bool × AV) := (inlineC PR e331 5 2000 331)
theorem g331_ok : CallOk PR 331 g331 := (.inl ⟨n331, inlineC_ok cx331 rfl rfl⟩)

/-! reliquary/cipher.quarter -/
noncomputable def e326 : Env := envD eqsT [(331, g331)] [] [] [] [9] false []
theorem e326_ok : EnvOk PR e326 := envD_ok eqsT_ok (TabPOk.cons g331_ok TabPOk.nil) TabHOk.nil TabLOk.nil TabDOk.nil
theorem cx326 : Ctx PR e326 [] (fun _ => none) 2000 326 := ctx_of e326_ok mixed (fn := Go.Proofs.Tryz.f326) (by kernel_rfl) (by kernel_rfl) (by kernel_rfl) (tabOk_none _)
theorem n326 : Enters PR 326 := enters_of (fn := Go.Proofs.Tryz.f326) (by kernel_rfl) (by kernel_rfl) (by kernel_rfl)
noncomputable def g326 : List AV → AH → Nat → Option (Bool × AV × AH) := deepC PR e326 7 2000 326 4096 false
theorem g326_ok : ActOk PR 4096 326 g326 := deepC_ok cx326 rfl rfl

/-! reliquary/cipher.block -/
noncomputable def e311 : Env := envD eqsT [] [] [] [(325, g325), (326, g326)] [9] false [325]
theorem e311_ok : EnvOk PR e311 := envD_ok eqsT_ok TabPOk.nil TabHOk.nil TabLOk.nil (TabDOk.cons n325 g325_ok (TabDOk.cons n326 g326_ok TabDOk.nil))
theorem cx311 : Ctx PR e311 [] (fun _ => none) 2000 311 := ctx_of e311_ok mixed (fn := Go.Proofs.Tryz.f311) (by kernel_rfl) (by kernel_rfl) (by kernel_rfl) (tabOk_none _)
theorem n311 : Enters PR 311 := enters_of (fn := Go.Proofs.Tryz.f311) (by kernel_rfl) (by kernel_rfl) (by kernel_rfl)
end Go.Rq
