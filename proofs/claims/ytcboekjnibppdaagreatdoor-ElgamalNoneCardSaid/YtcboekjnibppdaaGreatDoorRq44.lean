/- A closed law's functions, each gone through where it is called. Written by a program of ours. -/
import Derived.Test.YtcboekjnibppdaaGreatDoorRq41
import Derived.Test.YtcboekjnibppdaaGreatDoorRq42
import Derived.Test.YtcboekjnibppdaaGreatDoorRq43
namespace Go.Rq
open Go Go.Proofs
def md30_2 : MemD := ⟨[.agg [.v (.int .i64 (.ofNat 1)), .u (BitVec.ofNat 64 0), .u (BitVec.ofNat 64 0), .u (BitVec.ofNat 64 0), .u (BitVec.ofNat 64 0), .u (BitVec.ofNat 64 0), .u (BitVec.ofNat 64 0), .u (BitVec.ofNat 64 0), .u (BitVec.ofNat 64 0), .u (BitVec.ofNat 64 0), .u (BitVec.ofNat 64 0), .u (BitVec.ofNat 64 0), .u (BitVec.ofNat 64 0), .v (.bool false), .u (BitVec.ofNat 64 9723), .u (BitVec.ofNat 64 164643), .v (.bool false)], .agg [.v (.int .i64 (.ofNat 1)), .u (BitVec.ofNat 64 0), .u (BitVec.ofNat 64 0), .u (BitVec.ofNat 64 0), .u (BitVec.ofNat 64 0), .u (BitVec.ofNat 64 0), .u (BitVec.ofNat 64 0), .u (BitVec.ofNat 64 0), .u (BitVec.ofNat 64 0), .u (BitVec.ofNat 64 0), .u (BitVec.ofNat 64 0), .u (BitVec.ofNat 64 0), .u (BitVec.ofNat 64 0), .v (.bool false), .u (BitVec.ofNat 64 412975), .u (BitVec.ofNat 64 657130), .v (.bool false)], .agg [.v (.int .i64 (.ofNat 1)), .u (BitVec.ofNat 64 0), .u (BitVec.ofNat 64 0), .u (BitVec.ofNat 64 0), .u (BitVec.ofNat 64 0), .u (BitVec.ofNat 64 0), .u (BitVec.ofNat 64 0), .u (BitVec.ofNat 64 0), .u (BitVec.ofNat 64 0), .u (BitVec.ofNat 64 0), .u (BitVec.ofNat 64 0), .u (BitVec.ofNat 64 0), .u (BitVec.ofNat 64 0), .v (.bool false), .u (BitVec.ofNat 64 489674), .u (BitVec.ofNat 64 271737), .v (.bool false)], .agg [.v (.int .i64 (.ofNat 1)), .u (BitVec.ofNat 64 0), .u (BitVec.ofNat 64 0), .u (BitVec.ofNat 64 0), .u (BitVec.ofNat 64 0), .u (BitVec.ofNat 64 0), .u (BitVec.ofNat 64 0), .u (BitVec.ofNat 64 0), .u (BitVec.ofNat 64 0), .u (BitVec.ofNat 64 0), .u (BitVec.ofNat 64 0), .u (BitVec.ofNat 64 0), .u (BitVec.ofNat 64 0), .v (.bool false), .u (BitVec.ofNat 64 130057), .u (BitVec.ofNat 64 19027), .v (.bool false)], .agg [.v (.int .i64 (.ofNat 1)), .u (BitVec.ofNat 64 0), .u (BitVec.ofNat 64 0), .u (BitVec.ofNat 64 0), .u (BitVec.ofNat 64 0), .u (BitVec.ofNat 64 0), .u (BitVec.ofNat 64 0), .u (BitVec.ofNat 64 0), .u (BitVec.ofNat 64 0), .u (BitVec.ofNat 64 0), .u (BitVec.ofNat 64 0), .u (BitVec.ofNat 64 0), .u (BitVec.ofNat 64 0), .v (.bool false), .u (BitVec.ofNat 64 261290), .u (BitVec.ofNat 64 279259), .v (.bool false), .v (.int .i64 (.ofNat 1)), .u (BitVec.ofNat 64 0), .u (BitVec.ofNat 64 0), .u (BitVec.ofNat 64 0), .u (BitVec.ofNat 64 0), .u (BitVec.ofNat 64 0), .u (BitVec.ofNat 64 0), .u (BitVec.ofNat 64 0), .u (BitVec.ofNat 64 0), .u (BitVec.ofNat 64 0), .u (BitVec.ofNat 64 0), .u (BitVec.ofNat 64 0), .u (BitVec.ofNat 64 0), .v (.bool false), .u (BitVec.ofNat 64 153016), .u (BitVec.ofNat 64 525695), .v (.bool false), .u (BitVec.ofNat 64 58205), .u (BitVec.ofNat 64 0), .u (BitVec.ofNat 64 0), .u (BitVec.ofNat 64 0), .u (BitVec.ofNat 64 0), .u (BitVec.ofNat 64 0)], .v (.slice none 0 0)], [], .tup [.v (.bool true), .v (.int .i64 (.ofNat 0))]⟩
set_option maxRecDepth 1000000 in
theorem mf30_2 : outC2 (outC (crunF PR e30 6 2000 30 md30_2.as md30_2.h md30_2.h.length)) = some md30_2.r := by kernel_rfl
end Go.Rq

/- A closed law's functions, each gone through where it is called. Written by a program of ours. -/
namespace Go.Rq
open Go Go.Proofs

def mt30 : List MemD := [md30_0, md30_1, md30_2]
theorem mt30_ok : MemOk PR e30 6 2000 30 mt30 := (MemOk.cons mf30_0 (MemOk.cons mf30_1 (MemOk.cons mf30_2 MemOk.nil)))
noncomputable def g30 : List AV → AH → Nat → Option (Bool × AV × AH) := canG (memoD mt30 (deepC2 PR e30 6 2000 30 4096 true))
theorem g30_ok : ActOk PR 4096 30 g30 := memoD_ok cx30 rfl rfl mt30_ok (by kernel_rfl)

/-! slices.Index[[]int,int] -/
noncomputable def e212 : Env := envD eqsT [] [] [] [] [9] false []
theorem e212_ok : EnvOk PR e212 := envD_ok eqsT_ok TabPOk.nil TabHOk.nil TabLOk.nil TabDOk.nil
theorem cx212 : Ctx PR e212 [] (fun _ => none) 2000 212 := ctx_of e212_ok mixed (fn := Go.Proofs.Tryz.f212) (by kernel_rfl) (by kernel_rfl) (by kernel_rfl) (tabOk_none _)
theorem n212 : Enters PR 212 := enters_of (fn := Go.Proofs.Tryz.f212) (by kernel_rfl) (by kernel_rfl) (by kernel_rfl)
noncomputable def g212 : List AV → AH → Nat → Option (Bool × AV × AH) := deepC PR e212 5 2000 212 4096 true
theorem g212_ok : ActOk PR 4096 212 g212 := deepC_ok cx212 rfl rfl

/-! slices.Contains[[]int,int] -/
noncomputable def e140 : Env := envD eqsT [] [] [] [(212, g212)] [9] false [212]
theorem e140_ok : EnvOk PR e140 := envD_ok eqsT_ok TabPOk.nil TabHOk.nil TabLOk.nil (TabDOk.cons n212 g212_ok TabDOk.nil)
theorem cx140 : Ctx PR e140 [] (fun _ => none) 2000 140 := ctx_of e140_ok mixed (fn := Go.Proofs.Tryz.f140) (by kernel_rfl) (by kernel_rfl) (by kernel_rfl) (tabOk_none _)
theorem n140 : Enters PR 140 := enters_of (fn := Go.Proofs.Tryz.f140) (by kernel_rfl) (by kernel_rfl) (by kernel_rfl)
noncomputable def g140 : List AV → AH → Nat → Option (Bool × AV × AH) := deepC PR e140 4 2000 140 4096 true
theorem g140_ok : ActOk PR 4096 140 g140 := deepC_ok cx140 rfl rfl

/-! (*reliquary/elgamal.Session).Add -/
noncomputable def e51 : Env := envD eqsT [(23, g23)] [] [] [(30, g30), (137, g137), (139, g139), (140, g140)] [9] false [30, 137, 139, 140]
theorem e51_ok : EnvOk PR e51 := envD_ok eqsT_ok (TabPOk.cons g23_ok TabPOk.nil) TabHOk.nil TabLOk.nil (TabDOk.cons n30 g30_ok (TabDOk.cons n137 g137_ok (TabDOk.cons n139 g139_ok (TabDOk.cons n140 g140_ok TabDOk.nil))))
theorem cx51 : Ctx PR e51 [] (fun _ => none) 2000 51 := ctx_of e51_ok mixed (fn := Go.Proofs.Tryz.f51) (by kernel_rfl) (by kernel_rfl) (by kernel_rfl) (tabOk_none _)
theorem n51 : Enters PR 51 := enters_of (fn := Go.Proofs.Tryz.f51) (by kernel_rfl) (by kernel_rfl) (by kernel_rfl)
noncomputable def g51 : List AV → AH → Nat → Option (Bool × AV × AH) := deepC PR e51 7 2000 51 4096 false
theorem g51_ok : ActOk PR 4096 51 g51 := deepC_ok cx51 rfl rfl

/-! (*reliquary/elgamal.Session).Parts -/
noncomputable def e52 : Env := envD eqsT [] [] [] [(137, g137)] [9] false [137]
theorem e52_ok : EnvOk PR e52 := envD_ok eqsT_ok TabPOk.nil TabHOk.nil TabLOk.nil (TabDOk.cons n137 g137_ok TabDOk.nil)
theorem cx52 : Ctx PR e52 [] (fun _ => none) 2000 52 := ctx_of e52_ok mixed (fn := Go.Proofs.Tryz.f52) (by kernel_rfl) (by kernel_rfl) (by kernel_rfl) (tabOk_none _)
theorem n52 : Enters PR 52 := enters_of (fn := Go.Proofs.Tryz.f52) (by kernel_rfl) (by kernel_rfl) (by kernel_rfl)
noncomputable def g52 : List AV → AH → Nat → Option (Bool × AV × AH) := deepC PR e52 4 2000 52 4096 true
theorem g52_ok : ActOk PR 4096 52 g52 := deepC_ok cx52 rfl rfl

/-! reliquary/cipher.Seal -/
noncomputable def e215 : Env := envD eqsT [] [] [] [(270, g270), (271, g271), (272, g272)] [9] false [270, 271, 272]
theorem e215_ok : EnvOk PR e215 := envD_ok eqsT_ok TabPOk.nil TabHOk.nil TabLOk.nil (TabDOk.cons n270 g270_ok (TabDOk.cons n271 g271_ok (TabDOk.cons n272 g272_ok TabDOk.nil)))
theorem cx215 : Ctx PR e215 [] (fun _ => none) 2000 215 := ctx_of e215_ok mixed (fn := Go.Proofs.Tryz.f215) (by kernel_rfl) (by kernel_rfl) (by kernel_rfl) (tabOk_none _)
theorem n215 : Enters PR 215 := enters_of (fn := Go.Proofs.Tryz.f215) (by kernel_rfl) (by kernel_rfl) (by kernel_rfl)
noncomputable def g215 : List AV → AH → Nat → Option (Bool × AV × AH) := deepC PR e215 5 2000 215 4096 true
theorem g215_ok : ActOk PR 4096 215 g215 := deepC_ok cx215 rfl rfl

/-! reliquary/elgamal.closing$1 -/
noncomputable def e214 : Env := envD eqsT [] [] [] [(215, g215)] [9] false [215]
theorem e214_ok : EnvOk PR e214 := envD_ok eqsT_ok TabPOk.nil TabHOk.nil TabLOk.nil (TabDOk.cons n215 g215_ok TabDOk.nil)
theorem cx214 : Ctx PR e214 [] (fun _ => none) 2000 214 := ctx_of e214_ok mixed (fn := Go.Proofs.Tryz.f214) (by kernel_rfl) (by kernel_rfl) (by kernel_rfl) (tabOk_none _)
theorem n214 : Enters PR 214 := enters_of (fn := Go.Proofs.Tryz.f214) (by kernel_rfl) (by kernel_rfl) (by kernel_rfl)
noncomputable def g214 : List AV → AH → Nat → Option (Bool × AV × AH) := deepC PR e214 4 2000 214 4096 true
theorem g214_ok : ActOk PR 4096 214 g214 := deepC_ok cx214 rfl rfl

/-! reliquary/elgamal.Put -/
noncomputable def e54 : Env := envD eqsT [(23, g23), (25, g25)] [] [] [(139, g139), (142, g142), (214, g214)] [9] false [139, 142, 214]
theorem e54_ok : EnvOk PR e54 := envD_ok eqsT_ok (TabPOk.cons g23_ok (TabPOk.cons g25_ok TabPOk.nil)) TabHOk.nil TabLOk.nil (TabDOk.cons n139 g139_ok (TabDOk.cons n142 g142_ok (TabDOk.cons n214 g214_ok TabDOk.nil)))
theorem cx54 : Ctx PR e54 [] (fun _ => none) 2000 54 := ctx_of e54_ok mixed (fn := Go.Proofs.Tryz.f54) (by kernel_rfl) (by kernel_rfl) (by kernel_rfl) (tabOk_none _)
theorem n54 : Enters PR 54 := enters_of (fn := Go.Proofs.Tryz.f54) (by kernel_rfl) (by kernel_rfl) (by kernel_rfl)
noncomputable def g54 : List AV → AH → Nat → Option (Bool × AV × AH) := deepC PR e54 7 2000 54 4096 true
theorem g54_ok : ActOk PR 4096 54 g54 := deepC_ok cx54 rfl rfl

/-! reliquary/reliquarylaw26.times -/
noncomputable def e55 : Env := envD eqsT [(16, (fn1 kU c6.agg ofW)), (23, g23), (25, g25)] [] [] [] [9] false []
theorem e55_ok : EnvOk PR e55 := envD_ok eqsT_ok (TabPOk.cons of_ok (TabPOk.cons g23_ok (TabPOk.cons g25_ok TabPOk.nil))) TabHOk.nil TabLOk.nil TabDOk.nil
theorem cx55 : Ctx PR e55 [] (fun _ => none) 2000 55 := ctx_of e55_ok mixed (fn := Go.Proofs.Tryz.f55) (by kernel_rfl) (by kernel_rfl) (by kernel_rfl) (tabOk_none _)
theorem n55 : Enters PR 55 := enters_of (fn := Go.Proofs.Tryz.f55) (by kernel_rfl) (by kernel_rfl) (by kernel_rfl)
noncomputable def g55 : List AV → Option (Bool × AV) := (inlineC PR e55 5 2000 55)
theorem g55_ok : CallOk PR 55 g55 := (.inl ⟨n55, inlineC_ok cx55 rfl rfl⟩)

/-! reliquary/elgamal.Point -/
noncomputable def e141 : Env := envD eqsT [(25, g25)] [] [] [(139, g139), (143, g143)] [9] false [139, 143]
theorem e141_ok : EnvOk PR e141 := envD_ok eqsT_ok (TabPOk.cons g25_ok TabPOk.nil) TabHOk.nil TabLOk.nil (TabDOk.cons n139 g139_ok (TabDOk.cons n143 g143_ok TabDOk.nil))
theorem cx141 : Ctx PR e141 [] (fun _ => none) 2000 141 := ctx_of e141_ok mixed (fn := Go.Proofs.Tryz.f141) (by kernel_rfl) (by kernel_rfl) (by kernel_rfl) (tabOk_none _)
theorem n141 : Enters PR 141 := enters_of (fn := Go.Proofs.Tryz.f141) (by kernel_rfl) (by kernel_rfl) (by kernel_rfl)
noncomputable def g141 : List AV → AH → Nat → Option (Bool × AV × AH) := deepC PR e141 5 2000 141 4096 true
theorem g141_ok : ActOk PR 4096 141 g141 := deepC_ok cx141 rfl rfl

/-! reliquary/reliquarylaw26.awake -/
noncomputable def e53 : Env := envD eqsT [(16, (fn1 kU c6.agg ofW)), (55, g55)] [] [(56, tx26)] [(36, g36), (54, g54), (57, g57), (141, g141)] [9] false [36, 54, 57, 141]
theorem e53_ok : EnvOk PR e53 := envD_ok eqsT_ok (TabPOk.cons of_ok (TabPOk.cons g55_ok TabPOk.nil)) TabHOk.nil (TabLOk.cons tx26_ent tx26_ok TabLOk.nil) (TabDOk.cons n36 g36_ok (TabDOk.cons n54 g54_ok (TabDOk.cons n57 g57_ok (TabDOk.cons n141 g141_ok TabDOk.nil))))
theorem cx53 : Ctx PR e53 [] (fun _ => none) 2000 53 := ctx_of e53_ok mixed (fn := Go.Proofs.Tryz.f53) (by kernel_rfl) (by kernel_rfl) (by kernel_rfl) (tabOk_none _)
theorem n53 : Enters PR 53 := enters_of (fn := Go.Proofs.Tryz.f53) (by kernel_rfl) (by kernel_rfl) (by kernel_rfl)
end Go.Rq
