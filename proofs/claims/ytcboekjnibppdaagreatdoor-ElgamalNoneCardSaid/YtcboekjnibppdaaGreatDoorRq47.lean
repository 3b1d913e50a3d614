/- A closed law's functions, each gone through where it is called. Written by a program of ours. -/
import Derived.Test.YtcboekjnibppdaaGreatDoorRq45
import Derived.Test.YtcboekjnibppdaaGreatDoorRq46
import Derived.Test.YtcboekjnibppdaaGreatDoorRq09
namespace Go.Rq
open Go Go.Proofs
def md29_1 : MemD := ⟨[.agg [.v (.int .i64 (.ofNat 1)), .u (BitVec.ofNat 64 0), .u (BitVec.ofNat 64 0), .u (BitVec.ofNat 64 0), .u (BitVec.ofNat 64 0), .u (BitVec.ofNat 64 0), .u (BitVec.ofNat 64 0), .u (BitVec.ofNat 64 0), .u (BitVec.ofNat 64 0), .u (BitVec.ofNat 64 0), .u (BitVec.ofNat 64 0), .u (BitVec.ofNat 64 0), .u (BitVec.ofNat 64 0), .v (.bool false), .u (BitVec.ofNat 64 9723), .u (BitVec.ofNat 64 164643), .v (.bool false)], .agg [.v (.int .i64 (.ofNat 1)), .u (BitVec.ofNat 64 0), .u (BitVec.ofNat 64 0), .u (BitVec.ofNat 64 0), .u (BitVec.ofNat 64 0), .u (BitVec.ofNat 64 0), .u (BitVec.ofNat 64 0), .u (BitVec.ofNat 64 0), .u (BitVec.ofNat 64 0), .u (BitVec.ofNat 64 0), .u (BitVec.ofNat 64 0), .u (BitVec.ofNat 64 0), .u (BitVec.ofNat 64 0), .v (.bool false), .u (BitVec.ofNat 64 489674), .u (BitVec.ofNat 64 271737), .v (.bool false)], .agg [.u (BitVec.ofNat 64 8), .u (BitVec.ofNat 64 0), .u (BitVec.ofNat 64 0), .u (BitVec.ofNat 64 0), .u (BitVec.ofNat 64 0), .u (BitVec.ofNat 64 0)], .agg [.u (BitVec.ofNat 64 3), .u (BitVec.ofNat 64 0), .u (BitVec.ofNat 64 0), .u (BitVec.ofNat 64 0), .u (BitVec.ofNat 64 0), .u (BitVec.ofNat 64 0)], .v (.slice none 0 0)], [], .tup [.agg [.v (.int .i64 (.ofNat 1)), .u (BitVec.ofNat 64 0), .u (BitVec.ofNat 64 0), .u (BitVec.ofNat 64 0), .u (BitVec.ofNat 64 0), .u (BitVec.ofNat 64 0), .u (BitVec.ofNat 64 0), .u (BitVec.ofNat 64 0), .u (BitVec.ofNat 64 0), .u (BitVec.ofNat 64 0), .u (BitVec.ofNat 64 0), .u (BitVec.ofNat 64 0), .u (BitVec.ofNat 64 0), .v (.bool false), .u (BitVec.ofNat 64 261290), .u (BitVec.ofNat 64 279259), .v (.bool false), .v (.int .i64 (.ofNat 1)), .u (BitVec.ofNat 64 0), .u (BitVec.ofNat 64 0), .u (BitVec.ofNat 64 0), .u (BitVec.ofNat 64 0), .u (BitVec.ofNat 64 0), .u (BitVec.ofNat 64 0), .u (BitVec.ofNat 64 0), .u (BitVec.ofNat 64 0), .u (BitVec.ofNat 64 0), .u (BitVec.ofNat 64 0), .u (BitVec.ofNat 64 0), .u (BitVec.ofNat 64 0), .v (.bool false), .u (BitVec.ofNat 64 153016), .u (BitVec.ofNat 64 525695), .v (.bool false), .u (BitVec.ofNat 64 58205), .u (BitVec.ofNat 64 0), .u (BitVec.ofNat 64 0), .u (BitVec.ofNat 64 0), .u (BitVec.ofNat 64 0), .u (BitVec.ofNat 64 0)], .v (.int .i64 (.ofNat 0))]⟩
set_option maxRecDepth 1000000 in
theorem mf29_1 : outC2 (outC (crunF PR e29 6 2000 29 md29_1.as md29_1.h md29_1.h.length)) = some md29_1.r := by kernel_rfl
end Go.Rq

/- A closed law's functions, each gone through where it is called. Written by a program of ours. -/
namespace Go.Rq
open Go Go.Proofs

def mt29 : List MemD := [md29_0, md29_1]
theorem mt29_ok : MemOk PR e29 6 2000 29 mt29 := (MemOk.cons mf29_0 (MemOk.cons mf29_1 MemOk.nil))
noncomputable def g29 : List AV → AH → Nat → Option (Bool × AV × AH) := canG (memoD mt29 (deepC2 PR e29 6 2000 29 4096 true))
theorem g29_ok : ActOk PR 4096 29 g29 := memoD_ok cx29 rfl rfl mt29_ok (by kernel_rfl)

/-! reliquary/elgamal.Part -/
noncomputable def e59 : Env := envD eqsT [(23, g23), (25, g25)] [] [] [(29, g29), (139, g139), (143, g143)] [9] false [29, 139, 143]
theorem e59_ok : EnvOk PR e59 := envD_ok eqsT_ok (TabPOk.cons g23_ok (TabPOk.cons g25_ok TabPOk.nil)) TabHOk.nil TabLOk.nil (TabDOk.cons n29 g29_ok (TabDOk.cons n139 g139_ok (TabDOk.cons n143 g143_ok TabDOk.nil)))
theorem cx59 : Ctx PR e59 [] (fun _ => none) 2000 59 := ctx_of e59_ok mixed (fn := Go.Proofs.Tryz.f59) (by kernel_rfl) (by kernel_rfl) (by kernel_rfl) (tabOk_none _)
theorem n59 : Enters PR 59 := enters_of (fn := Go.Proofs.Tryz.f59) (by kernel_rfl) (by kernel_rfl) (by kernel_rfl)
noncomputable def g59 : List AV → AH → Nat → Option (Bool × AV × AH) := deepC PR e59 6 2000 59 4096 true
theorem g59_ok : ActOk PR 4096 59 g59 := deepC_ok cx59 rfl rfl

/-! reliquary/reliquarylaw26.ElgamalKnown -/
noncomputable def e8 : Env := envD eqsT [(16, (fn1 kU c6.agg ofW)), (53, g53), (55, g55)] [] [(56, tx26)] [(36, g36), (49, g49), (50, g50), (51, g51), (52, g52), (54, g54), (57, g57), (58, g58), (59, g59)] [9] false [36, 49, 50, 52, 54, 57, 58, 59]
theorem e8_ok : EnvOk PR e8 := envD_ok eqsT_ok (TabPOk.cons of_ok (TabPOk.cons g53_ok (TabPOk.cons g55_ok TabPOk.nil))) TabHOk.nil (TabLOk.cons tx26_ent tx26_ok TabLOk.nil) (TabDOk.cons n36 g36_ok (TabDOk.cons n49 g49_ok (TabDOk.cons n50 g50_ok (TabDOk.cons n51 g51_ok (TabDOk.cons n52 g52_ok (TabDOk.cons n54 g54_ok (TabDOk.cons n57 g57_ok (TabDOk.cons n58 g58_ok (TabDOk.cons n59 g59_ok TabDOk.nil)))))))))
theorem cx8 : Ctx PR e8 [] (fun _ => none) 2000 8 := ctx_of e8_ok mixed (fn := Go.Proofs.Tryz.f8) (by kernel_rfl) (by kernel_rfl) (by kernel_rfl) (tabOk_none _)
theorem n8 : Enters PR 8 := enters_of (fn := Go.Proofs.Tryz.f8) (by kernel_rfl) (by kernel_rfl) (by kernel_rfl)
noncomputable def g8 : List AV → Option (Bool × AV) := (inlineC PR e8 8 2000 8)
theorem g8_ok : CallOk PR 8 g8 := (.inl ⟨n8, inlineC_ok cx8 rfl rfl⟩)

/-! reliquary/reliquarylaw26.ElgamalNone -/
noncomputable def e7 : Env := envD eqsT [(53, g53)] [] [] [(49, g49), (50, g50), (51, g51), (52, g52)] [9] false [49, 50, 52]
theorem e7_ok : EnvOk PR e7 := envD_ok eqsT_ok (TabPOk.cons g53_ok TabPOk.nil) TabHOk.nil TabLOk.nil (TabDOk.cons n49 g49_ok (TabDOk.cons n50 g50_ok (TabDOk.cons n51 g51_ok (TabDOk.cons n52 g52_ok TabDOk.nil))))
theorem cx7 : Ctx PR e7 [] (fun _ => none) 2000 7 := ctx_of e7_ok mixed (fn := Go.Proofs.Tryz.f7) (by kernel_rfl) (by kernel_rfl) (by kernel_rfl) (tabOk_none _)
theorem n7 : Enters PR 7 := enters_of (fn := Go.Proofs.Tryz.f7) (by kernel_rfl) (by kernel_rfl) (by kernel_rfl)
noncomputable def g7 : List AV → Option (Bool × AV) := (inlineC PR e7 7 2000 7)
theorem g7_ok : CallOk PR 7 g7 := (.inl ⟨n7, inlineC_ok cx7 rfl rfl⟩)
end Go.Rq

/- The law ElgamalNone, run through at once, whatever it is handed. -/
namespace Go.Rq
open Go Go.Proofs
theorem law_ok : ActOk PR 4096 7 (deepC PR e7 7 2000 7 4096 true) := deepC_ok cx7 rfl rfl
set_option maxRecDepth 1000000 in
theorem law_run : isYes (deepC PR e7 7 2000 7 4096 true [.any, .agg (List.replicate 17 .any)] [] 0) = true := by kernel_rfl
end Go.Rq
