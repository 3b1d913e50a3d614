/- A closed law's functions, each gone through where it is called. Written by a program of ours. -/
import Derived.Test.YtcboekjnibppdaaGreatDoorRq35
import Derived.Test.YtcboekjnibppdaaGreatDoorRq36
import Derived.Test.YtcboekjnibppdaaGreatDoorRq37
namespace Go.Rq
open Go Go.Proofs
def md26_4 : MemD := ⟨[.agg [.v (.int .i64 (.ofNat 1)), .u (BitVec.ofNat 64 0), .u (BitVec.ofNat 64 0), .u (BitVec.ofNat 64 0), .u (BitVec.ofNat 64 0), .u (BitVec.ofNat 64 0), .u (BitVec.ofNat 64 0), .u (BitVec.ofNat 64 0), .u (BitVec.ofNat 64 0), .u (BitVec.ofNat 64 0), .u (BitVec.ofNat 64 0), .u (BitVec.ofNat 64 0), .u (BitVec.ofNat 64 0), .v (.bool false), .u (BitVec.ofNat 64 680769), .u (BitVec.ofNat 64 739834), .v (.bool false)], .agg [.u (BitVec.ofNat 64 7), .u (BitVec.ofNat 64 0), .u (BitVec.ofNat 64 0), .u (BitVec.ofNat 64 0), .u (BitVec.ofNat 64 0), .u (BitVec.ofNat 64 0)], .agg [.u (BitVec.ofNat 64 9), .u (BitVec.ofNat 64 0), .u (BitVec.ofNat 64 0), .u (BitVec.ofNat 64 0), .u (BitVec.ofNat 64 0), .u (BitVec.ofNat 64 0)], .own 0 1 0 1], [(0, some ⟨false, 5, [.v (.int .u8 1)]⟩)], .tup [.agg [.v (.int .i64 (.ofNat 1)), .u (BitVec.ofNat 64 0), .u (BitVec.ofNat 64 0), .u (BitVec.ofNat 64 0), .u (BitVec.ofNat 64 0), .u (BitVec.ofNat 64 0), .u (BitVec.ofNat 64 0), .u (BitVec.ofNat 64 0), .u (BitVec.ofNat 64 0), .u (BitVec.ofNat 64 0), .u (BitVec.ofNat 64 0), .u (BitVec.ofNat 64 0), .u (BitVec.ofNat 64 0), .v (.bool false), .u (BitVec.ofNat 64 594312), .u (BitVec.ofNat 64 255989), .v (.bool false), .u (BitVec.ofNat 64 46662), .u (BitVec.ofNat 64 0), .u (BitVec.ofNat 64 0), .u (BitVec.ofNat 64 0), .u (BitVec.ofNat 64 0), .u (BitVec.ofNat 64 0)], .v (.int .i64 (.ofNat 0))]⟩
set_option maxRecDepth 1000000 in
theorem mf26_4 : outC2 (outC (crunF PR e26 6 2000 26 md26_4.as md26_4.h md26_4.h.length)) = some md26_4.r := by kernel_rfl
end Go.Rq

/- A closed law's functions, each gone through where it is called. Written by a program of ours. -/
namespace Go.Rq
open Go Go.Proofs

def mt26 : List MemD := [md26_0, md26_1, md26_2, md26_3, md26_4]
theorem mt26_ok : MemOk PR e26 6 2000 26 mt26 := (MemOk.cons mf26_0 (MemOk.cons mf26_1 (MemOk.cons mf26_2 (MemOk.cons mf26_3 (MemOk.cons mf26_4 MemOk.nil)))))
noncomputable def g26 : List AV → AH → Nat → Option (Bool × AV × AH) := canG (memoD mt26 (deepC2 PR e26 6 2000 26 4096 true))
theorem g26_ok : ActOk PR 4096 26 g26 := memoD_ok cx26 rfl rfl mt26_ok (by kernel_rfl)

/-! (*reliquary/refresh.Session).node -/
noncomputable def e147 : Env := envD eqsT [] [] [] [(145, g145)] [] false [145]
theorem e147_ok : EnvOk PR e147 := envD_ok eqsT_ok TabPOk.nil TabHOk.nil TabLOk.nil (TabDOk.cons n145 g145_ok TabDOk.nil)
theorem cx147 : Ctx PR e147 [] (fun _ => none) 2000 147 := ctx_of e147_ok mixed (fn := Go.Proofs.Tryz.f147) (by kernel_rfl) (by kernel_rfl) (by kernel_rfl) (tabOk_none _)
theorem n147 : Enters PR 147 := enters_of (fn := Go.Proofs.Tryz.f147) (by kernel_rfl) (by kernel_rfl) (by kernel_rfl)
noncomputable def g147 : List AV → AH → Nat → Option (Bool × AV × AH) := deepC PR e147 5 2000 147 4096 true
theorem g147_ok : ActOk PR 4096 147 g147 := deepC_ok cx147 rfl rfl

/-! (*reliquary/refresh.Session).scalars$1 -/
noncomputable def e219 : Env := envD eqsT [(98, (fn2 c6.agg c6.agg (kInt .i64) fun a b => chainV (cmpL a b) 0))] [] [] [] [] false []
theorem e219_ok : EnvOk PR e219 := envD_ok eqsT_ok (TabPOk.cons cmp_ok TabPOk.nil) TabHOk.nil TabLOk.nil TabDOk.nil
theorem cx219 : Ctx PR e219 [] (fun _ => none) 2000 219 := ctx_of e219_ok mixed (fn := Go.Proofs.Tryz.f219) (by kernel_rfl) (by kernel_rfl) (by kernel_rfl) (tabOk_none _)
theorem n219 : Enters PR 219 := enters_of (fn := Go.Proofs.Tryz.f219) (by kernel_rfl) (by kernel_rfl) (by kernel_rfl)
noncomputable def g219 : List AV → AH → Nat → Option (Bool × AV × AH) := deepC PR e219 3 2000 219 4096 true
theorem g219_ok : ActOk PR 4096 219 g219 := deepC_ok cx219 rfl rfl

/-! (*reliquary/dkg.Session).scalars$1 -/
noncomputable def e222 : Env := envD eqsT [(98, (fn2 c6.agg c6.agg (kInt .i64) fun a b => chainV (cmpL a b) 0))] [] [] [] [] false []
theorem e222_ok : EnvOk PR e222 := envD_ok eqsT_ok (TabPOk.cons cmp_ok TabPOk.nil) TabHOk.nil TabLOk.nil TabDOk.nil
theorem cx222 : Ctx PR e222 [] (fun _ => none) 2000 222 := ctx_of e222_ok mixed (fn := Go.Proofs.Tryz.f222) (by kernel_rfl) (by kernel_rfl) (by kernel_rfl) (tabOk_none _)
theorem n222 : Enters PR 222 := enters_of (fn := Go.Proofs.Tryz.f222) (by kernel_rfl) (by kernel_rfl) (by kernel_rfl)
noncomputable def g222 : List AV → AH → Nat → Option (Bool × AV × AH) := deepC PR e222 3 2000 222 4096 true
theorem g222_ok : ActOk PR 4096 222 g222 := deepC_ok cx222 rfl rfl

/-! reliquary/share.scalars$1 -/
noncomputable def e302 : Env := envD eqsT [(98, (fn2 c6.agg c6.agg (kInt .i64) fun a b => chainV (cmpL a b) 0))] [] [] [] [] false []
theorem e302_ok : EnvOk PR e302 := envD_ok eqsT_ok (TabPOk.cons cmp_ok TabPOk.nil) TabHOk.nil TabLOk.nil TabDOk.nil
theorem cx302 : Ctx PR e302 [] (fun _ => none) 2000 302 := ctx_of e302_ok mixed (fn := Go.Proofs.Tryz.f302) (by kernel_rfl) (by kernel_rfl) (by kernel_rfl) (tabOk_none _)
theorem n302 : Enters PR 302 := enters_of (fn := Go.Proofs.Tryz.f302) (by kernel_rfl) (by kernel_rfl) (by kernel_rfl)
noncomputable def g302 : List AV → AH → Nat → Option (Bool × AV × AH) := deepC PR e302 3 2000 302 4096 true
theorem g302_ok : ActOk PR 4096 302 g302 := deepC_ok cx302 rfl rfl

/-! slices.IndexFunc[[]reliquary/api.Num,reliquary/api.Num] -/
noncomputable def e273 : Env := envD eqsT [] [] [] [(219, g219), (222, g222), (302, g302)] [] false [219, 222, 302]
theorem e273_ok : EnvOk PR e273 := envD_ok eqsT_ok TabPOk.nil TabHOk.nil TabLOk.nil (TabDOk.cons n219 g219_ok (TabDOk.cons n222 g222_ok (TabDOk.cons n302 g302_ok TabDOk.nil)))
theorem cx273 : Ctx PR e273 [] (fun _ => none) 2000 273 := ctx_of e273_ok mixed (fn := Go.Proofs.Tryz.f273) (by kernel_rfl) (by kernel_rfl) (by kernel_rfl) (tabOk_none _)
theorem n273 : Enters PR 273 := enters_of (fn := Go.Proofs.Tryz.f273) (by kernel_rfl) (by kernel_rfl) (by kernel_rfl)
noncomputable def g273 : List AV → AH → Nat → Option (Bool × AV × AH) := deepC PR e273 5 2000 273 4096 true
theorem g273_ok : ActOk PR 4096 273 g273 := deepC_ok cx273 rfl rfl

/-! slices.ContainsFunc[[]reliquary/api.Num,reliquary/api.Num] -/
noncomputable def e218 : Env := envD eqsT [] [] [] [(273, g273)] [] false [273]
theorem e218_ok : EnvOk PR e218 := envD_ok eqsT_ok TabPOk.nil TabHOk.nil TabLOk.nil (TabDOk.cons n273 g273_ok TabDOk.nil)
theorem cx218 : Ctx PR e218 [] (fun _ => none) 2000 218 := ctx_of e218_ok mixed (fn := Go.Proofs.Tryz.f218) (by kernel_rfl) (by kernel_rfl) (by kernel_rfl) (tabOk_none _)
theorem n218 : Enters PR 218 := enters_of (fn := Go.Proofs.Tryz.f218) (by kernel_rfl) (by kernel_rfl) (by kernel_rfl)
noncomputable def g218 : List AV → AH → Nat → Option (Bool × AV × AH) := deepC PR e218 4 2000 218 4096 true
theorem g218_ok : ActOk PR 4096 218 g218 := deepC_ok cx218 rfl rfl

/-! (*reliquary/refresh.Session).scalars -/
noncomputable def e148 : Env := envD eqsT [(34, g34)] [] [] [(218, g218)] [] false [218]
theorem e148_ok : EnvOk PR e148 := envD_ok eqsT_ok (TabPOk.cons g34_ok TabPOk.nil) TabHOk.nil TabLOk.nil (TabDOk.cons n218 g218_ok TabDOk.nil)
theorem cx148 : Ctx PR e148 [] (fun _ => none) 2000 148 := ctx_of e148_ok mixed (fn := Go.Proofs.Tryz.f148) (by kernel_rfl) (by kernel_rfl) (by kernel_rfl) (tabOk_none _)
theorem n148 : Enters PR 148 := enters_of (fn := Go.Proofs.Tryz.f148) (by kernel_rfl) (by kernel_rfl) (by kernel_rfl)
noncomputable def g148 : List AV → AH → Nat → Option (Bool × AV × AH) := deepC PR e148 5 2000 148 4096 true
theorem g148_ok : ActOk PR 4096 148 g148 := deepC_ok cx148 rfl rfl

/-! (*reliquary/refresh.Session).dealer -/
noncomputable def e149 : Env := envD eqsT [] [] [] [(134, g134)] [] false [134]
theorem e149_ok : EnvOk PR e149 := envD_ok eqsT_ok TabPOk.nil TabHOk.nil TabLOk.nil (TabDOk.cons n134 g134_ok TabDOk.nil)
theorem cx149 : Ctx PR e149 [] (fun _ => none) 2000 149 := ctx_of e149_ok mixed (fn := Go.Proofs.Tryz.f149) (by kernel_rfl) (by kernel_rfl) (by kernel_rfl) (tabOk_none _)
theorem n149 : Enters PR 149 := enters_of (fn := Go.Proofs.Tryz.f149) (by kernel_rfl) (by kernel_rfl) (by kernel_rfl)
noncomputable def g149 : List AV → AH → Nat → Option (Bool × AV × AH) := deepC PR e149 4 2000 149 4096 true
theorem g149_ok : ActOk PR 4096 149 g149 := deepC_ok cx149 rfl rfl

/-! (*reliquary/refresh.Session).Zero -/
noncomputable def e65 : Env := envD eqsT [(24, (memoA bsT))] [] [] [(26, g26), (147, g147), (148, g148), (149, g149)] [] false [26, 147, 148, 149]
theorem e65_ok : EnvOk PR e65 := envD_ok eqsT_ok (TabPOk.cons bs_ok TabPOk.nil) TabHOk.nil TabLOk.nil (TabDOk.cons n26 g26_ok (TabDOk.cons n147 g147_ok (TabDOk.cons n148 g148_ok (TabDOk.cons n149 g149_ok TabDOk.nil))))
theorem cx65 : Ctx PR e65 [] (fun _ => none) 2000 65 := ctx_of e65_ok mixed (fn := Go.Proofs.Tryz.f65) (by kernel_rfl) (by kernel_rfl) (by kernel_rfl) (tabOk_none _)
theorem n65 : Enters PR 65 := enters_of (fn := Go.Proofs.Tryz.f65) (by kernel_rfl) (by kernel_rfl) (by kernel_rfl)
noncomputable def g65 : List AV → AH → Nat → Option (Bool × AV × AH) := deepC PR e65 6 2000 65 4096 true
theorem g65_ok : ActOk PR 4096 65 g65 := deepC_ok cx65 rfl rfl

/-! reliquary/proof.fits -/
noncomputable def e118 : Env := envD eqsT [(99, g99), (115, g115)] [] [] [] [] false []
theorem e118_ok : EnvOk PR e118 := envD_ok eqsT_ok (TabPOk.cons g99_ok (TabPOk.cons g115_ok TabPOk.nil)) TabHOk.nil TabLOk.nil TabDOk.nil
theorem cx118 : Ctx PR e118 [] (fun _ => none) 2000 118 := ctx_of e118_ok mixed (fn := Go.Proofs.Tryz.f118) (by kernel_rfl) (by kernel_rfl) (by kernel_rfl) (tabOk_none _)
theorem n118 : Enters PR 118 := enters_of (fn := Go.Proofs.Tryz.f118) (by kernel_rfl) (by kernel_rfl) (by kernel_rfl)
noncomputable def g118 : List AV → Option (Bool × AV) := (inlineC PR e118 5 2000 118)
theorem g118_ok : CallOk PR 118 g118 := (.inl ⟨n118, inlineC_ok cx118 rfl rfl⟩)

/-! reliquary/proof.KnowCheck -/
noncomputable def e28 : Env := envD eqsT [(118, g118)] [] [] [(114, g114), (116, g116)] [] false [114, 116]
theorem e28_ok : EnvOk PR e28 := envD_ok eqsT_ok (TabPOk.cons g118_ok TabPOk.nil) TabHOk.nil TabLOk.nil (TabDOk.cons n114 g114_ok (TabDOk.cons n116 g116_ok TabDOk.nil))
theorem cx28 : Ctx PR e28 [] (fun _ => none) 2000 28 := ctx_of e28_ok mixed (fn := Go.Proofs.Tryz.f28) (by kernel_rfl) (by kernel_rfl) (by kernel_rfl) (tabOk_none _)
theorem n28 : Enters PR 28 := enters_of (fn := Go.Proofs.Tryz.f28) (by kernel_rfl) (by kernel_rfl) (by kernel_rfl)
end Go.Rq
