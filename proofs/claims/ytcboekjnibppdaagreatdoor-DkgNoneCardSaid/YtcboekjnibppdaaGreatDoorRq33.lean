/- A closed law's functions, each gone through where it is called. Written by a program of ours. -/
import Derived.Test.YtcboekjnibppdaaGreatDoorRq32
import Derived.Test.YtcboekjnibppdaaGreatDoorRq09
namespace Go.Rq
open Go Go.Proofs

def mt26 : List MemD := [md26_0, md26_1]
theorem mt26_ok : MemOk PR e26 6 2000 26 mt26 := (MemOk.cons mf26_0 (MemOk.cons mf26_1 MemOk.nil))
noncomputable def g26 : List AV → AH → Nat → Option (Bool × AV × AH) := canG (memoD mt26 (deepC2 PR e26 6 2000 26 4096 true))
theorem g26_ok : ActOk PR 4096 26 g26 := memoD_ok cx26 rfl rfl mt26_ok (by kernel_rfl)

/-! (*reliquary/refresh.Session).scalars$1 -/
noncomputable def e219 : Env := envD eqsT [(98, (fn2 c6.agg c6.agg (kInt .i64) fun a b => chainV (cmpL a b) 0))] [] [] [] [] false []
theorem e219_ok : EnvOk PR e219 := envD_ok eqsT_ok (TabPOk.cons cmp_ok TabPOk.nil) TabHOk.nil TabLOk.nil TabDOk.nil
theorem cx219 : Ctx PR e219 [] (fun _ => none) 2000 219 := ctx_of e219_ok mixed (fn := Go.Proofs.Tryz.f219) (by kernel_rfl) (by kernel_rfl) (by kernel_rfl) (tabOk_none _)
theorem n219 : Enters PR 219 := enters_of (fn := Go.Proofs.Tryz.f219) (by kernel_rfl) (by kernel_rfl) (by kernel_rfl)
noncomputable def g219 : List AV → AH → Nat → Option (Bool × AV × AH) := deepC PR e219 3 2000 219 4096 true
theorem g219_ok : ActOk PR 4096 219 g219 := deepC_ok cx219 rfl rfl

/-! (*reliquary/dkg.Session).scalars$1 -/
noncomputable def e222 : Env := envD eqsT [(98, (fn2 c6.agg c6.agg (kInt .i64) fun a b => chainV (cmpL a b) 0))] [] [] [] [] false []
theorem e222_ok : EnvOk PR e222 := envD_ok eqsT_ok (TabPOk.cons cmp_ok TabPOk.nil) TabHOk.nil TabLOk.nil TabDOk.nil
theorem cx222 : Ctx PR e222 [] (fun _ => none) 2000 222 := ctx_of e222_ok mixed (fn := Go.Proofs.Tryz.f222) (by kernel_rfl) (by kernel_rfl) (by kernel_rfl) (tabOk_none _)
theorem n222 : Enters PR 222 := enters_of (fn := Go.Proofs.Tryz.f222) (by kernel_rfl) (by kernel_rfl) (by kernel_rfl)
noncomputable def g222 : List AV → AH → Nat → Option (Bool × AV × AH) := deepC PR e222 3 2000 222 4096 true
theorem g222_ok : ActOk PR 4096 222 g222 := deepC_ok cx222 rfl rfl

/-! reliquary/share.scalars$1 -/
noncomputable def e302 : Env := envD eqsT [(98, (fn2 c6.agg c6.agg (kInt .i64) fun a b => chainV (cmpL a b) 0))] [] [] [] [] false []
theorem e302_ok : EnvOk PR e302 := envD_ok eqsT_ok (TabPOk.cons cmp_ok TabPOk.nil) TabHOk.nil TabLOk.nil TabDOk.nil
theorem cx302 : Ctx PR e302 [] (fun _ => none) 2000 302 := ctx_of e302_ok mixed (fn := Go.Proofs.Tryz.f302) (by kernel_rfl) (by kernel_rfl) (by kernel_rfl) (tabOk_none _)
theorem n302 : Enters PR 302 := enters_of (fn := Go.Proofs.Tryz.f302) (by kernel_rfl) (by kernel_rfl) (by kernel_rfl)
noncomputable def g302 : List AV → AH → Nat → Option (Bool × AV × AH) := deepC PR e302 3 2000 302 4096 true
theorem g302_ok : ActOk PR 4096 302 g302 := deepC_ok cx302 rfl rfl

/-! slices.IndexFunc[[]reliquary/api.Num,reliquary/api.Num] -/
noncomputable def e273 : Env := envD eqsT [] [] [] [(219, g219), (222, g222), (302, g302)] [] false [219, 222, 302]
theorem e273_ok : EnvOk PR e273 := envD_ok eqsT_ok TabPOk.nil TabHOk.nil TabLOk.nil (TabDOk.cons n219 g219_ok (TabDOk.cons n222 g222_ok (TabDOk.cons n302 g302_ok TabDOk.nil)))
theorem cx273 : Ctx PR e273 [] (fun _ => none) 2000 273 := ctx_of e273_ok mixed (fn := Go.Proofs.Tryz.f273) (by kernel_rfl) (by kernel_rfl) (by kernel_rfl) (tabOk_none _)
theorem n273 : Enters PR 273 := enters_of (fn := Go.Proofs.Tryz.f273) (by kernel_rfl) (by kernel_rfl) (by kernel_rfl)
noncomputable def g273 : List AV → AH → Nat → Option (Bool × AV × AH) := deepC PR e273 5 2000 273 4096 true
theorem g273_ok : ActOk PR 4096 273 g273 := deepC_ok cx273 rfl rfl

/-! slices.ContainsFunc[[]reliquary/api.Num,reliquary/api.Num] -/
noncomputable def e218 : Env := envD eqsT [] [] [] [(273, g273)] [] false [273]
theorem e218_ok : EnvOk PR e218 := envD_ok eqsT_ok TabPOk.nil TabHOk.nil TabLOk.nil (TabDOk.cons n273 g273_ok TabDOk.nil)
theorem cx218 : Ctx PR e218 [] (fun _ => none) 2000 218 := ctx_of e218_ok mixed (fn := Go.Proofs.Tryz.f218) (by kernel_rfl) (by kernel_rfl) (by kernel_rfl) (tabOk_none _)
theorem n218 : Enters PR 218 := enters_of (fn := Go.Proofs.Tryz.f218) (by kernel_rfl) (by kernel_rfl) (by kernel_rfl)
noncomputable def g218 : List AV → AH → Nat → Option (Bool × AV × AH) := deepC PR e218 4 2000 218 4096 true
theorem g218_ok : ActOk PR 4096 218 g218 := deepC_ok cx218 rfl rfl

/-! (*reliquary/dkg.Session).scalars -/
noncomputable def e153 : Env := envD eqsT [(34, g34)] [] [] [(218, g218)] [] false [218]
theorem e153_ok : EnvOk PR e153 := envD_ok eqsT_ok (TabPOk.cons g34_ok TabPOk.nil) TabHOk.nil TabLOk.nil (TabDOk.cons n218 g218_ok TabDOk.nil)
theorem cx153 : Ctx PR e153 [] (fun _ => none) 2000 153 := ctx_of e153_ok mixed (fn := Go.Proofs.Tryz.f153) (by kernel_rfl) (by kernel_rfl) (by kernel_rfl) (tabOk_none _)
theorem n153 : Enters PR 153 := enters_of (fn := Go.Proofs.Tryz.f153) (by kernel_rfl) (by kernel_rfl) (by kernel_rfl)
noncomputable def g153 : List AV → AH → Nat → Option (Bool × AV × AH) := deepC PR e153 5 2000 153 4096 true
theorem g153_ok : ActOk PR 4096 153 g153 := deepC_ok cx153 rfl rfl

/-! (*reliquary/dkg.Session).closed -/
noncomputable def e154 : Env := envD eqsT [] [] [] [(156, g156)] [] false [156]
theorem e154_ok : EnvOk PR e154 := envD_ok eqsT_ok TabPOk.nil TabHOk.nil TabLOk.nil (TabDOk.cons n156 g156_ok TabDOk.nil)
theorem cx154 : Ctx PR e154 [] (fun _ => none) 2000 154 := ctx_of e154_ok mixed (fn := Go.Proofs.Tryz.f154) (by kernel_rfl) (by kernel_rfl) (by kernel_rfl) (tabOk_none _)
theorem n154 : Enters PR 154 := enters_of (fn := Go.Proofs.Tryz.f154) (by kernel_rfl) (by kernel_rfl) (by kernel_rfl)
noncomputable def g154 : List AV → AH → Nat → Option (Bool × AV × AH) := deepC PR e154 4 2000 154 4096 true
theorem g154_ok : ActOk PR 4096 154 g154 := deepC_ok cx154 rfl rfl

/-! (*reliquary/dkg.Session).bound -/
noncomputable def e155 : Env := envD eqsT [] [] [] [(134, g134)] [] false [134]
theorem e155_ok : EnvOk PR e155 := envD_ok eqsT_ok TabPOk.nil TabHOk.nil TabLOk.nil (TabDOk.cons n134 g134_ok TabDOk.nil)
theorem cx155 : Ctx PR e155 [] (fun _ => none) 2000 155 := ctx_of e155_ok mixed (fn := Go.Proofs.Tryz.f155) (by kernel_rfl) (by kernel_rfl) (by kernel_rfl) (tabOk_none _)
theorem n155 : Enters PR 155 := enters_of (fn := Go.Proofs.Tryz.f155) (by kernel_rfl) (by kernel_rfl) (by kernel_rfl)
noncomputable def g155 : List AV → AH → Nat → Option (Bool × AV × AH) := deepC PR e155 4 2000 155 4096 true
theorem g155_ok : ActOk PR 4096 155 g155 := deepC_ok cx155 rfl rfl

/-! (*reliquary/dkg.Session).Prove -/
noncomputable def e70 : Env := envD eqsT [(23, g23), (24, (memoA bsT)), (25, g25)] [] [] [(20, g20), (26, g26), (152, g152), (153, g153), (154, g154), (155, g155)] [] false [20, 26, 152, 153, 154, 155]
theorem e70_ok : EnvOk PR e70 := envD_ok eqsT_ok (TabPOk.cons g23_ok (TabPOk.cons bs_ok (TabPOk.cons g25_ok TabPOk.nil))) TabHOk.nil TabLOk.nil (TabDOk.cons n20 g20_ok (TabDOk.cons n26 g26_ok (TabDOk.cons n152 g152_ok (TabDOk.cons n153 g153_ok (TabDOk.cons n154 g154_ok (TabDOk.cons n155 g155_ok TabDOk.nil))))))
theorem cx70 : Ctx PR e70 [] (fun _ => none) 2000 70 := ctx_of e70_ok mixed (fn := Go.Proofs.Tryz.f70) (by kernel_rfl) (by kernel_rfl) (by kernel_rfl) (tabOk_none _)
theorem n70 : Enters PR 70 := enters_of (fn := Go.Proofs.Tryz.f70) (by kernel_rfl) (by kernel_rfl) (by kernel_rfl)
noncomputable def g70 : List AV → AH → Nat → Option (Bool × AV × AH) := deepC PR e70 7 2000 70 4096 true
theorem g70_ok : ActOk PR 4096 70 g70 := deepC_ok cx70 rfl rfl

/-! cmp.isNaN[int] -/
noncomputable def e349 : Env := envD eqsT [] [] [] [] [] false []
theorem e349_ok : EnvOk PR e349 := envD_ok eqsT_ok TabPOk.nil TabHOk.nil TabLOk.nil TabDOk.nil
theorem cx349 : Ctx PR e349 [] (fun _ => none) 2000 349 := ctx_of e349_ok mixed (fn := Go.Proofs.Tryz.f349) (by kernel_rfl) (by kernel_rfl) (by kernel_rfl) (tabOk_none _)
theorem n349 : Enters PR 349 := enters_of (fn := Go.Proofs.Tryz.f349) (by kernel_rfl) (by kernel_rfl) (by kernel_rfl)
noncomputable def g349 : List AV → Option (Bool × AV) := (inlineC PR e349 3 2000 349)
theorem g349_ok : CallOk PR 349 g349 := (.inl ⟨n349, inlineC_ok cx349 rfl rfl⟩)

/-! cmp.Less[int] -/
noncomputable def e339 : Env := envD eqsT [(349, g349)] [] [] [] [] false []
theorem e339_ok : EnvOk PR e339 := envD_ok eqsT_ok (TabPOk.cons g349_ok TabPOk.nil) TabHOk.nil TabLOk.nil TabDOk.nil
theorem cx339 : Ctx PR e339 [] (fun _ => none) 2000 339 := ctx_of e339_ok mixed (fn := Go.Proofs.Tryz.f339) (by kernel_rfl) (by kernel_rfl) (by kernel_rfl) (tabOk_none _)
theorem n339 : Enters PR 339 := enters_of (fn := Go.Proofs.Tryz.f339) (by kernel_rfl) (by kernel_rfl) (by kernel_rfl)
noncomputable def g339 : List AV → Option (Bool × AV) := (inlineC PR e339 5 2000 339)
theorem g339_ok : CallOk PR 339 g339 := (.inl ⟨n339, inlineC_ok cx339 rfl rfl⟩)

/-! slices.insertionSortOrdered[int] -/
noncomputable def e333 : Env := envD eqsT [(339, g339)] [] [] [] [] false []
theorem e333_ok : EnvOk PR e333 := envD_ok eqsT_ok (TabPOk.cons g339_ok TabPOk.nil) TabHOk.nil TabLOk.nil TabDOk.nil
theorem cx333 : Ctx PR e333 [] (fun _ => none) 2000 333 := ctx_of e333_ok mixed (fn := Go.Proofs.Tryz.f333) (by kernel_rfl) (by kernel_rfl) (by kernel_rfl) (tabOk_none _)
theorem n333 : Enters PR 333 := enters_of (fn := Go.Proofs.Tryz.f333) (by kernel_rfl) (by kernel_rfl) (by kernel_rfl)
noncomputable def g333 : List AV → AH → Nat → Option (Bool × AV × AH) := deepC PR e333 6 2000 333 4096 false
theorem g333_ok : ActOk PR 4096 333 g333 := deepC_ok cx333 rfl rfl

/-! slices.siftDownOrdered[int] -/
noncomputable def e344 : Env := envD eqsT [(339, g339)] [] [] [] [] false []
theorem e344_ok : EnvOk PR e344 := envD_ok eqsT_ok (TabPOk.cons g339_ok TabPOk.nil) TabHOk.nil TabLOk.nil TabDOk.nil
theorem cx344 : Ctx PR e344 [] (fun _ => none) 2000 344 := ctx_of e344_ok mixed (fn := Go.Proofs.Tryz.f344) (by kernel_rfl) (by kernel_rfl) (by kernel_rfl) (tabOk_none _)
theorem n344 : Enters PR 344 := enters_of (fn := Go.Proofs.Tryz.f344) (by kernel_rfl) (by kernel_rfl) (by kernel_rfl)
noncomputable def g344 : List AV → AH → Nat → Option (Bool × AV × AH) := deepC PR e344 7 2000 344 4096 false
theorem g344_ok : ActOk PR 4096 344 g344 := deepC_ok cx344 rfl rfl

/-! slices.heapSortOrdered[int] -/
noncomputable def e334 : Env := envD eqsT [] [] [] [(344, g344)] [] false []
theorem e334_ok : EnvOk PR e334 := envD_ok eqsT_ok TabPOk.nil TabHOk.nil TabLOk.nil (TabDOk.cons n344 g344_ok TabDOk.nil)
theorem cx334 : Ctx PR e334 [] (fun _ => none) 2000 334 := ctx_of e334_ok mixed (fn := Go.Proofs.Tryz.f334) (by kernel_rfl) (by kernel_rfl) (by kernel_rfl) (tabOk_none _)
theorem n334 : Enters PR 334 := enters_of (fn := Go.Proofs.Tryz.f334) (by kernel_rfl) (by kernel_rfl) (by kernel_rfl)
noncomputable def g334 : List AV → AH → Nat → Option (Bool × AV × AH) := deepC PR e334 6 2000 334 4096 false
theorem g334_ok : ActOk PR 4096 334 g334 := deepC_ok cx334 rfl rfl

/-! math/bits.Len32 -/
noncomputable def e342 : Env := envD eqsT [] [] [] [] [] false []
theorem e342_ok : EnvOk PR e342 := envD_ok eqsT_ok TabPOk.nil TabHOk.nil TabLOk.nil TabDOk.nil
theorem cx342 : Ctx PR e342 [] (fun _ => none) 2000 342 := ctx_of e342_ok mixed (fn := Go.Proofs.Tryz.f342) (by kernel_rfl) (by kernel_rfl) (by kernel_rfl) (tabOk_none _)
theorem n342 : Enters PR 342 := enters_of (fn := Go.Proofs.Tryz.f342) (by kernel_rfl) (by kernel_rfl) (by kernel_rfl)
noncomputable def g342 : List AV → Option (Bool × AV) := (inlineC PR e342 5 2000 342)
theorem g342_ok : CallOk PR 342 g342 := (.inl ⟨n342, inlineC_ok cx342 rfl rfl⟩)

/-! math/bits.Len -/
noncomputable def e324 : Env := envD eqsT [(250, (fn1 kU (kInt .i64) fun x => ((bl x.toNat : Nat) : Int))), (342, g342)] [] [] [] [] false []
theorem e324_ok : EnvOk PR e324 := envD_ok eqsT_ok (TabPOk.cons len64_ok (TabPOk.cons g342_ok TabPOk.nil)) TabHOk.nil TabLOk.nil TabDOk.nil
theorem cx324 : Ctx PR e324 [] (fun _ => none) 2000 324 := ctx_of e324_ok mixed (fn := Go.Proofs.Tryz.f324) (by kernel_rfl) (by kernel_rfl) (by kernel_rfl) (tabOk_none _)
theorem n324 : Enters PR 324 := enters_of (fn := Go.Proofs.Tryz.f324) (by kernel_rfl) (by kernel_rfl) (by kernel_rfl)
noncomputable def g324 : List AV → Option (Bool × AV) := (inlineC PR e324 3 2000 324)
theorem g324_ok : CallOk PR 324 g324 := (.inl ⟨n324, inlineC_ok cx324 rfl rfl⟩)

/-! slices.nextPowerOfTwo -/
noncomputable def e345 : Env := envD eqsT [(324, g324)] [] [] [] [] false []
theorem e345_ok : EnvOk PR e345 := envD_ok eqsT_ok (TabPOk.cons g324_ok TabPOk.nil) TabHOk.nil TabLOk.nil TabDOk.nil
theorem cx345 : Ctx PR e345 [] (fun _ => none) 2000 345 := ctx_of e345_ok mixed (fn := Go.Proofs.Tryz.f345) (by kernel_rfl) (by kernel_rfl) (by kernel_rfl) (tabOk_none _)
theorem n345 : Enters PR 345 := enters_of (fn := Go.Proofs.Tryz.f345) (by kernel_rfl) (by kernel_rfl) (by kernel_rfl)
noncomputable def g345 : List AV → Option (Bool × AV) := (inlineC PR e345 3 2000 345)
theorem g345_ok : CallOk PR 345 g345 := (.inl ⟨n345, inlineC_ok cx345 rfl rfl⟩)

/-! (*slices.xorshift).Next -/
noncomputable def e346 : Env := envD eqsT [] [] [] [] [] false []
theorem e346_ok : EnvOk PR e346 := envD_ok eqsT_ok TabPOk.nil TabHOk.nil TabLOk.nil TabDOk.nil
theorem cx346 : Ctx PR e346 [] (fun _ => none) 2000 346 := ctx_of e346_ok mixed (fn := Go.Proofs.Tryz.f346) (by kernel_rfl) (by kernel_rfl) (by kernel_rfl) (tabOk_none _)
theorem n346 : Enters PR 346 := enters_of (fn := Go.Proofs.Tryz.f346) (by kernel_rfl) (by kernel_rfl) (by kernel_rfl)
noncomputable def g346 : List AV → AH → Nat → Option (Bool × AV × AH) := deepC PR e346 6 2000 346 4096 false
theorem g346_ok : ActOk PR 4096 346 g346 := deepC_ok cx346 rfl rfl

/-! slices.breakPatternsOrdered[int] -/
noncomputable def e335 : Env := envD eqsT [(345, g345)] [] [] [(346, g346)] [] false []
theorem e335_ok : EnvOk PR e335 := envD_ok eqsT_ok (TabPOk.cons g345_ok TabPOk.nil) TabHOk.nil TabLOk.nil (TabDOk.cons n346 g346_ok TabDOk.nil)
theorem cx335 : Ctx PR e335 [] (fun _ => none) 2000 335 := ctx_of e335_ok mixed (fn := Go.Proofs.Tryz.f335) (by kernel_rfl) (by kernel_rfl) (by kernel_rfl) (tabOk_none _)
theorem n335 : Enters PR 335 := enters_of (fn := Go.Proofs.Tryz.f335) (by kernel_rfl) (by kernel_rfl) (by kernel_rfl)
noncomputable def g335 : List AV → AH → Nat → Option (Bool × AV × AH) := deepC PR e335 7 2000 335 4096 false
theorem g335_ok : ActOk PR 4096 335 g335 := deepC_ok cx335 rfl rfl

/-! slices.order2Ordered[int] -/
noncomputable def e351 : Env := envD eqsT [(339, g339)] [] [] [] [] false []
theorem e351_ok : EnvOk PR e351 := envD_ok eqsT_ok (TabPOk.cons g339_ok TabPOk.nil) TabHOk.nil TabLOk.nil TabDOk.nil
theorem cx351 : Ctx PR e351 [] (fun _ => none) 2000 351 := ctx_of e351_ok mixed (fn := Go.Proofs.Tryz.f351) (by kernel_rfl) (by kernel_rfl) (by kernel_rfl) (tabOk_none _)
theorem n351 : Enters PR 351 := enters_of (fn := Go.Proofs.Tryz.f351) (by kernel_rfl) (by kernel_rfl) (by kernel_rfl)
noncomputable def g351 : List AV → AH → Nat → Option (Bool × AV × AH) := deepC PR e351 5 2000 351 4096 false
theorem g351_ok : ActOk PR 4096 351 g351 := deepC_ok cx351 rfl rfl

/-! slices.medianOrdered[int] -/
noncomputable def e348 : Env := envD eqsT [] [] [] [(351, g351)] [] false []
theorem e348_ok : EnvOk PR e348 := envD_ok eqsT_ok TabPOk.nil TabHOk.nil TabLOk.nil (TabDOk.cons n351 g351_ok TabDOk.nil)
theorem cx348 : Ctx PR e348 [] (fun _ => none) 2000 348 := ctx_of e348_ok mixed (fn := Go.Proofs.Tryz.f348) (by kernel_rfl) (by kernel_rfl) (by kernel_rfl) (tabOk_none _)
theorem n348 : Enters PR 348 := enters_of (fn := Go.Proofs.Tryz.f348) (by kernel_rfl) (by kernel_rfl) (by kernel_rfl)
noncomputable def g348 : List AV → AH → Nat → Option (Bool × AV × AH) := deepC PR e348 6 2000 348 4096 false
theorem g348_ok : ActOk PR 4096 348 g348 := deepC_ok cx348 rfl rfl

/-! slices.medianAdjacentOrdered[int] -/
noncomputable def e347 : Env := envD eqsT [] [] [] [(348, g348)] [] false []
theorem e347_ok : EnvOk PR e347 := envD_ok eqsT_ok TabPOk.nil TabHOk.nil TabLOk.nil (TabDOk.cons n348 g348_ok TabDOk.nil)
theorem cx347 : Ctx PR e347 [] (fun _ => none) 2000 347 := ctx_of e347_ok mixed (fn := Go.Proofs.Tryz.f347) (by kernel_rfl) (by kernel_rfl) (by kernel_rfl) (tabOk_none _)
theorem n347 : Enters PR 347 := enters_of (fn := Go.Proofs.Tryz.f347) (by kernel_rfl) (by kernel_rfl) (by kernel_rfl)
noncomputable def g347 : List AV → AH → Nat → Option (Bool × AV × AH) := deepC PR e347 4 2000 347 4096 false
theorem g347_ok : ActOk PR 4096 347 g347 := deepC_ok cx347 rfl rfl

/-! slices.choosePivotOrdered[int] -/
noncomputable def e336 : Env := envD eqsT [] [] [] [(347, g347), (348, g348)] [] false []
theorem e336_ok : EnvOk PR e336 := envD_ok eqsT_ok TabPOk.nil TabHOk.nil TabLOk.nil (TabDOk.cons n347 g347_ok (TabDOk.cons n348 g348_ok TabDOk.nil))
theorem cx336 : Ctx PR e336 [] (fun _ => none) 2000 336 := ctx_of e336_ok mixed (fn := Go.Proofs.Tryz.f336) (by kernel_rfl) (by kernel_rfl) (by kernel_rfl) (tabOk_none _)
theorem n336 : Enters PR 336 := enters_of (fn := Go.Proofs.Tryz.f336) (by kernel_rfl) (by kernel_rfl) (by kernel_rfl)
noncomputable def g336 : List AV → AH → Nat → Option (Bool × AV × AH) := deepC PR e336 6 2000 336 4096 false
theorem g336_ok : ActOk PR 4096 336 g336 := deepC_ok cx336 rfl rfl

/-! slices.reverseRangeOrdered[int] -/
noncomputable def e337 : Env := envD eqsT [] [] [] [] [] false []
theorem e337_ok : EnvOk PR e337 := envD_ok eqsT_ok TabPOk.nil TabHOk.nil TabLOk.nil TabDOk.nil
theorem cx337 : Ctx PR e337 [] (fun _ => none) 2000 337 := ctx_of e337_ok mixed (fn := Go.Proofs.Tryz.f337) (by kernel_rfl) (by kernel_rfl) (by kernel_rfl) (tabOk_none _)
theorem n337 : Enters PR 337 := enters_of (fn := Go.Proofs.Tryz.f337) (by kernel_rfl) (by kernel_rfl) (by kernel_rfl)
noncomputable def g337 : List AV → AH → Nat → Option (Bool × AV × AH) := deepC PR e337 5 2000 337 4096 false
theorem g337_ok : ActOk PR 4096 337 g337 := deepC_ok cx337 rfl rfl

/-! slices.partialInsertionSortOrdered[int] -/
noncomputable def e338 : Env := envD eqsT [(339, g339)] [] [] [] [] false []
theorem e338_ok : EnvOk PR e338 := envD_ok eqsT_ok (TabPOk.cons g339_ok TabPOk.nil) TabHOk.nil TabLOk.nil TabDOk.nil
theorem cx338 : Ctx PR e338 [] (fun _ => none) 2000 338 := ctx_of e338_ok mixed (fn := Go.Proofs.Tryz.f338) (by kernel_rfl) (by kernel_rfl) (by kernel_rfl) (tabOk_none _)
theorem n338 : Enters PR 338 := enters_of (fn := Go.Proofs.Tryz.f338) (by kernel_rfl) (by kernel_rfl) (by kernel_rfl)
noncomputable def g338 : List AV → AH → Nat → Option (Bool × AV × AH) := deepC PR e338 8 2000 338 4096 false
theorem g338_ok : ActOk PR 4096 338 g338 := deepC_ok cx338 rfl rfl

/-! slices.partitionEqualOrdered[int] -/
noncomputable def e340 : Env := envD eqsT [(339, g339)] [] [] [] [] false []
theorem e340_ok : EnvOk PR e340 := envD_ok eqsT_ok (TabPOk.cons g339_ok TabPOk.nil) TabHOk.nil TabLOk.nil TabDOk.nil
theorem cx340 : Ctx PR e340 [] (fun _ => none) 2000 340 := ctx_of e340_ok mixed (fn := Go.Proofs.Tryz.f340) (by kernel_rfl) (by kernel_rfl) (by kernel_rfl) (tabOk_none _)
theorem n340 : Enters PR 340 := enters_of (fn := Go.Proofs.Tryz.f340) (by kernel_rfl) (by kernel_rfl) (by kernel_rfl)
noncomputable def g340 : List AV → AH → Nat → Option (Bool × AV × AH) := deepC PR e340 7 2000 340 4096 false
theorem g340_ok : ActOk PR 4096 340 g340 := deepC_ok cx340 rfl rfl

/-! slices.partitionOrdered[int] -/
noncomputable def e341 : Env := envD eqsT [(339, g339)] [] [] [] [] false []
theorem e341_ok : EnvOk PR e341 := envD_ok eqsT_ok (TabPOk.cons g339_ok TabPOk.nil) TabHOk.nil TabLOk.nil TabDOk.nil
theorem cx341 : Ctx PR e341 [] (fun _ => none) 2000 341 := ctx_of e341_ok mixed (fn := Go.Proofs.Tryz.f341) (by kernel_rfl) (by kernel_rfl) (by kernel_rfl) (tabOk_none _)
theorem n341 : Enters PR 341 := enters_of (fn := Go.Proofs.Tryz.f341) (by kernel_rfl) (by kernel_rfl) (by kernel_rfl)
noncomputable def g341 : List AV → AH → Nat → Option (Bool × AV × AH) := deepC PR e341 8 2000 341 4096 false
theorem g341_ok : ActOk PR 4096 341 g341 := deepC_ok cx341 rfl rfl

/-! slices.pdqsortOrdered[int] -/
noncomputable def e323 : Env := envD eqsT [(339, g339)] [] [] [(333, g333), (334, g334), (335, g335), (336, g336), (337, g337), (338, g338), (340, g340), (341, g341)] [] false []
theorem e323_ok : EnvOk PR e323 := envD_ok eqsT_ok (TabPOk.cons g339_ok TabPOk.nil) TabHOk.nil TabLOk.nil (TabDOk.cons n333 g333_ok (TabDOk.cons n334 g334_ok (TabDOk.cons n335 g335_ok (TabDOk.cons n336 g336_ok (TabDOk.cons n337 g337_ok (TabDOk.cons n338 g338_ok (TabDOk.cons n340 g340_ok (TabDOk.cons n341 g341_ok TabDOk.nil))))))))
theorem cx323 : Ctx PR e323 [] (fun _ => none) 2000 323 := ctx_of e323_ok mixed (fn := Go.Proofs.Tryz.f323) (by kernel_rfl) (by kernel_rfl) (by kernel_rfl) (tabOk_none _)
theorem n323 : Enters PR 323 := enters_of (fn := Go.Proofs.Tryz.f323) (by kernel_rfl) (by kernel_rfl) (by kernel_rfl)
noncomputable def g323 : List AV → AH → Nat → Option (Bool × AV × AH) := deepC PR e323 8 2000 323 4096 false
theorem g323_ok : ActOk PR 4096 323 g323 := deepC_ok cx323 rfl rfl

/-! slices.Sort[[]int,int] -/
noncomputable def e304 : Env := envD eqsT [(324, g324)] [] [] [(323, g323)] [] false []
theorem e304_ok : EnvOk PR e304 := envD_ok eqsT_ok (TabPOk.cons g324_ok TabPOk.nil) TabHOk.nil TabLOk.nil (TabDOk.cons n323 g323_ok TabDOk.nil)
theorem cx304 : Ctx PR e304 [] (fun _ => none) 2000 304 := ctx_of e304_ok mixed (fn := Go.Proofs.Tryz.f304) (by kernel_rfl) (by kernel_rfl) (by kernel_rfl) (tabOk_none _)
theorem n304 : Enters PR 304 := enters_of (fn := Go.Proofs.Tryz.f304) (by kernel_rfl) (by kernel_rfl) (by kernel_rfl)
noncomputable def g304 : List AV → AH → Nat → Option (Bool × AV × AH) := deepC PR e304 4 2000 304 4096 false
theorem g304_ok : ActOk PR 4096 304 g304 := deepC_ok cx304 rfl rfl

/-! slices.Compact[[]int,int] -/
noncomputable def e305 : Env := envD eqsT [] [] [] [] [] false []
theorem e305_ok : EnvOk PR e305 := envD_ok eqsT_ok TabPOk.nil TabHOk.nil TabLOk.nil TabDOk.nil
theorem cx305 : Ctx PR e305 [] (fun _ => none) 2000 305 := ctx_of e305_ok mixed (fn := Go.Proofs.Tryz.f305) (by kernel_rfl) (by kernel_rfl) (by kernel_rfl) (tabOk_none _)
theorem n305 : Enters PR 305 := enters_of (fn := Go.Proofs.Tryz.f305) (by kernel_rfl) (by kernel_rfl) (by kernel_rfl)
noncomputable def g305 : List AV → AH → Nat → Option (Bool × AV × AH) := deepC PR e305 6 2000 305 4096 false
theorem g305_ok : ActOk PR 4096 305 g305 := deepC_ok cx305 rfl rfl

/-! reliquary/share.places -/
noncomputable def e261 : Env := envD eqsT [] [] [] [(164, g164), (220, g220), (304, g304), (305, g305)] [] false [164, 220]
theorem e261_ok : EnvOk PR e261 := envD_ok eqsT_ok TabPOk.nil TabHOk.nil TabLOk.nil (TabDOk.cons n164 g164_ok (TabDOk.cons n220 g220_ok (TabDOk.cons n304 g304_ok (TabDOk.cons n305 g305_ok TabDOk.nil))))
theorem cx261 : Ctx PR e261 [] (fun _ => none) 2000 261 := ctx_of e261_ok mixed (fn := Go.Proofs.Tryz.f261) (by kernel_rfl) (by kernel_rfl) (by kernel_rfl) (tabOk_none _)
theorem n261 : Enters PR 261 := enters_of (fn := Go.Proofs.Tryz.f261) (by kernel_rfl) (by kernel_rfl) (by kernel_rfl)
noncomputable def g261 : List AV → AH → Nat → Option (Bool × AV × AH) := deepC PR e261 6 2000 261 4096 true
theorem g261_ok : ActOk PR 4096 261 g261 := deepC_ok cx261 rfl rfl

/-! reliquary/share.at -/
noncomputable def e208 : Env := envD eqsT [(16, (fn1 kU c6.agg ofW))] [] [] [] [] false []
theorem e208_ok : EnvOk PR e208 := envD_ok eqsT_ok (TabPOk.cons of_ok TabPOk.nil) TabHOk.nil TabLOk.nil TabDOk.nil
theorem cx208 : Ctx PR e208 [] (fun _ => none) 2000 208 := ctx_of e208_ok mixed (fn := Go.Proofs.Tryz.f208) (by kernel_rfl) (by kernel_rfl) (by kernel_rfl) (tabOk_none _)
theorem n208 : Enters PR 208 := enters_of (fn := Go.Proofs.Tryz.f208) (by kernel_rfl) (by kernel_rfl) (by kernel_rfl)
noncomputable def g208 : List AV → Option (Bool × AV) := (inlineC PR e208 3 2000 208)
theorem g208_ok : CallOk PR 208 g208 := (.inl ⟨n208, inlineC_ok cx208 rfl rfl⟩)

/-! (reliquary/share.field).mul -/
noncomputable def e264 : Env := envD eqsT [(122, g122)] [] [] [] [] false []
theorem e264_ok : EnvOk PR e264 := envD_ok eqsT_ok (TabPOk.cons g122_ok TabPOk.nil) TabHOk.nil TabLOk.nil TabDOk.nil
theorem cx264 : Ctx PR e264 [] (fun _ => none) 2000 264 := ctx_of e264_ok mixed (fn := Go.Proofs.Tryz.f264) (by kernel_rfl) (by kernel_rfl) (by kernel_rfl) (tabOk_none _)
theorem n264 : Enters PR 264 := enters_of (fn := Go.Proofs.Tryz.f264) (by kernel_rfl) (by kernel_rfl) (by kernel_rfl)
noncomputable def g264 : List AV → Option (Bool × AV) := (inlineC PR e264 5 2000 264)
theorem g264_ok : CallOk PR 264 g264 := (.inl ⟨n264, inlineC_ok cx264 rfl rfl⟩)

/-! reliquary/suite.Sub -/
noncomputable def e120 : Env := envD eqsT [] [] [] [(194, g194)] [] false [194]
theorem e120_ok : EnvOk PR e120 := envD_ok eqsT_ok TabPOk.nil TabHOk.nil TabLOk.nil (TabDOk.cons n194 g194_ok TabDOk.nil)
theorem cx120 : Ctx PR e120 [] (fun _ => none) 2000 120 := ctx_of e120_ok mixed (fn := Go.Proofs.Tryz.f120) (by kernel_rfl) (by kernel_rfl) (by kernel_rfl) (tabOk_none _)
theorem n120 : Enters PR 120 := enters_of (fn := Go.Proofs.Tryz.f120) (by kernel_rfl) (by kernel_rfl) (by kernel_rfl)
noncomputable def g120 : List AV → Option (Bool × AV) := (inlineC PR e120 4 2000 120)
theorem g120_ok : CallOk PR 120 g120 := (.inl ⟨n120, inlineC_ok cx120 rfl rfl⟩)

/-! (reliquary/share.field).sub -/
noncomputable def e306 : Env := envD eqsT [(120, g120)] [] [] [] [] false []
theorem e306_ok : EnvOk PR e306 := envD_ok eqsT_ok (TabPOk.cons g120_ok TabPOk.nil) TabHOk.nil TabLOk.nil TabDOk.nil
theorem cx306 : Ctx PR e306 [] (fun _ => none) 2000 306 := ctx_of e306_ok mixed (fn := Go.Proofs.Tryz.f306) (by kernel_rfl) (by kernel_rfl) (by kernel_rfl) (tabOk_none _)
theorem n306 : Enters PR 306 := enters_of (fn := Go.Proofs.Tryz.f306) (by kernel_rfl) (by kernel_rfl) (by kernel_rfl)
noncomputable def g306 : List AV → Option (Bool × AV) := (inlineC PR e306 5 2000 306)
theorem g306_ok : CallOk PR 306 g306 := (.inl ⟨n306, inlineC_ok cx306 rfl rfl⟩)

/-! reliquary/words.Shift -/
noncomputable def e241 : Env := envD eqsT [] [] [] [] [] false []
theorem e241_ok : EnvOk PR e241 := envD_ok eqsT_ok TabPOk.nil TabHOk.nil TabLOk.nil TabDOk.nil
theorem cx241 : Ctx PR e241 [] (fun _ => none) 2000 241 := ctx_of e241_ok mixed (fn := Go.Proofs.Tryz.f241) (by kernel_rfl) (by kernel_rfl) (by kernel_rfl) (tabOk_none _)
theorem n241 : Enters PR 241 := enters_of (fn := Go.Proofs.Tryz.f241) (by kernel_rfl) (by kernel_rfl) (by kernel_rfl)
noncomputable def g241 : List AV → Option (Bool × AV) := (inlineC PR e241 7 2000 241)
theorem g241_ok : CallOk PR 241 g241 := (.inl ⟨n241, inlineC_ok cx241 rfl rfl⟩)

/-! (*reliquary/modulus.Modulus).half -/
noncomputable def e258 : Env := envD eqsT [(235, (fn2 c6.agg c6.agg kWB wAddW)), (241, g241)] [] [] [] [] false []
theorem e258_ok : EnvOk PR e258 := envD_ok eqsT_ok (TabPOk.cons wadd_ok (TabPOk.cons g241_ok TabPOk.nil)) TabHOk.nil TabLOk.nil TabDOk.nil
theorem cx258 : Ctx PR e258 [] (fun _ => none) 2000 258 := ctx_of e258_ok mixed (fn := Go.Proofs.Tryz.f258) (by kernel_rfl) (by kernel_rfl) (by kernel_rfl) (tabOk_none _)
theorem n258 : Enters PR 258 := enters_of (fn := Go.Proofs.Tryz.f258) (by kernel_rfl) (by kernel_rfl) (by kernel_rfl)
noncomputable def g258 : List AV → AH → Option (Bool × AV × AH) := viewG PR e258 [] 2000 258
theorem g258_ok : HeapOk PR 258 g258 := view_ok cx258

/-! (*reliquary/modulus.Modulus).Inv -/
noncomputable def e198 : Env := envD eqsT [(16, (fn1 kU c6.agg ofW)), (98, (fn2 c6.agg c6.agg (kInt .i64) fun a b => chainV (cmpL a b) 0)), (241, g241), (257, (fn2 c6.agg c6.agg kWB wSubW))] [(174, (rdp 291 cFa (mc1 c6.agg) c6.agg moRedW)), (196, (rdp 291 cFa (mc2 c6.agg c6.agg) c6.agg (fun m x => qsubW m x.1 x.2))), (232, (rdp 291 cFa mc0 kBool (fun m _ => moNone m))), (258, g258)] [] [] [] false [174, 196, 232, 258]
theorem e198_ok : EnvOk PR e198 := envD_ok eqsT_ok (TabPOk.cons of_ok (TabPOk.cons cmp_ok (TabPOk.cons g241_ok (TabPOk.cons wsub_ok TabPOk.nil)))) (TabHOk.cons mred_ent mred_ok (TabHOk.cons qsub_ent qsub_ok (TabHOk.cons mn_ent mn_ok (TabHOk.cons n258 g258_ok TabHOk.nil)))) TabLOk.nil TabDOk.nil
theorem cx198 : Ctx PR e198 [] (fun _ => none) 2000 198 := ctx_of e198_ok mixed (fn := Go.Proofs.Tryz.f198) (by kernel_rfl) (by kernel_rfl) (by kernel_rfl) (tabOk_none _)
theorem n198 : Enters PR 198 := enters_of (fn := Go.Proofs.Tryz.f198) (by kernel_rfl) (by kernel_rfl) (by kernel_rfl)
noncomputable def g198 : List AV → AH → Nat → Option (Bool × AV × AH) := deepC PR e198 7 2000 198 4096 true
theorem g198_ok : ActOk PR 4096 198 g198 := deepC_ok cx198 rfl rfl

/-! reliquary/suite.Inv -/
noncomputable def e121 : Env := envD eqsT [] [] [] [(197, g197), (198, g198)] [] false [197, 198]
theorem e121_ok : EnvOk PR e121 := envD_ok eqsT_ok TabPOk.nil TabHOk.nil TabLOk.nil (TabDOk.cons n197 g197_ok (TabDOk.cons n198 g198_ok TabDOk.nil))
theorem cx121 : Ctx PR e121 [] (fun _ => none) 2000 121 := ctx_of e121_ok mixed (fn := Go.Proofs.Tryz.f121) (by kernel_rfl) (by kernel_rfl) (by kernel_rfl) (tabOk_none _)
theorem n121 : Enters PR 121 := enters_of (fn := Go.Proofs.Tryz.f121) (by kernel_rfl) (by kernel_rfl) (by kernel_rfl)
end Go.Rq

/- A closed law's functions, each gone through where it is called. Written by a program of ours. -/
namespace Go.Rq
open Go Go.Proofs
def md121_0 : List AV × AV := ([.v (.int .i64 (.ofNat 1)), .agg [.u (BitVec.ofNat 64 1), .u (BitVec.ofNat 64 0), .u (BitVec.ofNat 64 0), .u (BitVec.ofNat 64 0), .u (BitVec.ofNat 64 0), .u (BitVec.ofNat 64 0)]], .tup [.agg [.u (BitVec.ofNat 64 1), .u (BitVec.ofNat 64 0), .u (BitVec.ofNat 64 0), .u (BitVec.ofNat 64 0), .u (BitVec.ofNat 64 0), .u (BitVec.ofNat 64 0)], .v (.int .i64 (.ofNat 0))])
set_option maxRecDepth 1000000 in
theorem mf121_0 : canQ (inlineC PR e121 5 2000 121) md121_0.1 = some (true, md121_0.2) := by kernel_rfl
def md121_1 : List AV × AV := ([.v (.int .i64 (.ofNat 1)), .agg [.u (BitVec.ofNat 64 65520), .u (BitVec.ofNat 64 0), .u (BitVec.ofNat 64 0), .u (BitVec.ofNat 64 0), .u (BitVec.ofNat 64 0), .u (BitVec.ofNat 64 0)]], .tup [.agg [.u (BitVec.ofNat 64 65520), .u (BitVec.ofNat 64 0), .u (BitVec.ofNat 64 0), .u (BitVec.ofNat 64 0), .u (BitVec.ofNat 64 0), .u (BitVec.ofNat 64 0)], .v (.int .i64 (.ofNat 0))])
set_option maxRecDepth 1000000 in
theorem mf121_1 : canQ (inlineC PR e121 5 2000 121) md121_1.1 = some (true, md121_1.2) := by kernel_rfl
end Go.Rq

/- A closed law's functions, each gone through where it is called. Written by a program of ours. -/
namespace Go.Rq
open Go Go.Proofs

def mt121 : List (List AV × AV) := [md121_0, md121_1]
theorem mt121_ok : ∀ p ∈ mt121, canQ (inlineC PR e121 5 2000 121) p.1 = some (true, p.2) := fun p hp => by
  rcases List.mem_cons.1 hp with rfl | hp
  · exact mf121_0
  rcases List.mem_cons.1 hp with rfl | hp
  · exact mf121_1
  cases hp
noncomputable def g121 : List AV → Option (Bool × AV) := canP (memoE (canQ (inlineC PR e121 5 2000 121)) mt121)
theorem g121_ok : CallOk PR 121 g121 := canP_ok (memoE_ok (canQ_ok (.inl ⟨n121, inlineC_ok cx121 rfl rfl⟩)) mt121_ok)

/-! (reliquary/share.field).inv -/
noncomputable def e307 : Env := envD eqsT [(121, g121)] [] [] [] [] false []
theorem e307_ok : EnvOk PR e307 := envD_ok eqsT_ok (TabPOk.cons g121_ok TabPOk.nil) TabHOk.nil TabLOk.nil TabDOk.nil
theorem cx307 : Ctx PR e307 [] (fun _ => none) 2000 307 := ctx_of e307_ok mixed (fn := Go.Proofs.Tryz.f307) (by kernel_rfl) (by kernel_rfl) (by kernel_rfl) (tabOk_none _)
theorem n307 : Enters PR 307 := enters_of (fn := Go.Proofs.Tryz.f307) (by kernel_rfl) (by kernel_rfl) (by kernel_rfl)
noncomputable def g307 : List AV → Option (Bool × AV) := (inlineC PR e307 4 2000 307)
theorem g307_ok : CallOk PR 307 g307 := (.inl ⟨n307, inlineC_ok cx307 rfl rfl⟩)

/-! (reliquary/share.field).lagrange -/
noncomputable def e262 : Env := envD eqsT [(16, (fn1 kU c6.agg ofW)), (208, g208), (264, g264), (306, g306), (307, g307)] [] [] [] [] false []
theorem e262_ok : EnvOk PR e262 := envD_ok eqsT_ok (TabPOk.cons of_ok (TabPOk.cons g208_ok (TabPOk.cons g264_ok (TabPOk.cons g306_ok (TabPOk.cons g307_ok TabPOk.nil))))) TabHOk.nil TabLOk.nil TabDOk.nil
theorem cx262 : Ctx PR e262 [] (fun _ => none) 2000 262 := ctx_of e262_ok mixed (fn := Go.Proofs.Tryz.f262) (by kernel_rfl) (by kernel_rfl) (by kernel_rfl) (tabOk_none _)
theorem n262 : Enters PR 262 := enters_of (fn := Go.Proofs.Tryz.f262) (by kernel_rfl) (by kernel_rfl) (by kernel_rfl)
noncomputable def g262 : List AV → AH → Nat → Option (Bool × AV × AH) := deepC PR e262 6 2000 262 4096 true
theorem g262_ok : ActOk PR 4096 262 g262 := deepC_ok cx262 rfl rfl

/-! reliquary/share.JoinKeys$1 -/
noncomputable def e211 : Env := envD eqsT [] [] [] [] [] false []
theorem e211_ok : EnvOk PR e211 := envD_ok eqsT_ok TabPOk.nil TabHOk.nil TabLOk.nil TabDOk.nil
theorem cx211 : Ctx PR e211 [] (fun _ => none) 2000 211 := ctx_of e211_ok mixed (fn := Go.Proofs.Tryz.f211) (by kernel_rfl) (by kernel_rfl) (by kernel_rfl) (tabOk_none _)
theorem n211 : Enters PR 211 := enters_of (fn := Go.Proofs.Tryz.f211) (by kernel_rfl) (by kernel_rfl) (by kernel_rfl)
noncomputable def g211 : List AV → Option (Bool × AV) := (inlineC PR e211 3 2000 211)
theorem g211_ok : CallOk PR 211 g211 := (.inl ⟨n211, inlineC_ok cx211 rfl rfl⟩)

/-! reliquary/share.joined[reliquary/api.Key]$1 -/
noncomputable def e268 : Env := envA eqsT [(211, g211)] [] [] [] [] [] true []
theorem e268_ok : EnvOk PR e268 := envA_ok eqsT_ok (TabPOk.cons g211_ok TabPOk.nil) TabHOk.nil TabLOk.nil TabAOk.nil
theorem cx268 : Ctx PR e268 [] (fun _ => none) 2000 268 := ctx_of e268_ok mixed (fn := Go.Proofs.Tryz.f268) (by kernel_rfl) (by kernel_rfl) (by kernel_rfl) (tabOk_none _)
theorem n268 : Enters PR 268 := enters_of (fn := Go.Proofs.Tryz.f268) (by kernel_rfl) (by kernel_rfl) (by kernel_rfl)
noncomputable def g268 : List AV → AH → Nat → Option (Bool × AV × AH) := deepC PR e268 4 2000 268 4096 true
theorem g268_ok : ActOk PR 4096 268 g268 := deepC_ok cx268 rfl rfl

/-! slices.IndexFunc[[]reliquary/api.Key,reliquary/api.Key] -/
noncomputable def e309 : Env := envD eqsT [] [] [] [(268, g268)] [] false [268]
theorem e309_ok : EnvOk PR e309 := envD_ok eqsT_ok TabPOk.nil TabHOk.nil TabLOk.nil (TabDOk.cons n268 g268_ok TabDOk.nil)
theorem cx309 : Ctx PR e309 [] (fun _ => none) 2000 309 := ctx_of e309_ok mixed (fn := Go.Proofs.Tryz.f309) (by kernel_rfl) (by kernel_rfl) (by kernel_rfl) (tabOk_none _)
theorem n309 : Enters PR 309 := enters_of (fn := Go.Proofs.Tryz.f309) (by kernel_rfl) (by kernel_rfl) (by kernel_rfl)
noncomputable def g309 : List AV → AH → Nat → Option (Bool × AV × AH) := deepC PR e309 5 2000 309 4096 true
theorem g309_ok : ActOk PR 4096 309 g309 := deepC_ok cx309 rfl rfl

/-! slices.ContainsFunc[[]reliquary/api.Key,reliquary/api.Key] -/
noncomputable def e267 : Env := envD eqsT [] [] [] [(309, g309)] [] false [309]
theorem e267_ok : EnvOk PR e267 := envD_ok eqsT_ok TabPOk.nil TabHOk.nil TabLOk.nil (TabDOk.cons n309 g309_ok TabDOk.nil)
theorem cx267 : Ctx PR e267 [] (fun _ => none) 2000 267 := ctx_of e267_ok mixed (fn := Go.Proofs.Tryz.f267) (by kernel_rfl) (by kernel_rfl) (by kernel_rfl) (tabOk_none _)
theorem n267 : Enters PR 267 := enters_of (fn := Go.Proofs.Tryz.f267) (by kernel_rfl) (by kernel_rfl) (by kernel_rfl)
noncomputable def g267 : List AV → AH → Nat → Option (Bool × AV × AH) := deepC PR e267 4 2000 267 4096 true
theorem g267_ok : ActOk PR 4096 267 g267 := deepC_ok cx267 rfl rfl

/-! reliquary/share.joined[reliquary/api.Key] -/
noncomputable def e210 : Env := envD eqsT [(25, g25), (99, g99), (101, g101), (211, g211)] [] [] [(261, g261), (262, g262), (267, g267)] [] false [261, 262, 267]
theorem e210_ok : EnvOk PR e210 := envD_ok eqsT_ok (TabPOk.cons g25_ok (TabPOk.cons g99_ok (TabPOk.cons g101_ok (TabPOk.cons g211_ok TabPOk.nil)))) TabHOk.nil TabLOk.nil (TabDOk.cons n261 g261_ok (TabDOk.cons n262 g262_ok (TabDOk.cons n267 g267_ok TabDOk.nil)))
theorem cx210 : Ctx PR e210 [] (fun _ => none) 2000 210 := ctx_of e210_ok mixed (fn := Go.Proofs.Tryz.f210) (by kernel_rfl) (by kernel_rfl) (by kernel_rfl) (tabOk_none _)
theorem n210 : Enters PR 210 := enters_of (fn := Go.Proofs.Tryz.f210) (by kernel_rfl) (by kernel_rfl) (by kernel_rfl)
noncomputable def g210 : List AV → AH → Nat → Option (Bool × AV × AH) := deepC PR e210 7 2000 210 4096 true
theorem g210_ok : ActOk PR 4096 210 g210 := deepC_ok cx210 rfl rfl

/-! reliquary/share.JoinKeys -/
noncomputable def e138 : Env := envD eqsT [] [] [] [(210, g210)] [] false [210]
theorem e138_ok : EnvOk PR e138 := envD_ok eqsT_ok TabPOk.nil TabHOk.nil TabLOk.nil (TabDOk.cons n210 g210_ok TabDOk.nil)
theorem cx138 : Ctx PR e138 [] (fun _ => none) 2000 138 := ctx_of e138_ok mixed (fn := Go.Proofs.Tryz.f138) (by kernel_rfl) (by kernel_rfl) (by kernel_rfl) (tabOk_none _)
theorem n138 : Enters PR 138 := enters_of (fn := Go.Proofs.Tryz.f138) (by kernel_rfl) (by kernel_rfl) (by kernel_rfl)
end Go.Rq

/- A closed law's functions, each gone through where it is called. Written by a program of ours. -/
namespace Go.Rq
open Go Go.Proofs
def md138_0 : MemD := ⟨[.own 0 1 0 2, .own 1 17 0 2, .v (.int .i64 (.ofNat 0))], [(0, some ⟨false, 3, [.v (.int .i64 (.ofNat 2)), .v (.int .i64 (.ofNat 3))]⟩), (1, some ⟨false, 37, [.v (.int .i64 (.ofNat 1)), .u (BitVec.ofNat 64 0), .u (BitVec.ofNat 64 0), .u (BitVec.ofNat 64 0), .u (BitVec.ofNat 64 0), .u (BitVec.ofNat 64 0), .u (BitVec.ofNat 64 0), .u (BitVec.ofNat 64 0), .u (BitVec.ofNat 64 0), .u (BitVec.ofNat 64 0), .u (BitVec.ofNat 64 0), .u (BitVec.ofNat 64 0), .u (BitVec.ofNat 64 0), .v (.bool false), .u (BitVec.ofNat 64 565298), .u (BitVec.ofNat 64 509300), .v (.bool false), .v (.int .i64 (.ofNat 1)), .u (BitVec.ofNat 64 0), .u (BitVec.ofNat 64 0), .u (BitVec.ofNat 64 0), .u (BitVec.ofNat 64 0), .u (BitVec.ofNat 64 0), .u (BitVec.ofNat 64 0), .u (BitVec.ofNat 64 0), .u (BitVec.ofNat 64 0), .u (BitVec.ofNat 64 0), .u (BitVec.ofNat 64 0), .u (BitVec.ofNat 64 0), .u (BitVec.ofNat 64 0), .v (.bool false), .u (BitVec.ofNat 64 550481), .u (BitVec.ofNat 64 616660), .v (.bool false)]⟩)], .tup [.agg [.v (.int .i64 (.ofNat 1)), .u (BitVec.ofNat 64 0), .u (BitVec.ofNat 64 0), .u (BitVec.ofNat 64 0), .u (BitVec.ofNat 64 0), .u (BitVec.ofNat 64 0), .u (BitVec.ofNat 64 0), .u (BitVec.ofNat 64 0), .u (BitVec.ofNat 64 0), .u (BitVec.ofNat 64 0), .u (BitVec.ofNat 64 0), .u (BitVec.ofNat 64 0), .u (BitVec.ofNat 64 0), .v (.bool false), .u (BitVec.ofNat 64 459524), .u (BitVec.ofNat 64 603534), .v (.bool false)], .v (.int .i64 (.ofNat 0))]⟩
set_option maxRecDepth 1000000 in
theorem mf138_0 : outC2 (outC (crunF PR e138 4 2000 138 md138_0.as md138_0.h md138_0.h.length)) = some md138_0.r := by kernel_rfl
def md138_1 : MemD := ⟨[.own 0 1 0 2, .own 1 17 0 2, .v (.int .i64 (.ofNat 1))], [(0, some ⟨false, 3, [.v (.int .i64 (.ofNat 2)), .v (.int .i64 (.ofNat 3))]⟩), (1, some ⟨false, 37, [.v (.int .i64 (.ofNat 1)), .u (BitVec.ofNat 64 0), .u (BitVec.ofNat 64 0), .u (BitVec.ofNat 64 0), .u (BitVec.ofNat 64 0), .u (BitVec.ofNat 64 0), .u (BitVec.ofNat 64 0), .u (BitVec.ofNat 64 0), .u (BitVec.ofNat 64 0), .u (BitVec.ofNat 64 0), .u (BitVec.ofNat 64 0), .u (BitVec.ofNat 64 0), .u (BitVec.ofNat 64 0), .v (.bool false), .u (BitVec.ofNat 64 565298), .u (BitVec.ofNat 64 509300), .v (.bool false), .v (.int .i64 (.ofNat 1)), .u (BitVec.ofNat 64 0), .u (BitVec.ofNat 64 0), .u (BitVec.ofNat 64 0), .u (BitVec.ofNat 64 0), .u (BitVec.ofNat 64 0), .u (BitVec.ofNat 64 0), .u (BitVec.ofNat 64 0), .u (BitVec.ofNat 64 0), .u (BitVec.ofNat 64 0), .u (BitVec.ofNat 64 0), .u (BitVec.ofNat 64 0), .u (BitVec.ofNat 64 0), .v (.bool false), .u (BitVec.ofNat 64 550481), .u (BitVec.ofNat 64 616660), .v (.bool false)]⟩)], .tup [.agg [.v (.int .i64 (.ofNat 1)), .u (BitVec.ofNat 64 0), .u (BitVec.ofNat 64 0), .u (BitVec.ofNat 64 0), .u (BitVec.ofNat 64 0), .u (BitVec.ofNat 64 0), .u (BitVec.ofNat 64 0), .u (BitVec.ofNat 64 0), .u (BitVec.ofNat 64 0), .u (BitVec.ofNat 64 0), .u (BitVec.ofNat 64 0), .u (BitVec.ofNat 64 0), .u (BitVec.ofNat 64 0), .v (.bool false), .u (BitVec.ofNat 64 389245), .u (BitVec.ofNat 64 497882), .v (.bool false)], .v (.int .i64 (.ofNat 0))]⟩
set_option maxRecDepth 1000000 in
theorem mf138_1 : outC2 (outC (crunF PR e138 4 2000 138 md138_1.as md138_1.h md138_1.h.length)) = some md138_1.r := by kernel_rfl
end Go.Rq

/- A closed law's functions, each gone through where it is called. Written by a program of ours. -/
namespace Go.Rq
open Go Go.Proofs
def md138_2 : MemD := ⟨[.own 0 1 0 2, .own 1 17 0 2, .v (.int .i64 (.ofNat 2))], [(0, some ⟨false, 3, [.v (.int .i64 (.ofNat 2)), .v (.int .i64 (.ofNat 3))]⟩), (1, some ⟨false, 37, [.v (.int .i64 (.ofNat 1)), .u (BitVec.ofNat 64 0), .u (BitVec.ofNat 64 0), .u (BitVec.ofNat 64 0), .u (BitVec.ofNat 64 0), .u (BitVec.ofNat 64 0), .u (BitVec.ofNat 64 0), .u (BitVec.ofNat 64 0), .u (BitVec.ofNat 64 0), .u (BitVec.ofNat 64 0), .u (BitVec.ofNat 64 0), .u (BitVec.ofNat 64 0), .u (BitVec.ofNat 64 0), .v (.bool false), .u (BitVec.ofNat 64 565298), .u (BitVec.ofNat 64 509300), .v (.bool false), .v (.int .i64 (.ofNat 1)), .u (BitVec.ofNat 64 0), .u (BitVec.ofNat 64 0), .u (BitVec.ofNat 64 0), .u (BitVec.ofNat 64 0), .u (BitVec.ofNat 64 0), .u (BitVec.ofNat 64 0), .u (BitVec.ofNat 64 0), .u (BitVec.ofNat 64 0), .u (BitVec.ofNat 64 0), .u (BitVec.ofNat 64 0), .u (BitVec.ofNat 64 0), .u (BitVec.ofNat 64 0), .v (.bool false), .u (BitVec.ofNat 64 550481), .u (BitVec.ofNat 64 616660), .v (.bool false)]⟩)], .tup [.agg [.v (.int .i64 (.ofNat 1)), .u (BitVec.ofNat 64 0), .u (BitVec.ofNat 64 0), .u (BitVec.ofNat 64 0), .u (BitVec.ofNat 64 0), .u (BitVec.ofNat 64 0), .u (BitVec.ofNat 64 0), .u (BitVec.ofNat 64 0), .u (BitVec.ofNat 64 0), .u (BitVec.ofNat 64 0), .u (BitVec.ofNat 64 0), .u (BitVec.ofNat 64 0), .u (BitVec.ofNat 64 0), .v (.bool false), .u (BitVec.ofNat 64 565298), .u (BitVec.ofNat 64 509300), .v (.bool false)], .v (.int .i64 (.ofNat 0))]⟩
set_option maxRecDepth 1000000 in
theorem mf138_2 : outC2 (outC (crunF PR e138 4 2000 138 md138_2.as md138_2.h md138_2.h.length)) = some md138_2.r := by kernel_rfl
end Go.Rq

/- A closed law's functions, each gone through where it is called. Written by a program of ours. -/
namespace Go.Rq
open Go Go.Proofs

def mt138 : List MemD := [md138_0, md138_1, md138_2]
theorem mt138_ok : MemOk PR e138 4 2000 138 mt138 := (MemOk.cons mf138_0 (MemOk.cons mf138_1 (MemOk.cons mf138_2 MemOk.nil)))
noncomputable def g138 : List AV → AH → Nat → Option (Bool × AV × AH) := canG (memoD mt138 (deepC2 PR e138 4 2000 138 4096 true))
theorem g138_ok : ActOk PR 4096 138 g138 := memoD_ok cx138 rfl rfl mt138_ok (by kernel_rfl)

/-! (*reliquary/dkg.Session).at -/
noncomputable def e157 : Env := envD eqsT [] [] [] [(86, g86), (138, g138)] [] false [86, 138]
theorem e157_ok : EnvOk PR e157 := envD_ok eqsT_ok TabPOk.nil TabHOk.nil TabLOk.nil (TabDOk.cons n86 g86_ok (TabDOk.cons n138 g138_ok TabDOk.nil))
theorem cx157 : Ctx PR e157 [] (fun _ => none) 2000 157 := ctx_of e157_ok mixed (fn := Go.Proofs.Tryz.f157) (by kernel_rfl) (by kernel_rfl) (by kernel_rfl) (tabOk_none _)
theorem n157 : Enters PR 157 := enters_of (fn := Go.Proofs.Tryz.f157) (by kernel_rfl) (by kernel_rfl) (by kernel_rfl)
noncomputable def g157 : List AV → AH → Nat → Option (Bool × AV × AH) := deepC PR e157 6 2000 157 4096 true
theorem g157_ok : ActOk PR 4096 157 g157 := deepC_ok cx157 rfl rfl

/-! (*reliquary/dkg.Session).Public -/
noncomputable def e71 : Env := envD eqsT [] [] [] [(156, g156), (157, g157)] [] false [156, 157]
theorem e71_ok : EnvOk PR e71 := envD_ok eqsT_ok TabPOk.nil TabHOk.nil TabLOk.nil (TabDOk.cons n156 g156_ok (TabDOk.cons n157 g157_ok TabDOk.nil))
theorem cx71 : Ctx PR e71 [] (fun _ => none) 2000 71 := ctx_of e71_ok mixed (fn := Go.Proofs.Tryz.f71) (by kernel_rfl) (by kernel_rfl) (by kernel_rfl) (tabOk_none _)
theorem n71 : Enters PR 71 := enters_of (fn := Go.Proofs.Tryz.f71) (by kernel_rfl) (by kernel_rfl) (by kernel_rfl)
noncomputable def g71 : List AV → AH → Nat → Option (Bool × AV × AH) := deepC PR e71 4 2000 71 4096 true
theorem g71_ok : ActOk PR 4096 71 g71 := deepC_ok cx71 rfl rfl

/-! reliquary/proof.fits -/
noncomputable def e118 : Env := envD eqsT [(99, g99), (115, g115)] [] [] [] [] false []
theorem e118_ok : EnvOk PR e118 := envD_ok eqsT_ok (TabPOk.cons g99_ok (TabPOk.cons g115_ok TabPOk.nil)) TabHOk.nil TabLOk.nil TabDOk.nil
theorem cx118 : Ctx PR e118 [] (fun _ => none) 2000 118 := ctx_of e118_ok mixed (fn := Go.Proofs.Tryz.f118) (by kernel_rfl) (by kernel_rfl) (by kernel_rfl) (tabOk_none _)
theorem n118 : Enters PR 118 := enters_of (fn := Go.Proofs.Tryz.f118) (by kernel_rfl) (by kernel_rfl) (by kernel_rfl)
noncomputable def g118 : List AV → Option (Bool × AV) := (inlineC PR e118 5 2000 118)
theorem g118_ok : CallOk PR 118 g118 := (.inl ⟨n118, inlineC_ok cx118 rfl rfl⟩)

/-! reliquary/proof.KnowCheck -/
noncomputable def e28 : Env := envD eqsT [(118, g118)] [] [] [(114, g114), (116, g116)] [] false [114, 116]
theorem e28_ok : EnvOk PR e28 := envD_ok eqsT_ok (TabPOk.cons g118_ok TabPOk.nil) TabHOk.nil TabLOk.nil (TabDOk.cons n114 g114_ok (TabDOk.cons n116 g116_ok TabDOk.nil))
theorem cx28 : Ctx PR e28 [] (fun _ => none) 2000 28 := ctx_of e28_ok mixed (fn := Go.Proofs.Tryz.f28) (by kernel_rfl) (by kernel_rfl) (by kernel_rfl) (tabOk_none _)
theorem n28 : Enters PR 28 := enters_of (fn := Go.Proofs.Tryz.f28) (by kernel_rfl) (by kernel_rfl) (by kernel_rfl)
end Go.Rq

/- A closed law's functions, each gone through where it is called. Written by a program of ours. -/
namespace Go.Rq
open Go Go.Proofs
def md28_0 : MemD := ⟨[.agg [.v (.int .i64 (.ofNat 1)), .u (BitVec.ofNat 64 0), .u (BitVec.ofNat 64 0), .u (BitVec.ofNat 64 0), .u (BitVec.ofNat 64 0), .u (BitVec.ofNat 64 0), .u (BitVec.ofNat 64 0), .u (BitVec.ofNat 64 0), .u (BitVec.ofNat 64 0), .u (BitVec.ofNat 64 0), .u (BitVec.ofNat 64 0), .u (BitVec.ofNat 64 0), .u (BitVec.ofNat 64 0), .v (.bool false), .u (BitVec.ofNat 64 680769), .u (BitVec.ofNat 64 739834), .v (.bool false)], .agg [.v (.int .i64 (.ofNat 1)), .u (BitVec.ofNat 64 0), .u (BitVec.ofNat 64 0), .u (BitVec.ofNat 64 0), .u (BitVec.ofNat 64 0), .u (BitVec.ofNat 64 0), .u (BitVec.ofNat 64 0), .u (BitVec.ofNat 64 0), .u (BitVec.ofNat 64 0), .u (BitVec.ofNat 64 0), .u (BitVec.ofNat 64 0), .u (BitVec.ofNat 64 0), .u (BitVec.ofNat 64 0), .v (.bool false), .u (BitVec.ofNat 64 356054), .u (BitVec.ofNat 64 760697), .v (.bool false)], .agg [.v (.int .i64 (.ofNat 1)), .u (BitVec.ofNat 64 0), .u (BitVec.ofNat 64 0), .u (BitVec.ofNat 64 0), .u (BitVec.ofNat 64 0), .u (BitVec.ofNat 64 0), .u (BitVec.ofNat 64 0), .u (BitVec.ofNat 64 0), .u (BitVec.ofNat 64 0), .u (BitVec.ofNat 64 0), .u (BitVec.ofNat 64 0), .u (BitVec.ofNat 64 0), .u (BitVec.ofNat 64 0), .v (.bool false), .u (BitVec.ofNat 64 594312), .u (BitVec.ofNat 64 255989), .v (.bool false), .u (BitVec.ofNat 64 14640), .u (BitVec.ofNat 64 0), .u (BitVec.ofNat 64 0), .u (BitVec.ofNat 64 0), .u (BitVec.ofNat 64 0), .u (BitVec.ofNat 64 0)], .own 0 1 0 1], [(0, some ⟨false, 5, [.v (.int .u8 3)]⟩)], .tup [.v (.bool true), .v (.int .i64 (.ofNat 0))]⟩
set_option maxRecDepth 1000000 in
theorem mf28_0 : outC2 (outC (crunF PR e28 6 2000 28 md28_0.as md28_0.h md28_0.h.length)) = some md28_0.r := by kernel_rfl
def md28_1 : MemD := ⟨[.agg [.v (.int .i64 (.ofNat 1)), .u (BitVec.ofNat 64 0), .u (BitVec.ofNat 64 0), .u (BitVec.ofNat 64 0), .u (BitVec.ofNat 64 0), .u (BitVec.ofNat 64 0), .u (BitVec.ofNat 64 0), .u (BitVec.ofNat 64 0), .u (BitVec.ofNat 64 0), .u (BitVec.ofNat 64 0), .u (BitVec.ofNat 64 0), .u (BitVec.ofNat 64 0), .u (BitVec.ofNat 64 0), .v (.bool false), .u (BitVec.ofNat 64 680769), .u (BitVec.ofNat 64 739834), .v (.bool false)], .agg [.v (.int .i64 (.ofNat 1)), .u (BitVec.ofNat 64 0), .u (BitVec.ofNat 64 0), .u (BitVec.ofNat 64 0), .u (BitVec.ofNat 64 0), .u (BitVec.ofNat 64 0), .u (BitVec.ofNat 64 0), .u (BitVec.ofNat 64 0), .u (BitVec.ofNat 64 0), .u (BitVec.ofNat 64 0), .u (BitVec.ofNat 64 0), .u (BitVec.ofNat 64 0), .u (BitVec.ofNat 64 0), .v (.bool false), .u (BitVec.ofNat 64 62469), .u (BitVec.ofNat 64 6668), .v (.bool false)], .agg [.v (.int .i64 (.ofNat 1)), .u (BitVec.ofNat 64 0), .u (BitVec.ofNat 64 0), .u (BitVec.ofNat 64 0), .u (BitVec.ofNat 64 0), .u (BitVec.ofNat 64 0), .u (BitVec.ofNat 64 0), .u (BitVec.ofNat 64 0), .u (BitVec.ofNat 64 0), .u (BitVec.ofNat 64 0), .u (BitVec.ofNat 64 0), .u (BitVec.ofNat 64 0), .u (BitVec.ofNat 64 0), .v (.bool false), .u (BitVec.ofNat 64 594312), .u (BitVec.ofNat 64 255989), .v (.bool false), .u (BitVec.ofNat 64 45570), .u (BitVec.ofNat 64 0), .u (BitVec.ofNat 64 0), .u (BitVec.ofNat 64 0), .u (BitVec.ofNat 64 0), .u (BitVec.ofNat 64 0)], .own 0 1 0 1], [(0, some ⟨false, 5, [.v (.int .u8 2)]⟩)], .tup [.v (.bool true), .v (.int .i64 (.ofNat 0))]⟩
set_option maxRecDepth 1000000 in
theorem mf28_1 : outC2 (outC (crunF PR e28 6 2000 28 md28_1.as md28_1.h md28_1.h.length)) = some md28_1.r := by kernel_rfl
end Go.Rq

/- A closed law's functions, each gone through where it is called. Written by a program of ours. -/
namespace Go.Rq
open Go Go.Proofs

def mt28 : List MemD := [md28_0, md28_1]
theorem mt28_ok : MemOk PR e28 6 2000 28 mt28 := (MemOk.cons mf28_0 (MemOk.cons mf28_1 MemOk.nil))
noncomputable def g28 : List AV → AH → Nat → Option (Bool × AV × AH) := canG (memoD mt28 (deepC2 PR e28 6 2000 28 4096 true))
theorem g28_ok : ActOk PR 4096 28 g28 := memoD_ok cx28 rfl rfl mt28_ok (by kernel_rfl)

/-! reliquary/little.Neg -/
noncomputable def e193 : Env := envD eqsT [(245, (fn3 kCv kU kU kU lSub))] [] [] [(187, g187)] [] false [187]
theorem e193_ok : EnvOk PR e193 := envD_ok eqsT_ok (TabPOk.cons ls_ok TabPOk.nil) TabHOk.nil TabLOk.nil (TabDOk.cons n187 g187_ok TabDOk.nil)
theorem cx193 : Ctx PR e193 [] (fun _ => none) 2000 193 := ctx_of e193_ok mixed (fn := Go.Proofs.Tryz.f193) (by kernel_rfl) (by kernel_rfl) (by kernel_rfl) (tabOk_none _)
theorem n193 : Enters PR 193 := enters_of (fn := Go.Proofs.Tryz.f193) (by kernel_rfl) (by kernel_rfl) (by kernel_rfl)
noncomputable def g193 : List AV → Option (Bool × AV) := (inlineC PR e193 5 2000 193)
theorem g193_ok : CallOk PR 193 g193 := (.inl ⟨n193, inlineC_ok cx193 rfl rfl⟩)

/-! reliquary/suite.KeyNeg -/
noncomputable def e119 : Env := envD eqsT [(193, g193)] [] [] [(111, g111)] [] false [111]
theorem e119_ok : EnvOk PR e119 := envD_ok eqsT_ok (TabPOk.cons g193_ok TabPOk.nil) TabHOk.nil TabLOk.nil (TabDOk.cons n111 g111_ok TabDOk.nil)
theorem cx119 : Ctx PR e119 [] (fun _ => none) 2000 119 := ctx_of e119_ok mixed (fn := Go.Proofs.Tryz.f119) (by kernel_rfl) (by kernel_rfl) (by kernel_rfl) (tabOk_none _)
theorem n119 : Enters PR 119 := enters_of (fn := Go.Proofs.Tryz.f119) (by kernel_rfl) (by kernel_rfl) (by kernel_rfl)
noncomputable def g119 : List AV → Option (Bool × AV) := (inlineC PR e119 6 2000 119)
theorem g119_ok : CallOk PR 119 g119 := (.inl ⟨n119, inlineC_ok cx119 rfl rfl⟩)

/-! slices.Index[[]int,int] -/
noncomputable def e212 : Env := envD eqsT [] [] [] [] [] false []
theorem e212_ok : EnvOk PR e212 := envD_ok eqsT_ok TabPOk.nil TabHOk.nil TabLOk.nil TabDOk.nil
theorem cx212 : Ctx PR e212 [] (fun _ => none) 2000 212 := ctx_of e212_ok mixed (fn := Go.Proofs.Tryz.f212) (by kernel_rfl) (by kernel_rfl) (by kernel_rfl) (tabOk_none _)
theorem n212 : Enters PR 212 := enters_of (fn := Go.Proofs.Tryz.f212) (by kernel_rfl) (by kernel_rfl) (by kernel_rfl)
noncomputable def g212 : List AV → AH → Nat → Option (Bool × AV × AH) := deepC PR e212 5 2000 212 4096 true
theorem g212_ok : ActOk PR 4096 212 g212 := deepC_ok cx212 rfl rfl

/-! slices.Contains[[]int,int] -/
noncomputable def e140 : Env := envD eqsT [] [] [] [(212, g212)] [] false [212]
theorem e140_ok : EnvOk PR e140 := envD_ok eqsT_ok TabPOk.nil TabHOk.nil TabLOk.nil (TabDOk.cons n212 g212_ok TabDOk.nil)
theorem cx140 : Ctx PR e140 [] (fun _ => none) 2000 140 := ctx_of e140_ok mixed (fn := Go.Proofs.Tryz.f140) (by kernel_rfl) (by kernel_rfl) (by kernel_rfl) (tabOk_none _)
theorem n140 : Enters PR 140 := enters_of (fn := Go.Proofs.Tryz.f140) (by kernel_rfl) (by kernel_rfl) (by kernel_rfl)
noncomputable def g140 : List AV → AH → Nat → Option (Bool × AV × AH) := deepC PR e140 4 2000 140 4096 true
theorem g140_ok : ActOk PR 4096 140 g140 := deepC_ok cx140 rfl rfl

/-! (*reliquary/dkg.Session).Extract -/
noncomputable def e72 : Env := envD eqsT [(24, (memoA bsT)), (99, g99), (101, g101), (119, g119)] [] [] [(18, g18), (28, g28), (140, g140), (152, g152), (153, g153), (154, g154), (155, g155)] [] false [18, 28, 140, 152, 153, 154, 155]
theorem e72_ok : EnvOk PR e72 := envD_ok eqsT_ok (TabPOk.cons bs_ok (TabPOk.cons g99_ok (TabPOk.cons g101_ok (TabPOk.cons g119_ok TabPOk.nil)))) TabHOk.nil TabLOk.nil (TabDOk.cons n18 g18_ok (TabDOk.cons n28 g28_ok (TabDOk.cons n140 g140_ok (TabDOk.cons n152 g152_ok (TabDOk.cons n153 g153_ok (TabDOk.cons n154 g154_ok (TabDOk.cons n155 g155_ok TabDOk.nil)))))))
theorem cx72 : Ctx PR e72 [] (fun _ => none) 2000 72 := ctx_of e72_ok mixed (fn := Go.Proofs.Tryz.f72) (by kernel_rfl) (by kernel_rfl) (by kernel_rfl) (tabOk_none _)
theorem n72 : Enters PR 72 := enters_of (fn := Go.Proofs.Tryz.f72) (by kernel_rfl) (by kernel_rfl) (by kernel_rfl)
noncomputable def g72 : List AV → AH → Nat → Option (Bool × AV × AH) := deepC PR e72 8 2000 72 4096 false
theorem g72_ok : ActOk PR 4096 72 g72 := deepC_ok cx72 rfl rfl

/-! (*reliquary/dkg.Session).PublicOf -/
noncomputable def e73 : Env := envD eqsT [] [] [] [(152, g152), (157, g157)] [] false [152, 157]
theorem e73_ok : EnvOk PR e73 := envD_ok eqsT_ok TabPOk.nil TabHOk.nil TabLOk.nil (TabDOk.cons n152 g152_ok (TabDOk.cons n157 g157_ok TabDOk.nil))
theorem cx73 : Ctx PR e73 [] (fun _ => none) 2000 73 := ctx_of e73_ok mixed (fn := Go.Proofs.Tryz.f73) (by kernel_rfl) (by kernel_rfl) (by kernel_rfl) (tabOk_none _)
theorem n73 : Enters PR 73 := enters_of (fn := Go.Proofs.Tryz.f73) (by kernel_rfl) (by kernel_rfl) (by kernel_rfl)
noncomputable def g73 : List AV → AH → Nat → Option (Bool × AV × AH) := deepC PR e73 5 2000 73 4096 true
theorem g73_ok : ActOk PR 4096 73 g73 := deepC_ok cx73 rfl rfl

/-! (*reliquary/dkg.Session).Open$1 -/
noncomputable def e161 : Env := envD eqsT [] [] [] [] [] false []
theorem e161_ok : EnvOk PR e161 := envD_ok eqsT_ok TabPOk.nil TabHOk.nil TabLOk.nil TabDOk.nil
theorem cx161 : Ctx PR e161 [] (fun _ => none) 2000 161 := ctx_of e161_ok mixed (fn := Go.Proofs.Tryz.f161) (by kernel_rfl) (by kernel_rfl) (by kernel_rfl) (tabOk_none _)
theorem n161 : Enters PR 161 := enters_of (fn := Go.Proofs.Tryz.f161) (by kernel_rfl) (by kernel_rfl) (by kernel_rfl)
noncomputable def g161 : List AV → AH → Nat → Option (Bool × AV × AH) := deepC PR e161 3 2000 161 4096 true
theorem g161_ok : ActOk PR 4096 161 g161 := deepC_ok cx161 rfl rfl

/-! slices.IndexFunc[[]reliquary/dkg.part,reliquary/dkg.part] -/
noncomputable def e223 : Env := envD eqsT [] [] [] [(161, g161)] [] false [161]
theorem e223_ok : EnvOk PR e223 := envD_ok eqsT_ok TabPOk.nil TabHOk.nil TabLOk.nil (TabDOk.cons n161 g161_ok TabDOk.nil)
theorem cx223 : Ctx PR e223 [] (fun _ => none) 2000 223 := ctx_of e223_ok mixed (fn := Go.Proofs.Tryz.f223) (by kernel_rfl) (by kernel_rfl) (by kernel_rfl) (tabOk_none _)
theorem n223 : Enters PR 223 := enters_of (fn := Go.Proofs.Tryz.f223) (by kernel_rfl) (by kernel_rfl) (by kernel_rfl)
noncomputable def g223 : List AV → AH → Nat → Option (Bool × AV × AH) := deepC PR e223 5 2000 223 4096 true
theorem g223_ok : ActOk PR 4096 223 g223 := deepC_ok cx223 rfl rfl

/-! slices.ContainsFunc[[]reliquary/dkg.part,reliquary/dkg.part] -/
noncomputable def e160 : Env := envD eqsT [] [] [] [(223, g223)] [] false [223]
theorem e160_ok : EnvOk PR e160 := envD_ok eqsT_ok TabPOk.nil TabHOk.nil TabLOk.nil (TabDOk.cons n223 g223_ok TabDOk.nil)
theorem cx160 : Ctx PR e160 [] (fun _ => none) 2000 160 := ctx_of e160_ok mixed (fn := Go.Proofs.Tryz.f160) (by kernel_rfl) (by kernel_rfl) (by kernel_rfl) (tabOk_none _)
theorem n160 : Enters PR 160 := enters_of (fn := Go.Proofs.Tryz.f160) (by kernel_rfl) (by kernel_rfl) (by kernel_rfl)
noncomputable def g160 : List AV → AH → Nat → Option (Bool × AV × AH) := deepC PR e160 4 2000 160 4096 true
theorem g160_ok : ActOk PR 4096 160 g160 := deepC_ok cx160 rfl rfl

/-! (*reliquary/dkg.Session).Open -/
noncomputable def e78 : Env := envD eqsT [] [] [] [(20, g20), (152, g152), (153, g153), (160, g160)] [] false [20, 152, 153, 160]
theorem e78_ok : EnvOk PR e78 := envD_ok eqsT_ok TabPOk.nil TabHOk.nil TabLOk.nil (TabDOk.cons n20 g20_ok (TabDOk.cons n152 g152_ok (TabDOk.cons n153 g153_ok (TabDOk.cons n160 g160_ok TabDOk.nil))))
theorem cx78 : Ctx PR e78 [] (fun _ => none) 2000 78 := ctx_of e78_ok mixed (fn := Go.Proofs.Tryz.f78) (by kernel_rfl) (by kernel_rfl) (by kernel_rfl) (tabOk_none _)
theorem n78 : Enters PR 78 := enters_of (fn := Go.Proofs.Tryz.f78) (by kernel_rfl) (by kernel_rfl) (by kernel_rfl)
noncomputable def g78 : List AV → AH → Nat → Option (Bool × AV × AH) := deepC PR e78 7 2000 78 4096 false
theorem g78_ok : ActOk PR 4096 78 g78 := deepC_ok cx78 rfl rfl

/-! slices.DeleteFunc[[]int,int] -/
noncomputable def e162 : Env := envD eqsT [] [] [] [(224, g224), (163, g163)] [] false [224, 163]
theorem e162_ok : EnvOk PR e162 := envD_ok eqsT_ok TabPOk.nil TabHOk.nil TabLOk.nil (TabDOk.cons n224 g224_ok (TabDOk.cons n163 g163_ok TabDOk.nil))
theorem cx162 : Ctx PR e162 [] (fun _ => none) 2000 162 := ctx_of e162_ok mixed (fn := Go.Proofs.Tryz.f162) (by kernel_rfl) (by kernel_rfl) (by kernel_rfl) (tabOk_none _)
theorem n162 : Enters PR 162 := enters_of (fn := Go.Proofs.Tryz.f162) (by kernel_rfl) (by kernel_rfl) (by kernel_rfl)
noncomputable def g162 : List AV → AH → Nat → Option (Bool × AV × AH) := deepC PR e162 6 2000 162 4096 false
theorem g162_ok : ActOk PR 4096 162 g162 := deepC_ok cx162 rfl rfl

/-! (*reliquary/dkg.Session).Accuse -/
noncomputable def e79 : Env := envD eqsT [] [] [] [(152, g152), (158, g158), (162, g162)] [] false [152, 158]
theorem e79_ok : EnvOk PR e79 := envD_ok eqsT_ok TabPOk.nil TabHOk.nil TabLOk.nil (TabDOk.cons n152 g152_ok (TabDOk.cons n158 g158_ok (TabDOk.cons n162 g162_ok TabDOk.nil)))
theorem cx79 : Ctx PR e79 [] (fun _ => none) 2000 79 := ctx_of e79_ok mixed (fn := Go.Proofs.Tryz.f79) (by kernel_rfl) (by kernel_rfl) (by kernel_rfl) (tabOk_none _)
theorem n79 : Enters PR 79 := enters_of (fn := Go.Proofs.Tryz.f79) (by kernel_rfl) (by kernel_rfl) (by kernel_rfl)
noncomputable def g79 : List AV → AH → Nat → Option (Bool × AV × AH) := deepC PR e79 6 2000 79 4096 false
theorem g79_ok : ActOk PR 4096 79 g79 := deepC_ok cx79 rfl rfl

/-! reliquary/share.known -/
noncomputable def e259 : Env := envD eqsT [(34, g34)] [] [] [] [] false []
theorem e259_ok : EnvOk PR e259 := envD_ok eqsT_ok (TabPOk.cons g34_ok TabPOk.nil) TabHOk.nil TabLOk.nil TabDOk.nil
theorem cx259 : Ctx PR e259 [] (fun _ => none) 2000 259 := ctx_of e259_ok mixed (fn := Go.Proofs.Tryz.f259) (by kernel_rfl) (by kernel_rfl) (by kernel_rfl) (tabOk_none _)
theorem n259 : Enters PR 259 := enters_of (fn := Go.Proofs.Tryz.f259) (by kernel_rfl) (by kernel_rfl) (by kernel_rfl)
noncomputable def g259 : List AV → Option (Bool × AV) := (inlineC PR e259 4 2000 259)
theorem g259_ok : CallOk PR 259 g259 := (.inl ⟨n259, inlineC_ok cx259 rfl rfl⟩)

/-! reliquary/share.scalars -/
noncomputable def e260 : Env := envD eqsT [(34, g34)] [] [] [(218, g218)] [] false [218]
theorem e260_ok : EnvOk PR e260 := envD_ok eqsT_ok (TabPOk.cons g34_ok TabPOk.nil) TabHOk.nil TabLOk.nil (TabDOk.cons n218 g218_ok TabDOk.nil)
theorem cx260 : Ctx PR e260 [] (fun _ => none) 2000 260 := ctx_of e260_ok mixed (fn := Go.Proofs.Tryz.f260) (by kernel_rfl) (by kernel_rfl) (by kernel_rfl) (tabOk_none _)
theorem n260 : Enters PR 260 := enters_of (fn := Go.Proofs.Tryz.f260) (by kernel_rfl) (by kernel_rfl) (by kernel_rfl)
noncomputable def g260 : List AV → AH → Nat → Option (Bool × AV × AH) := deepC PR e260 4 2000 260 4096 true
theorem g260_ok : ActOk PR 4096 260 g260 := deepC_ok cx260 rfl rfl

/-! reliquary/share.shares -/
noncomputable def e203 : Env := envD eqsT [(259, g259)] [] [] [(260, g260), (261, g261)] [] false [260, 261]
theorem e203_ok : EnvOk PR e203 := envD_ok eqsT_ok (TabPOk.cons g259_ok TabPOk.nil) TabHOk.nil TabLOk.nil (TabDOk.cons n260 g260_ok (TabDOk.cons n261 g261_ok TabDOk.nil))
theorem cx203 : Ctx PR e203 [] (fun _ => none) 2000 203 := ctx_of e203_ok mixed (fn := Go.Proofs.Tryz.f203) (by kernel_rfl) (by kernel_rfl) (by kernel_rfl) (tabOk_none _)
theorem n203 : Enters PR 203 := enters_of (fn := Go.Proofs.Tryz.f203) (by kernel_rfl) (by kernel_rfl) (by kernel_rfl)
noncomputable def g203 : List AV → AH → Nat → Option (Bool × AV × AH) := deepC PR e203 5 2000 203 4096 true
theorem g203_ok : ActOk PR 4096 203 g203 := deepC_ok cx203 rfl rfl

/-! (reliquary/share.field).add -/
noncomputable def e263 : Env := envD eqsT [(191, g191)] [] [] [] [] false []
theorem e263_ok : EnvOk PR e263 := envD_ok eqsT_ok (TabPOk.cons g191_ok TabPOk.nil) TabHOk.nil TabLOk.nil TabDOk.nil
theorem cx263 : Ctx PR e263 [] (fun _ => none) 2000 263 := ctx_of e263_ok mixed (fn := Go.Proofs.Tryz.f263) (by kernel_rfl) (by kernel_rfl) (by kernel_rfl) (tabOk_none _)
theorem n263 : Enters PR 263 := enters_of (fn := Go.Proofs.Tryz.f263) (by kernel_rfl) (by kernel_rfl) (by kernel_rfl)
noncomputable def g263 : List AV → Option (Bool × AV) := (inlineC PR e263 5 2000 263)
theorem g263_ok : CallOk PR 263 g263 := (.inl ⟨n263, inlineC_ok cx263 rfl rfl⟩)

/-! (reliquary/share.field).join -/
noncomputable def e204 : Env := envD eqsT [(263, g263), (264, g264)] [] [] [(262, g262)] [] false [262]
theorem e204_ok : EnvOk PR e204 := envD_ok eqsT_ok (TabPOk.cons g263_ok (TabPOk.cons g264_ok TabPOk.nil)) TabHOk.nil TabLOk.nil (TabDOk.cons n262 g262_ok TabDOk.nil)
theorem cx204 : Ctx PR e204 [] (fun _ => none) 2000 204 := ctx_of e204_ok mixed (fn := Go.Proofs.Tryz.f204) (by kernel_rfl) (by kernel_rfl) (by kernel_rfl) (tabOk_none _)
theorem n204 : Enters PR 204 := enters_of (fn := Go.Proofs.Tryz.f204) (by kernel_rfl) (by kernel_rfl) (by kernel_rfl)
noncomputable def g204 : List AV → AH → Nat → Option (Bool × AV × AH) := deepC PR e204 6 2000 204 4096 true
theorem g204_ok : ActOk PR 4096 204 g204 := deepC_ok cx204 rfl rfl

/-! reliquary/share.Join -/
noncomputable def e126 : Env := envD eqsT [] [] [] [(203, g203), (204, g204)] [] false [203, 204]
theorem e126_ok : EnvOk PR e126 := envD_ok eqsT_ok TabPOk.nil TabHOk.nil TabLOk.nil (TabDOk.cons n203 g203_ok (TabDOk.cons n204 g204_ok TabDOk.nil))
theorem cx126 : Ctx PR e126 [] (fun _ => none) 2000 126 := ctx_of e126_ok mixed (fn := Go.Proofs.Tryz.f126) (by kernel_rfl) (by kernel_rfl) (by kernel_rfl) (tabOk_none _)
theorem n126 : Enters PR 126 := enters_of (fn := Go.Proofs.Tryz.f126) (by kernel_rfl) (by kernel_rfl) (by kernel_rfl)
end Go.Rq

/- A closed law's functions, each gone through where it is called. Written by a program of ours. -/
namespace Go.Rq
open Go Go.Proofs
def md126_0 : MemD := ⟨[.v (.int .i64 (.ofNat 1)), .own 0 1 0 2, .own 1 6 0 2, .v (.int .i64 (.ofNat 4))], [(0, some ⟨false, 3, [.v (.int .i64 (.ofNat 2)), .v (.int .i64 (.ofNat 3))]⟩), (1, some ⟨false, 31, [.u (BitVec.ofNat 64 11), .u (BitVec.ofNat 64 0), .u (BitVec.ofNat 64 0), .u (BitVec.ofNat 64 0), .u (BitVec.ofNat 64 0), .u (BitVec.ofNat 64 0), .u (BitVec.ofNat 64 14), .u (BitVec.ofNat 64 0), .u (BitVec.ofNat 64 0), .u (BitVec.ofNat 64 0), .u (BitVec.ofNat 64 0), .u (BitVec.ofNat 64 0)]⟩)], .tup [.agg [.u (BitVec.ofNat 64 17), .u (BitVec.ofNat 64 0), .u (BitVec.ofNat 64 0), .u (BitVec.ofNat 64 0), .u (BitVec.ofNat 64 0), .u (BitVec.ofNat 64 0)], .v (.int .i64 (.ofNat 0))]⟩
set_option maxRecDepth 1000000 in
theorem mf126_0 : outC2 (outC (crunF PR e126 5 2000 126 md126_0.as md126_0.h md126_0.h.length)) = some md126_0.r := by kernel_rfl
def md126_1 : MemD := ⟨[.v (.int .i64 (.ofNat 1)), .own 0 1 0 2, .own 1 6 0 2, .v (.int .i64 (.ofNat 4))], [(0, some ⟨false, 3, [.v (.int .i64 (.ofNat 2)), .v (.int .i64 (.ofNat 3))]⟩), (1, some ⟨false, 31, [.u (BitVec.ofNat 64 3), .u (BitVec.ofNat 64 0), .u (BitVec.ofNat 64 0), .u (BitVec.ofNat 64 0), .u (BitVec.ofNat 64 0), .u (BitVec.ofNat 64 0), .u (BitVec.ofNat 64 4), .u (BitVec.ofNat 64 0), .u (BitVec.ofNat 64 0), .u (BitVec.ofNat 64 0), .u (BitVec.ofNat 64 0), .u (BitVec.ofNat 64 0)]⟩)], .tup [.agg [.u (BitVec.ofNat 64 5), .u (BitVec.ofNat 64 0), .u (BitVec.ofNat 64 0), .u (BitVec.ofNat 64 0), .u (BitVec.ofNat 64 0), .u (BitVec.ofNat 64 0)], .v (.int .i64 (.ofNat 0))]⟩
set_option maxRecDepth 1000000 in
theorem mf126_1 : outC2 (outC (crunF PR e126 5 2000 126 md126_1.as md126_1.h md126_1.h.length)) = some md126_1.r := by kernel_rfl
end Go.Rq

/- A closed law's functions, each gone through where it is called. Written by a program of ours. -/
namespace Go.Rq
open Go Go.Proofs

def mt126 : List MemD := [md126_0, md126_1]
theorem mt126_ok : MemOk PR e126 5 2000 126 mt126 := (MemOk.cons mf126_0 (MemOk.cons mf126_1 MemOk.nil))
noncomputable def g126 : List AV → AH → Nat → Option (Bool × AV × AH) := canG (memoD mt126 (deepC2 PR e126 5 2000 126 4096 true))
theorem g126_ok : ActOk PR 4096 126 g126 := memoD_ok cx126 rfl rfl mt126_ok (by kernel_rfl)

/-! (*reliquary/dkg.Session).Recover -/
noncomputable def e80 : Env := envD eqsT [] [] [] [(86, g86), (126, g126), (152, g152)] [] false [86, 126, 152]
theorem e80_ok : EnvOk PR e80 := envD_ok eqsT_ok TabPOk.nil TabHOk.nil TabLOk.nil (TabDOk.cons n86 g86_ok (TabDOk.cons n126 g126_ok (TabDOk.cons n152 g152_ok TabDOk.nil)))
theorem cx80 : Ctx PR e80 [] (fun _ => none) 2000 80 := ctx_of e80_ok mixed (fn := Go.Proofs.Tryz.f80) (by kernel_rfl) (by kernel_rfl) (by kernel_rfl) (tabOk_none _)
theorem n80 : Enters PR 80 := enters_of (fn := Go.Proofs.Tryz.f80) (by kernel_rfl) (by kernel_rfl) (by kernel_rfl)
noncomputable def g80 : List AV → AH → Nat → Option (Bool × AV × AH) := deepC PR e80 7 2000 80 4096 true
theorem g80_ok : ActOk PR 4096 80 g80 := deepC_ok cx80 rfl rfl

/-! (*reliquary/dkg.Session).At -/
noncomputable def e83 : Env := envD eqsT [] [] [] [(18, g18), (152, g152), (154, g154)] [] false [18, 152, 154]
theorem e83_ok : EnvOk PR e83 := envD_ok eqsT_ok TabPOk.nil TabHOk.nil TabLOk.nil (TabDOk.cons n18 g18_ok (TabDOk.cons n152 g152_ok (TabDOk.cons n154 g154_ok TabDOk.nil)))
theorem cx83 : Ctx PR e83 [] (fun _ => none) 2000 83 := ctx_of e83_ok mixed (fn := Go.Proofs.Tryz.f83) (by kernel_rfl) (by kernel_rfl) (by kernel_rfl) (tabOk_none _)
theorem n83 : Enters PR 83 := enters_of (fn := Go.Proofs.Tryz.f83) (by kernel_rfl) (by kernel_rfl) (by kernel_rfl)
noncomputable def g83 : List AV → AH → Nat → Option (Bool × AV × AH) := deepC PR e83 5 2000 83 4096 true
theorem g83_ok : ActOk PR 4096 83 g83 := deepC_ok cx83 rfl rfl

/-! reliquary/reliquarylaw22.awake -/
noncomputable def e81 : Env := envD eqsT [(15, g15), (16, (fn1 kU c6.agg ofW))] [] [] [(69, g69), (83, g83)] [] false [69, 83]
theorem e81_ok : EnvOk PR e81 := envD_ok eqsT_ok (TabPOk.cons g15_ok (TabPOk.cons of_ok TabPOk.nil)) TabHOk.nil TabLOk.nil (TabDOk.cons n69 g69_ok (TabDOk.cons n83 g83_ok TabDOk.nil))
theorem cx81 : Ctx PR e81 [] (fun _ => none) 2000 81 := ctx_of e81_ok mixed (fn := Go.Proofs.Tryz.f81) (by kernel_rfl) (by kernel_rfl) (by kernel_rfl) (tabOk_none _)
theorem n81 : Enters PR 81 := enters_of (fn := Go.Proofs.Tryz.f81) (by kernel_rfl) (by kernel_rfl) (by kernel_rfl)
noncomputable def g81 : List AV → Option (Bool × AV) := (inlineC PR e81 5 2000 81)
theorem g81_ok : CallOk PR 81 g81 := (.inl ⟨n81, inlineC_ok cx81 rfl rfl⟩)

/-! reliquary/reliquarylaw22.DkgKnown -/
noncomputable def e10 : Env := envD eqsT [(16, (fn1 kU c6.agg ofW)), (23, g23), (25, g25), (81, g81)] [] [] [(13, g13), (69, g69), (70, g70), (71, g71), (72, g72), (73, g73), (74, g74), (75, g75), (76, g76), (77, g77), (78, g78), (79, g79), (80, g80)] [] false [13, 69, 70, 71, 73, 74, 77, 80]
theorem e10_ok : EnvOk PR e10 := envD_ok eqsT_ok (TabPOk.cons of_ok (TabPOk.cons g23_ok (TabPOk.cons g25_ok (TabPOk.cons g81_ok TabPOk.nil)))) TabHOk.nil TabLOk.nil (TabDOk.cons n13 g13_ok (TabDOk.cons n69 g69_ok (TabDOk.cons n70 g70_ok (TabDOk.cons n71 g71_ok (TabDOk.cons n72 g72_ok (TabDOk.cons n73 g73_ok (TabDOk.cons n74 g74_ok (TabDOk.cons n75 g75_ok (TabDOk.cons n76 g76_ok (TabDOk.cons n77 g77_ok (TabDOk.cons n78 g78_ok (TabDOk.cons n79 g79_ok (TabDOk.cons n80 g80_ok TabDOk.nil)))))))))))))
theorem cx10 : Ctx PR e10 [] (fun _ => none) 2000 10 := ctx_of e10_ok mixed (fn := Go.Proofs.Tryz.f10) (by kernel_rfl) (by kernel_rfl) (by kernel_rfl) (tabOk_none _)
theorem n10 : Enters PR 10 := enters_of (fn := Go.Proofs.Tryz.f10) (by kernel_rfl) (by kernel_rfl) (by kernel_rfl)
noncomputable def g10 : List AV → Option (Bool × AV) := (inlineC PR e10 8 2000 10)
theorem g10_ok : CallOk PR 10 g10 := (.inl ⟨n10, inlineC_ok cx10 rfl rfl⟩)

/-! (*reliquary/dkg.Session).Pledge -/
noncomputable def e82 : Env := envD eqsT [] [] [] [(133, g133), (154, g154)] [] false [133, 154]
theorem e82_ok : EnvOk PR e82 := envD_ok eqsT_ok TabPOk.nil TabHOk.nil TabLOk.nil (TabDOk.cons n133 g133_ok (TabDOk.cons n154 g154_ok TabDOk.nil))
theorem cx82 : Ctx PR e82 [] (fun _ => none) 2000 82 := ctx_of e82_ok mixed (fn := Go.Proofs.Tryz.f82) (by kernel_rfl) (by kernel_rfl) (by kernel_rfl) (tabOk_none _)
theorem n82 : Enters PR 82 := enters_of (fn := Go.Proofs.Tryz.f82) (by kernel_rfl) (by kernel_rfl) (by kernel_rfl)
noncomputable def g82 : List AV → AH → Nat → Option (Bool × AV × AH) := deepC PR e82 4 2000 82 4096 true
theorem g82_ok : ActOk PR 4096 82 g82 := deepC_ok cx82 rfl rfl

/-! reliquary/reliquarylaw22.DkgNone -/
noncomputable def e11 : Env := envD eqsT [(81, g81)] [] [] [(70, g70), (71, g71), (72, g72), (73, g73), (75, g75), (76, g76), (78, g78), (79, g79), (80, g80), (82, g82), (83, g83), (84, g84), (85, g85), (86, g86), (87, g87)] [] false [70, 71, 73, 80, 82, 83, 84, 85, 86, 87]
theorem e11_ok : EnvOk PR e11 := envD_ok eqsT_ok (TabPOk.cons g81_ok TabPOk.nil) TabHOk.nil TabLOk.nil (TabDOk.cons n70 g70_ok (TabDOk.cons n71 g71_ok (TabDOk.cons n72 g72_ok (TabDOk.cons n73 g73_ok (TabDOk.cons n75 g75_ok (TabDOk.cons n76 g76_ok (TabDOk.cons n78 g78_ok (TabDOk.cons n79 g79_ok (TabDOk.cons n80 g80_ok (TabDOk.cons n82 g82_ok (TabDOk.cons n83 g83_ok (TabDOk.cons n84 g84_ok (TabDOk.cons n85 g85_ok (TabDOk.cons n86 g86_ok (TabDOk.cons n87 g87_ok TabDOk.nil)))))))))))))))
theorem cx11 : Ctx PR e11 [] (fun _ => none) 2000 11 := ctx_of e11_ok mixed (fn := Go.Proofs.Tryz.f11) (by kernel_rfl) (by kernel_rfl) (by kernel_rfl) (tabOk_none _)
theorem n11 : Enters PR 11 := enters_of (fn := Go.Proofs.Tryz.f11) (by kernel_rfl) (by kernel_rfl) (by kernel_rfl)
noncomputable def g11 : List AV → AH → Nat → Option (Bool × AV × AH) := deepC PR e11 8 2000 11 4096 true
theorem g11_ok : ActOk PR 4096 11 g11 := deepC_ok cx11 rfl rfl
end Go.Rq

/- The law DkgNone, run through at once, whatever it is handed. -/
namespace Go.Rq
open Go Go.Proofs
theorem law_ok : ActOk PR 4096 11 (deepC PR e11 8 2000 11 4096 true) := deepC_ok cx11 rfl rfl
set_option maxRecDepth 1000000 in
theorem law_run : isYes (deepC PR e11 8 2000 11 4096 true [.any, .agg (List.replicate 6 .any)] [] 0) = true := by kernel_rfl
end Go.Rq
