import Derived.Test.YtbamkkbefjgeoaaGreatDoorRq35
import Derived.Test.YtbamkkbefjgeoaaGreatDoorRq05
import Derived.Test.YtbamkkbefjgeoaaGreatDoorRq36
import Derived.Test.YtbamkkbefjgeoaaGreatDoorRq37
import Derived.Test.YtbamkkbefjgeoaaGreatDoorRq38
import Derived.Test.YtbamkkbefjgeoaaGreatDoorRq39
import Derived.Test.YtbamkkbefjgeoaaGreatDoorRq40
import Derived.Test.YtbamkkbefjgeoaaGreatDoorRq41
import Derived.Test.YtbamkkbefjgeoaaGreatDoorRq42
namespace Go.Rq.Cl
open Go Go.Proofs Go.Rq Go.Rq.Sm
noncomputable def e83 : Env := envD eqsT [(45, (fn2 c6.agg c6.agg (kInt .i64) fun a b => chainV (cmpL a b) 0)), (72, g72), (73, g73)] [] [(127, (layP kMd 137 cFa 0 modS))] [] [9] false []
theorem e83_ok : EnvOk PR e83 := envD_ok eqsT_ok (TabPOk.cons cmp_ok (TabPOk.cons g72_ok (TabPOk.cons g73_ok TabPOk.nil))) TabHOk.nil (TabLOk.cons nw_ent newS_okL TabLOk.nil) TabDOk.nil
theorem cx83 : Ctx PR e83 [] (fun _ => none) 2000 83 := ctxB e83_ok mixed (by kernel_rfl)
theorem n83 : Enters PR 83 := entersB (by kernel_rfl)
noncomputable def g83 : List AV -> AH -> Nat -> Option (Bool × AV × AH) := deepC PR e83 5 2000 83 4096 true
theorem g83_ok : ActOk PR 4096 83 g83 := deepC_ok cx83 rfl rfl
noncomputable def e89 : Env := envD eqsT [] [(90, (rdp 137 cFa (mc2 c6.agg c6.agg) c6.agg (fun m x => qsubW m x.1 x.2)))] [] [] [9] false [90]
theorem e89_ok : EnvOk PR e89 := envD_ok eqsT_ok TabPOk.nil (TabHOk.cons qsub_ent qsub_ok TabHOk.nil) TabLOk.nil TabDOk.nil
theorem cx89 : Ctx PR e89 [] (fun _ => none) 2000 89 := ctxB e89_ok mixed (by kernel_rfl)
theorem n89 : Enters PR 89 := entersB (by kernel_rfl)
noncomputable def g89 : List AV -> AH -> Nat -> Option (Bool × AV × AH) := deepC PR e89 4 2000 89 4096 true
theorem g89_ok : ActOk PR 4096 89 g89 := deepC_ok cx89 rfl rfl
noncomputable def e39 : Env := envD eqsT [] [(40, (rdp 137 cFa (mc2 c6.agg c6.agg) c6.agg (fun m x => qmulW m x.1 x.2)))] [] [] [9] false [40]
theorem e39_ok : EnvOk PR e39 := envD_ok eqsT_ok TabPOk.nil (TabHOk.cons qmul_ent qmul_ok TabHOk.nil) TabLOk.nil TabDOk.nil
theorem cx39 : Ctx PR e39 [] (fun _ => none) 2000 39 := ctxB e39_ok mixed (by kernel_rfl)
theorem n39 : Enters PR 39 := entersB (by kernel_rfl)
noncomputable def g39 : List AV -> AH -> Nat -> Option (Bool × AV × AH) := deepC PR e39 4 2000 39 4096 true
theorem g39_ok : ActOk PR 4096 39 g39 := deepC_ok cx39 rfl rfl
noncomputable def e41 : Env := envD eqsT [] [(42, (rdp 137 cFa (mc2 c6.agg c6.agg) c6.agg (fun m x => qaddW m x.1 x.2)))] [] [] [9] false [42]
theorem e41_ok : EnvOk PR e41 := envD_ok eqsT_ok TabPOk.nil (TabHOk.cons qadd_ent qadd_ok TabHOk.nil) TabLOk.nil TabDOk.nil
theorem cx41 : Ctx PR e41 [] (fun _ => none) 2000 41 := ctxB e41_ok mixed (by kernel_rfl)
theorem n41 : Enters PR 41 := entersB (by kernel_rfl)
noncomputable def g41 : List AV -> AH -> Nat -> Option (Bool × AV × AH) := deepC PR e41 4 2000 41 4096 true
theorem g41_ok : ActOk PR 4096 41 g41 := deepC_ok cx41 rfl rfl
noncomputable def e38 : Env := envD eqsT [] [] [] [(83, g83), (89, g89), (39, g39), (41, g41)] [9] false [83, 89, 39, 41]
theorem e38_ok : EnvOk PR e38 := envD_ok eqsT_ok TabPOk.nil TabHOk.nil TabLOk.nil (TabDOk.cons n83 g83_ok (TabDOk.cons n89 g89_ok (TabDOk.cons n39 g39_ok (TabDOk.cons n41 g41_ok TabDOk.nil))))
theorem cx38 : Ctx PR e38 [] (fun _ => none) 2000 38 := ctxB e38_ok mixed (by kernel_rfl)
theorem n38 : Enters PR 38 := entersB (by kernel_rfl)
noncomputable def g38 : List AV -> AH -> Nat -> Option (Bool × AV × AH) := deepC PR e38 5 2000 38 4096 true
theorem g38_ok : ActOk PR 4096 38 g38 := deepC_ok cx38 rfl rfl
noncomputable def e10 : Env := envD eqsT [] [] [] [(38, g38)] [9] false [38]
theorem e10_ok : EnvOk PR e10 := envD_ok eqsT_ok TabPOk.nil TabHOk.nil TabLOk.nil (TabDOk.cons n38 g38_ok TabDOk.nil)
theorem cx10 : Ctx PR e10 [] (fun _ => none) 2000 10 := ctxB e10_ok mixed (by kernel_rfl)
theorem n10 : Enters PR 10 := entersB (by kernel_rfl)
noncomputable def g10 : List AV -> Option (Bool × AV) := (inlineC PR e10 4 2000 10)
theorem g10_ok : CallOk PR 10 g10 := (.inl ⟨n10, inlineC_ok cx10 rfl rfl⟩)
noncomputable def e46 : Env := envD eqsT [] [] [] [(38, g38)] [9] false [38]
theorem e46_ok : EnvOk PR e46 := envD_ok eqsT_ok TabPOk.nil TabHOk.nil TabLOk.nil (TabDOk.cons n38 g38_ok TabDOk.nil)
theorem cx46 : Ctx PR e46 [] (fun _ => none) 2000 46 := ctxB e46_ok mixed (by kernel_rfl)
theorem n46 : Enters PR 46 := entersB (by kernel_rfl)
noncomputable def g46 : List AV -> Option (Bool × AV) := (inlineC PR e46 4 2000 46)
theorem g46_ok : CallOk PR 46 g46 := (.inl ⟨n46, inlineC_ok cx46 rfl rfl⟩)
noncomputable def e75 : Env := envD eqsT [] [] [] [] [9] false []
theorem e75_ok : EnvOk PR e75 := envD_ok eqsT_ok TabPOk.nil TabHOk.nil TabLOk.nil TabDOk.nil
theorem cx75 : Ctx PR e75 [] (fun _ => none) 2000 75 := ctxB e75_ok mixed (by kernel_rfl)
theorem n75 : Enters PR 75 := entersB (by kernel_rfl)
noncomputable def g75 : List AV -> Option (Bool × AV) := (inlineC PR e75 7 2000 75)
theorem g75_ok : CallOk PR 75 g75 := (.inl ⟨n75, inlineC_ok cx75 rfl rfl⟩)
noncomputable def e130 : Env := envD eqsT [(75, g75), (86, (fn2 c6.agg c6.agg kWB wAddW))] [] [] [] [9] false []
theorem e130_ok : EnvOk PR e130 := envD_ok eqsT_ok (TabPOk.cons g75_ok (TabPOk.cons wadd_ok TabPOk.nil)) TabHOk.nil TabLOk.nil TabDOk.nil
theorem cx130 : Ctx PR e130 [] (fun _ => none) 2000 130 := ctxB e130_ok mixed (by kernel_rfl)
theorem n130 : Enters PR 130 := entersB (by kernel_rfl)
noncomputable def g130 : List AV -> AH -> Option (Bool × AV × AH) := viewG PR e130 [] 2000 130
theorem g130_ok : HeapOk PR 130 g130 := view_ok cx130
noncomputable def e91 : Env := envD eqsT [(27, (fn1 kU c6.agg ofW)), (45, (fn2 c6.agg c6.agg (kInt .i64) fun a b => chainV (cmpL a b) 0)), (75, g75), (77, (fn2 c6.agg c6.agg kWB wSubW))] [(84, (rdp 137 cFa mc0 kBool (fun m _ => moNone m))), (87, (rdp 137 cFa (mc1 c6.agg) c6.agg moRedW)), (90, (rdp 137 cFa (mc2 c6.agg c6.agg) c6.agg (fun m x => qsubW m x.1 x.2))), (130, g130)] [] [] [9] false [84, 87, 90, 130]
theorem e91_ok : EnvOk PR e91 := envD_ok eqsT_ok (TabPOk.cons of_ok (TabPOk.cons cmp_ok (TabPOk.cons g75_ok (TabPOk.cons wsub_ok TabPOk.nil)))) (TabHOk.cons mn_ent mn_ok (TabHOk.cons mred_ent mred_ok (TabHOk.cons qsub_ent qsub_ok (TabHOk.cons n130 g130_ok TabHOk.nil)))) TabLOk.nil TabDOk.nil
theorem cx91 : Ctx PR e91 [] (fun _ => none) 2000 91 := ctxB e91_ok mixed (by kernel_rfl)
theorem n91 : Enters PR 91 := entersB (by kernel_rfl)
noncomputable def g91 : List AV -> AH -> Nat -> Option (Bool × AV × AH) := deepC PR e91 7 2000 91 4096 true
theorem g91_ok : ActOk PR 4096 91 g91 := deepC_ok cx91 rfl rfl
noncomputable def e47 : Env := envD eqsT [] [] [] [(83, g83), (91, g91)] [9] false [83, 91]
theorem e47_ok : EnvOk PR e47 := envD_ok eqsT_ok TabPOk.nil TabHOk.nil TabLOk.nil (TabDOk.cons n83 g83_ok (TabDOk.cons n91 g91_ok TabDOk.nil))
theorem cx47 : Ctx PR e47 [] (fun _ => none) 2000 47 := ctxB e47_ok mixed (by kernel_rfl)
theorem n47 : Enters PR 47 := entersB (by kernel_rfl)
noncomputable def g47 : List AV -> Option (Bool × AV) := (inlineC PR e47 5 2000 47)
theorem g47_ok : CallOk PR 47 g47 := (.inl ⟨n47, inlineC_ok cx47 rfl rfl⟩)
noncomputable def e13 : Env := envD eqsT [(10, g10), (31, g31), (45, (fn2 c6.agg c6.agg (kInt .i64) fun a b => chainV (cmpL a b) 0)), (46, g46), (47, g47)] [] [] [] [9] false []
theorem e13_ok : EnvOk PR e13 := envD_ok eqsT_ok (TabPOk.cons g10_ok (TabPOk.cons g31_ok (TabPOk.cons cmp_ok (TabPOk.cons g46_ok (TabPOk.cons g47_ok TabPOk.nil))))) TabHOk.nil TabLOk.nil TabDOk.nil
theorem cx13 : Ctx PR e13 [] (fun _ => none) 2000 13 := ctxB e13_ok mixed (by kernel_rfl)
theorem n13 : Enters PR 13 := entersB (by kernel_rfl)
noncomputable def g13 : List AV -> Option (Bool × AV) := (inlineC PR e13 7 2000 13)
theorem g13_ok : CallOk PR 13 g13 := (.inl ⟨n13, inlineC_ok cx13 rfl rfl⟩)
noncomputable def e43 : Env := envD eqsT [(31, g31), (45, (fn2 c6.agg c6.agg (kInt .i64) fun a b => chainV (cmpL a b) 0)), (66, g66)] [] [] [] [9] false []
theorem e43_ok : EnvOk PR e43 := envD_ok eqsT_ok (TabPOk.cons g31_ok (TabPOk.cons cmp_ok (TabPOk.cons g66_ok TabPOk.nil))) TabHOk.nil TabLOk.nil TabDOk.nil
theorem cx43 : Ctx PR e43 [] (fun _ => none) 2000 43 := ctxB e43_ok mixed (by kernel_rfl)
theorem n43 : Enters PR 43 := entersB (by kernel_rfl)
noncomputable def g43 : List AV -> AH -> Nat -> Option (Bool × AV × AH) := deepC PR e43 6 2000 43 4096 true
theorem g43_ok : ActOk PR 4096 43 g43 := deepC_ok cx43 rfl rfl
noncomputable def e49 : Env := envD eqsT [(9, g9)] [] [] [] [9] false []
theorem e49_ok : EnvOk PR e49 := envD_ok eqsT_ok (TabPOk.cons g9_ok TabPOk.nil) TabHOk.nil TabLOk.nil TabDOk.nil
theorem cx49 : Ctx PR e49 [] (fun _ => none) 2000 49 := ctxB e49_ok mixed (by kernel_rfl)
theorem n49 : Enters PR 49 := entersB (by kernel_rfl)
noncomputable def g49 : List AV -> Option (Bool × AV) := (inlineC PR e49 4 2000 49)
theorem g49_ok : CallOk PR 49 g49 := (.inl ⟨n49, inlineC_ok cx49 rfl rfl⟩)
noncomputable def e201 : Env := envD eqsT [] [] [] [] [9] false []
theorem e201_ok : EnvOk PR e201 := envD_ok eqsT_ok TabPOk.nil TabHOk.nil TabLOk.nil TabDOk.nil
theorem cx201 : Ctx PR e201 [] (fun _ => none) 2000 201 := ctxB e201_ok mixed (by kernel_rfl)
theorem n201 : Enters PR 201 := entersB (by kernel_rfl)
noncomputable def g201 : List AV -> AH -> Nat -> Option (Bool × AV × AH) := deepC PR e201 4 2000 201 4096 true
theorem g201_ok : ActOk PR 4096 201 g201 := deepC_ok cx201 rfl rfl
noncomputable def e181 : Env := envD eqsT [] [] [] [(201, g201)] [9] false [201]
theorem e181_ok : EnvOk PR e181 := envD_ok eqsT_ok TabPOk.nil TabHOk.nil TabLOk.nil (TabDOk.cons n201 g201_ok TabDOk.nil)
theorem cx181 : Ctx PR e181 [] (fun _ => none) 2000 181 := ctxB e181_ok mixed (by kernel_rfl)
theorem n181 : Enters PR 181 := entersB (by kernel_rfl)
noncomputable def g181 : List AV -> AH -> Nat -> Option (Bool × AV × AH) := deepC PR e181 5 2000 181 4096 true
theorem g181_ok : ActOk PR 4096 181 g181 := deepC_ok cx181 rfl rfl
noncomputable def e153 : Env := envD eqsT [(72, g72)] [] [] [(181, g181)] [9] false [181]
theorem e153_ok : EnvOk PR e153 := envD_ok eqsT_ok (TabPOk.cons g72_ok TabPOk.nil) TabHOk.nil TabLOk.nil (TabDOk.cons n181 g181_ok TabDOk.nil)
theorem cx153 : Ctx PR e153 [] (fun _ => none) 2000 153 := ctxB e153_ok mixed (by kernel_rfl)
theorem n153 : Enters PR 153 := entersB (by kernel_rfl)
noncomputable def g153 : List AV -> AH -> Nat -> Option (Bool × AV × AH) := deepC PR e153 5 2000 153 4096 true
theorem g153_ok : ActOk PR 4096 153 g153 := deepC_ok cx153 rfl rfl
noncomputable def e138 : Env := envD eqsT [] [] [] [] [9] false []
theorem e138_ok : EnvOk PR e138 := envD_ok eqsT_ok TabPOk.nil TabHOk.nil TabLOk.nil TabDOk.nil
theorem cx138 : Ctx PR e138 [] (fun _ => none) 2000 138 := ctxB e138_ok mixed (by kernel_rfl)
theorem n138 : Enters PR 138 := entersB (by kernel_rfl)
noncomputable def g138 : List AV -> AH -> Nat -> Option (Bool × AV × AH) := deepC PR e138 6 2000 138 4096 true
theorem g138_ok : ActOk PR 4096 138 g138 := deepC_ok cx138 rfl rfl
noncomputable def e183 : Env := envD eqsT [] [(42, (rdp 137 cFa (mc2 c6.agg c6.agg) c6.agg (fun m x => qaddW m x.1 x.2))), (84, (rdp 137 cFa mc0 kBool (fun m _ => moNone m))), (85, (rdp 137 cFa (mc2 c6.agg c6.agg) c6.agg (fun m x => moMontW m x.1 x.2)))] [] [] [9] false [42, 84, 85]
theorem e183_ok : EnvOk PR e183 := envD_ok eqsT_ok TabPOk.nil (TabHOk.cons qadd_ent qadd_ok (TabHOk.cons mn_ent mn_ok (TabHOk.cons mm_ent mm_ok TabHOk.nil))) TabLOk.nil TabDOk.nil
theorem cx183 : Ctx PR e183 [] (fun _ => none) 2000 183 := ctxB e183_ok mixed (by kernel_rfl)
theorem n183 : Enters PR 183 := entersB (by kernel_rfl)
noncomputable def g183 : List AV -> AH -> Nat -> Option (Bool × AV × AH) := deepC PR e183 5 2000 183 4096 true
theorem g183_ok : ActOk PR 4096 183 g183 := deepC_ok cx183 rfl rfl
noncomputable def e154 : Env := envD eqsT [] [(182, sumV)] [(127, (layP kMd 137 cFa 0 modS))] [(138, g138), (183, g183)] [9] false [138, 183, 182]
theorem e154_ok : EnvOk PR e154 := envD_ok eqsT_ok TabPOk.nil (TabHOk.cons dsum_ent dsum_ok TabHOk.nil) (TabLOk.cons nw_ent newS_okL TabLOk.nil) (TabDOk.cons n138 g138_ok (TabDOk.cons n183 g183_ok TabDOk.nil))
theorem cx154 : Ctx PR e154 [] (fun _ => none) 2000 154 := ctxB e154_ok mixed (by kernel_rfl)
theorem n154 : Enters PR 154 := entersB (by kernel_rfl)
noncomputable def g154 : List AV -> AH -> Nat -> Option (Bool × AV × AH) := deepC PR e154 6 2000 154 4096 true
theorem g154_ok : ActOk PR 4096 154 g154 := deepC_ok cx154 rfl rfl
noncomputable def e114 : Env := envD eqsT [(73, g73)] [] [] [(153, g153), (154, g154)] [9] false [153, 154]
theorem e114_ok : EnvOk PR e114 := envD_ok eqsT_ok (TabPOk.cons g73_ok TabPOk.nil) TabHOk.nil TabLOk.nil (TabDOk.cons n153 g153_ok (TabDOk.cons n154 g154_ok TabDOk.nil))
theorem cx114 : Ctx PR e114 [] (fun _ => none) 2000 114 := ctxB e114_ok mixed (by kernel_rfl)
theorem n114 : Enters PR 114 := entersB (by kernel_rfl)
noncomputable def g114 : List AV -> AH -> Nat -> Option (Bool × AV × AH) := deepC PR e114 5 2000 114 4096 true
theorem g114_ok : ActOk PR 4096 114 g114 := deepC_ok cx114 rfl rfl
noncomputable def e70 : Env := envD eqsT [] [] [] [(52, g52), (114, g114)] [9] false [52, 114]
theorem e70_ok : EnvOk PR e70 := envD_ok eqsT_ok TabPOk.nil TabHOk.nil TabLOk.nil (TabDOk.cons n52 g52_ok (TabDOk.cons n114 g114_ok TabDOk.nil))
theorem cx70 : Ctx PR e70 [] (fun _ => none) 2000 70 := ctxB e70_ok mixed (by kernel_rfl)
theorem n70 : Enters PR 70 := entersB (by kernel_rfl)
noncomputable def g70 : List AV -> AH -> Nat -> Option (Bool × AV × AH) := deepC PR e70 6 2000 70 4096 true
theorem g70_ok : ActOk PR 4096 70 g70 := deepC_ok cx70 rfl rfl
noncomputable def e11 : Env := envD eqsT [] [] [] [(38, g38)] [9] false [38]
theorem e11_ok : EnvOk PR e11 := envD_ok eqsT_ok TabPOk.nil TabHOk.nil TabLOk.nil (TabDOk.cons n38 g38_ok TabDOk.nil)
theorem cx11 : Ctx PR e11 [] (fun _ => none) 2000 11 := ctxB e11_ok mixed (by kernel_rfl)
theorem n11 : Enters PR 11 := entersB (by kernel_rfl)
noncomputable def g11 : List AV -> Option (Bool × AV) := (inlineC PR e11 4 2000 11)
theorem g11_ok : CallOk PR 11 g11 := (.inl ⟨n11, inlineC_ok cx11 rfl rfl⟩)
noncomputable def e71 : Env := envD eqsT [(10, g10), (11, g11)] [] [] [] [9] false []
theorem e71_ok : EnvOk PR e71 := envD_ok eqsT_ok (TabPOk.cons g10_ok (TabPOk.cons g11_ok TabPOk.nil)) TabHOk.nil TabLOk.nil TabDOk.nil
theorem cx71 : Ctx PR e71 [] (fun _ => none) 2000 71 := ctxB e71_ok mixed (by kernel_rfl)
theorem n71 : Enters PR 71 := entersB (by kernel_rfl)
noncomputable def g71 : List AV -> Option (Bool × AV) := (inlineC PR e71 5 2000 71)
theorem g71_ok : CallOk PR 71 g71 := (.inl ⟨n71, inlineC_ok cx71 rfl rfl⟩)
noncomputable def e28 : Env := envD eqsT [(49, g49), (71, g71)] [] [] [(43, g43), (70, g70)] [9] false [43, 70]
theorem e28_ok : EnvOk PR e28 := envD_ok eqsT_ok (TabPOk.cons g49_ok (TabPOk.cons g71_ok TabPOk.nil)) TabHOk.nil TabLOk.nil (TabDOk.cons n43 g43_ok (TabDOk.cons n70 g70_ok TabDOk.nil))
theorem cx28 : Ctx PR e28 [] (fun _ => none) 2000 28 := ctxB e28_ok mixed (by kernel_rfl)
theorem n28 : Enters PR 28 := entersB (by kernel_rfl)
end Go.Rq.Cl
