/- What closed runs lean on. -/
import Derived.Test.YtcboekjnibppdaaGreatDoorRq26
import Derived.Test.YtcboekjnibppdaaGreatDoorRq27
import Derived.Test.YtcboekjnibppdaaGreatDoorRq28
import Derived.Test.YtcboekjnibppdaaGreatDoorRq09
namespace Go.Rq
open Go Go.Proofs
end Go.Rq

/- A closed law's functions, each gone through where it is called. Written by a program of ours. -/
namespace Go.Rq
open Go Go.Proofs

/-! reliquary/suite.known -/
noncomputable def e104 : Env := envD eqsT [] [] [] [] [] false []
theorem e104_ok : EnvOk PR e104 := envD_ok eqsT_ok TabPOk.nil TabHOk.nil TabLOk.nil TabDOk.nil
theorem cx104 : Ctx PR e104 [] (fun _ => none) 2000 104 := ctx_of e104_ok mixed (fn := Go.Proofs.Tryz.f104) (by kernel_rfl) (by kernel_rfl) (by kernel_rfl) (tabOk_none _)
theorem n104 : Enters PR 104 := enters_of (fn := Go.Proofs.Tryz.f104) (by kernel_rfl) (by kernel_rfl) (by kernel_rfl)
noncomputable def g104 : List AV → Option (Bool × AV) := (inlineC PR e104 4 2000 104)
theorem g104_ok : CallOk PR 104 g104 := (.inl ⟨n104, inlineC_ok cx104 rfl rfl⟩)

/-! reliquary/suite.bits32 -/
noncomputable def e172 : Env := envD eqsT [] [] [] [] [] false []
theorem e172_ok : EnvOk PR e172 := envD_ok eqsT_ok TabPOk.nil TabHOk.nil TabLOk.nil TabDOk.nil
theorem cx172 : Ctx PR e172 [] (fun _ => none) 2000 172 := ctx_of e172_ok mixed (fn := Go.Proofs.Tryz.f172) (by kernel_rfl) (by kernel_rfl) (by kernel_rfl) (tabOk_none _)
theorem n172 : Enters PR 172 := enters_of (fn := Go.Proofs.Tryz.f172) (by kernel_rfl) (by kernel_rfl) (by kernel_rfl)
noncomputable def g172 : List AV → AH → Nat → Option (Bool × AV × AH) := deepC PR e172 4 2000 172 4096 true
theorem g172_ok : ActOk PR 4096 172 g172 := deepC_ok cx172 rfl rfl

/-! reliquary/suite.joined -/
noncomputable def e105 : Env := envD eqsT [] [] [] [(172, g172)] [] false [172]
theorem e105_ok : EnvOk PR e105 := envD_ok eqsT_ok TabPOk.nil TabHOk.nil TabLOk.nil (TabDOk.cons n172 g172_ok TabDOk.nil)
theorem cx105 : Ctx PR e105 [] (fun _ => none) 2000 105 := ctx_of e105_ok mixed (fn := Go.Proofs.Tryz.f105) (by kernel_rfl) (by kernel_rfl) (by kernel_rfl) (tabOk_none _)
theorem n105 : Enters PR 105 := enters_of (fn := Go.Proofs.Tryz.f105) (by kernel_rfl) (by kernel_rfl) (by kernel_rfl)
noncomputable def g105 : List AV → AH → Nat → Option (Bool × AV × AH) := deepC PR e105 5 2000 105 4096 true
theorem g105_ok : ActOk PR 4096 105 g105 := deepC_ok cx105 rfl rfl

/-! reliquary/words.Read -/
noncomputable def e178 : Env := envD eqsT [] [] [] [] [] false []
theorem e178_ok : EnvOk PR e178 := envD_ok eqsT_ok TabPOk.nil TabHOk.nil TabLOk.nil TabDOk.nil
theorem cx178 : Ctx PR e178 [] (fun _ => none) 2000 178 := ctx_of e178_ok mixed (fn := Go.Proofs.Tryz.f178) (by kernel_rfl) (by kernel_rfl) (by kernel_rfl) (tabOk_none _)
theorem n178 : Enters PR 178 := enters_of (fn := Go.Proofs.Tryz.f178) (by kernel_rfl) (by kernel_rfl) (by kernel_rfl)
noncomputable def g178 : List AV → AH → Nat → Option (Bool × AV × AH) := deepC PR e178 6 2000 178 4096 true
theorem g178_ok : ActOk PR 4096 178 g178 := deepC_ok cx178 rfl rfl

/-! (*reliquary/modulus.Modulus).Wide -/
noncomputable def e180 : Env := envD eqsT [] [(176, (rdp 291 cFa (mc2 c6.agg c6.agg) c6.agg (fun m x => qaddW m x.1 x.2))), (232, (rdp 291 cFa mc0 kBool (fun m _ => moNone m))), (233, (rdp 291 cFa (mc2 c6.agg c6.agg) c6.agg (fun m x => moMontW m x.1 x.2)))] [] [] [] false [176, 232, 233]
theorem e180_ok : EnvOk PR e180 := envD_ok eqsT_ok TabPOk.nil (TabHOk.cons qadd_ent qadd_ok (TabHOk.cons mn_ent mn_ok (TabHOk.cons mm_ent mm_ok TabHOk.nil))) TabLOk.nil TabDOk.nil
theorem cx180 : Ctx PR e180 [] (fun _ => none) 2000 180 := ctx_of e180_ok mixed (fn := Go.Proofs.Tryz.f180) (by kernel_rfl) (by kernel_rfl) (by kernel_rfl) (tabOk_none _)
theorem n180 : Enters PR 180 := enters_of (fn := Go.Proofs.Tryz.f180) (by kernel_rfl) (by kernel_rfl) (by kernel_rfl)
noncomputable def g180 : List AV → AH → Nat → Option (Bool × AV × AH) := deepC PR e180 5 2000 180 4096 true
theorem g180_ok : ActOk PR 4096 180 g180 := deepC_ok cx180 rfl rfl

/-! reliquary/suite.wide -/
noncomputable def e107 : Env := envD eqsT [] [(177, sumV)] [(179, (layP kMd 291 cFa 0 modS))] [(178, g178), (180, g180)] [] false [178, 180, 177]
theorem e107_ok : EnvOk PR e107 := envD_ok eqsT_ok TabPOk.nil (TabHOk.cons dsum_ent dsum_ok TabHOk.nil) (TabLOk.cons nw_ent newS_okL TabLOk.nil) (TabDOk.cons n178 g178_ok (TabDOk.cons n180 g180_ok TabDOk.nil))
theorem cx107 : Ctx PR e107 [] (fun _ => none) 2000 107 := ctx_of e107_ok mixed (fn := Go.Proofs.Tryz.f107) (by kernel_rfl) (by kernel_rfl) (by kernel_rfl) (tabOk_none _)
theorem n107 : Enters PR 107 := enters_of (fn := Go.Proofs.Tryz.f107) (by kernel_rfl) (by kernel_rfl) (by kernel_rfl)
noncomputable def g107 : List AV → AH → Nat → Option (Bool × AV × AH) := deepC PR e107 6 2000 107 4096 true
theorem g107_ok : ActOk PR 4096 107 g107 := deepC_ok cx107 rfl rfl

/-! reliquary/little.of -/
noncomputable def e171 : Env := envD eqsT [] [] [] [] [] false []
theorem e171_ok : EnvOk PR e171 := envD_ok eqsT_ok TabPOk.nil TabHOk.nil TabLOk.nil TabDOk.nil
theorem cx171 : Ctx PR e171 [] (fun _ => none) 2000 171 := ctx_of e171_ok mixed (fn := Go.Proofs.Tryz.f171) (by kernel_rfl) (by kernel_rfl) (by kernel_rfl) (tabOk_none _)
theorem n171 : Enters PR 171 := enters_of (fn := Go.Proofs.Tryz.f171) (by kernel_rfl) (by kernel_rfl) (by kernel_rfl)
noncomputable def g171 : List AV → Option (Bool × AV) := (inlineC PR e171 4 2000 171)
theorem g171_ok : CallOk PR 171 g171 := (.inl ⟨n171, inlineC_ok cx171 rfl rfl⟩)

/-! reliquary/little.Prime -/
noncomputable def e182 : Env := envD eqsT [(171, g171)] [] [] [] [] false []
theorem e182_ok : EnvOk PR e182 := envD_ok eqsT_ok (TabPOk.cons g171_ok TabPOk.nil) TabHOk.nil TabLOk.nil TabDOk.nil
theorem cx182 : Ctx PR e182 [] (fun _ => none) 2000 182 := ctx_of e182_ok mixed (fn := Go.Proofs.Tryz.f182) (by kernel_rfl) (by kernel_rfl) (by kernel_rfl) (tabOk_none _)
theorem n182 : Enters PR 182 := enters_of (fn := Go.Proofs.Tryz.f182) (by kernel_rfl) (by kernel_rfl) (by kernel_rfl)
noncomputable def g182 : List AV → Option (Bool × AV) := (inlineC PR e182 4 2000 182)
theorem g182_ok : CallOk PR 182 g182 := (.inl ⟨n182, inlineC_ok cx182 rfl rfl⟩)

/-! reliquary/suite.prime -/
noncomputable def e108 : Env := envD eqsT [(16, (fn1 kU c6.agg ofW)), (182, g182)] [] [] [] [] false []
theorem e108_ok : EnvOk PR e108 := envD_ok eqsT_ok (TabPOk.cons of_ok (TabPOk.cons g182_ok TabPOk.nil)) TabHOk.nil TabLOk.nil TabDOk.nil
theorem cx108 : Ctx PR e108 [] (fun _ => none) 2000 108 := ctx_of e108_ok mixed (fn := Go.Proofs.Tryz.f108) (by kernel_rfl) (by kernel_rfl) (by kernel_rfl) (tabOk_none _)
theorem n108 : Enters PR 108 := enters_of (fn := Go.Proofs.Tryz.f108) (by kernel_rfl) (by kernel_rfl) (by kernel_rfl)
noncomputable def g108 : List AV → Option (Bool × AV) := (inlineC PR e108 4 2000 108)
theorem g108_ok : CallOk PR 108 g108 := (.inl ⟨n108, inlineC_ok cx108 rfl rfl⟩)

/-! reliquary/little.checked -/
noncomputable def e187 : Env := envD eqsT [(171, g171), (249, (fn2 kCv cLp.agg kBool onF))] [] [] [] [] false []
theorem e187_ok : EnvOk PR e187 := envD_ok eqsT_ok (TabPOk.cons g171_ok (TabPOk.cons lo_ok TabPOk.nil)) TabHOk.nil TabLOk.nil TabDOk.nil
theorem cx187 : Ctx PR e187 [] (fun _ => none) 2000 187 := ctx_of e187_ok mixed (fn := Go.Proofs.Tryz.f187) (by kernel_rfl) (by kernel_rfl) (by kernel_rfl) (tabOk_none _)
theorem n187 : Enters PR 187 := enters_of (fn := Go.Proofs.Tryz.f187) (by kernel_rfl) (by kernel_rfl) (by kernel_rfl)
noncomputable def g187 : List AV → AH → Nat → Option (Bool × AV × AH) := deepC PR e187 5 2000 187 4096 true
theorem g187_ok : ActOk PR 4096 187 g187 := deepC_ok cx187 rfl rfl

/-! reliquary/little.Near -/
noncomputable def e184 : Env := envD eqsT [(242, (fn3 kCv kU kU kU lPow)), (243, (fn2 kCv kU kU lrF)), (244, (fn3 kCv kU kU kU lMul)), (245, (fn3 kCv kU kU kU lSub)), (246, (fn3 kCv kU kU kU lAdd))] [] [] [(187, g187)] [] false [187]
theorem e184_ok : EnvOk PR e184 := envD_ok eqsT_ok (TabPOk.cons pw_ok (TabPOk.cons lr_ok (TabPOk.cons lm_ok (TabPOk.cons ls_ok (TabPOk.cons la_ok TabPOk.nil))))) TabHOk.nil TabLOk.nil (TabDOk.cons n187 g187_ok TabDOk.nil)
theorem cx184 : Ctx PR e184 [] (fun _ => none) 2000 184 := ctx_of e184_ok mixed (fn := Go.Proofs.Tryz.f184) (by kernel_rfl) (by kernel_rfl) (by kernel_rfl) (tabOk_none _)
theorem n184 : Enters PR 184 := enters_of (fn := Go.Proofs.Tryz.f184) (by kernel_rfl) (by kernel_rfl) (by kernel_rfl)
noncomputable def g184 : List AV → Option (Bool × AV) := nrmG (inlineC PR e184 6 2000 184)
theorem g184_ok : CallOk PR 184 g184 := nrmG_ok (.inl ⟨n184, inlineC_ok cx184 rfl rfl⟩)

/-! reliquary/little.Clear -/
noncomputable def e185 : Env := envD eqsT [(188, (fn3 kCv cLp.agg kU cLp.agg lTimes))] [] [] [(187, g187)] [] false [187]
theorem e185_ok : EnvOk PR e185 := envD_ok eqsT_ok (TabPOk.cons tm_ok TabPOk.nil) TabHOk.nil TabLOk.nil (TabDOk.cons n187 g187_ok TabDOk.nil)
theorem cx185 : Ctx PR e185 [] (fun _ => none) 2000 185 := ctx_of e185_ok mixed (fn := Go.Proofs.Tryz.f185) (by kernel_rfl) (by kernel_rfl) (by kernel_rfl) (tabOk_none _)
theorem n185 : Enters PR 185 := enters_of (fn := Go.Proofs.Tryz.f185) (by kernel_rfl) (by kernel_rfl) (by kernel_rfl)
noncomputable def g185 : List AV → Option (Bool × AV) := (inlineC PR e185 5 2000 185)
theorem g185_ok : CallOk PR 185 g185 := (.inl ⟨n185, inlineC_ok cx185 rfl rfl⟩)

/-! reliquary/suite.near -/
noncomputable def e110 : Env := envD eqsT [(108, g108), (184, g184), (185, g185)] [] [] [(107, g107)] [] false [107]
theorem e110_ok : EnvOk PR e110 := envD_ok eqsT_ok (TabPOk.cons g108_ok (TabPOk.cons g184_ok (TabPOk.cons g185_ok TabPOk.nil))) TabHOk.nil TabLOk.nil (TabDOk.cons n107 g107_ok TabDOk.nil)
theorem cx110 : Ctx PR e110 [] (fun _ => none) 2000 110 := ctx_of e110_ok mixed (fn := Go.Proofs.Tryz.f110) (by kernel_rfl) (by kernel_rfl) (by kernel_rfl) (tabOk_none _)
theorem n110 : Enters PR 110 := enters_of (fn := Go.Proofs.Tryz.f110) (by kernel_rfl) (by kernel_rfl) (by kernel_rfl)
noncomputable def g110 : List AV → AH → Nat → Option (Bool × AV × AH) := deepC PR e110 5 2000 110 4096 true
theorem g110_ok : ActOk PR 4096 110 g110 := deepC_ok cx110 rfl rfl

/-! reliquary/suite.Base -/
noncomputable def e24 : Env := envD eqsT [(104, g104), (108, g108)] [] [] [(105, g105), (107, g107), (110, g110)] [] false [105, 107, 110]
theorem e24_ok : EnvOk PR e24 := envD_ok eqsT_ok (TabPOk.cons g104_ok (TabPOk.cons g108_ok TabPOk.nil)) TabHOk.nil TabLOk.nil (TabDOk.cons n105 g105_ok (TabDOk.cons n107 g107_ok (TabDOk.cons n110 g110_ok TabDOk.nil)))
theorem cx24 : Ctx PR e24 [] (fun _ => none) 2000 24 := ctx_of e24_ok mixed (fn := Go.Proofs.Tryz.f24) (by kernel_rfl) (by kernel_rfl) (by kernel_rfl) (tabOk_none _)
theorem n24 : Enters PR 24 := enters_of (fn := Go.Proofs.Tryz.f24) (by kernel_rfl) (by kernel_rfl) (by kernel_rfl)
noncomputable def g24 : List AV → Option (Bool × AV) := (inlineC PR e24 6 2000 24)
theorem g24_ok : CallOk PR 24 g24 := (.inl ⟨n24, inlineC_ok cx24 rfl rfl⟩)
end Go.Rq
