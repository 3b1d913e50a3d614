/- A closed law's functions, each gone through where it is called. Written by a program of ours. -/
import Derived.Test.YtcboekjnibppdaaGreatDoorRq36
namespace Go.Rq
open Go Go.Proofs

/-! reliquary/little.Gen -/
noncomputable def e103 : Env := envD eqsT [(171, g171)] [] [] [] [] false []
theorem e103_ok : EnvOk PR e103 := envD_ok eqsT_ok (TabPOk.cons g171_ok TabPOk.nil) TabHOk.nil TabLOk.nil TabDOk.nil
theorem c103 : Ctx PR e103 [] (fun _ => none) 2000 103 := ctx_of e103_ok mixed (fn := Go.Proofs.Tryz.f103) (by kernel_rfl) (by kernel_rfl) (by kernel_rfl) (tabOk_none _)
theorem n103 : Enters PR 103 := enters_of (fn := Go.Proofs.Tryz.f103) (by kernel_rfl) (by kernel_rfl) (by kernel_rfl)
noncomputable def g103 : List AV → Option (Bool × AV) := (inlineC PR e103 4 2000 103)
theorem g103_ok : CallOk PR 103 g103 := (.inl ⟨n103, inlineC_ok c103 rfl rfl⟩)

/-! reliquary/suite.Gen -/
noncomputable def e23 : Env := envD eqsT [(103, g103)] [] [] [] [] false []
theorem e23_ok : EnvOk PR e23 := envD_ok eqsT_ok (TabPOk.cons g103_ok TabPOk.nil) TabHOk.nil TabLOk.nil TabDOk.nil
theorem c23 : Ctx PR e23 [] (fun _ => none) 2000 23 := ctx_of e23_ok mixed (fn := Go.Proofs.Tryz.f23) (by kernel_rfl) (by kernel_rfl) (by kernel_rfl) (tabOk_none _)
theorem n23 : Enters PR 23 := enters_of (fn := Go.Proofs.Tryz.f23) (by kernel_rfl) (by kernel_rfl) (by kernel_rfl)
noncomputable def g23 : List AV → Option (Bool × AV) := (inlineC PR e23 5 2000 23)
theorem g23_ok : CallOk PR 23 g23 := (.inl ⟨n23, inlineC_ok c23 rfl rfl⟩)

/-! reliquary/little.In -/
noncomputable def e169 : Env := envD eqsT [(171, g171), (230, (fn2 kCv cLp.agg kBool inF))] [] [] [] [] false []
theorem e169_ok : EnvOk PR e169 := envD_ok eqsT_ok (TabPOk.cons g171_ok (TabPOk.cons lin_ok TabPOk.nil)) TabHOk.nil TabLOk.nil TabDOk.nil
theorem c169 : Ctx PR e169 [] (fun _ => none) 2000 169 := ctx_of e169_ok mixed (fn := Go.Proofs.Tryz.f169) (by kernel_rfl) (by kernel_rfl) (by kernel_rfl) (tabOk_none _)
theorem n169 : Enters PR 169 := enters_of (fn := Go.Proofs.Tryz.f169) (by kernel_rfl) (by kernel_rfl) (by kernel_rfl)
noncomputable def g169 : List AV → Option (Bool × AV) := (inlineC PR e169 5 2000 169)
theorem g169_ok : CallOk PR 169 g169 := (.inl ⟨n169, inlineC_ok c169 rfl rfl⟩)

/-! reliquary/suite.KeyCheck -/
noncomputable def e101 : Env := envD eqsT [(169, g169)] [] [] [] [] false []
theorem e101_ok : EnvOk PR e101 := envD_ok eqsT_ok (TabPOk.cons g169_ok TabPOk.nil) TabHOk.nil TabLOk.nil TabDOk.nil
theorem c101 : Ctx PR e101 [] (fun _ => none) 2000 101 := ctx_of e101_ok mixed (fn := Go.Proofs.Tryz.f101) (by kernel_rfl) (by kernel_rfl) (by kernel_rfl) (tabOk_none _)
theorem n101 : Enters PR 101 := enters_of (fn := Go.Proofs.Tryz.f101) (by kernel_rfl) (by kernel_rfl) (by kernel_rfl)
noncomputable def g101 : List AV → Option (Bool × AV) := (inlineC PR e101 5 2000 101)
theorem g101_ok : CallOk PR 101 g101 := (.inl ⟨n101, inlineC_ok c101 rfl rfl⟩)

/-! reliquary/little.Order -/
noncomputable def e202 : Env := envD eqsT [(171, g171)] [] [] [] [] false []
theorem e202_ok : EnvOk PR e202 := envD_ok eqsT_ok (TabPOk.cons g171_ok TabPOk.nil) TabHOk.nil TabLOk.nil TabDOk.nil
theorem c202 : Ctx PR e202 [] (fun _ => none) 2000 202 := ctx_of e202_ok mixed (fn := Go.Proofs.Tryz.f202) (by kernel_rfl) (by kernel_rfl) (by kernel_rfl) (tabOk_none _)
theorem n202 : Enters PR 202 := enters_of (fn := Go.Proofs.Tryz.f202) (by kernel_rfl) (by kernel_rfl) (by kernel_rfl)
noncomputable def g202 : List AV → Option (Bool × AV) := (inlineC PR e202 4 2000 202)
theorem g202_ok : CallOk PR 202 g202 := (.inl ⟨n202, inlineC_ok c202 rfl rfl⟩)

/-! reliquary/suite.order -/
noncomputable def e123 : Env := envD eqsT [(16, (fn1 kU c6.agg ofW)), (202, g202)] [] [] [] [] false []
theorem e123_ok : EnvOk PR e123 := envD_ok eqsT_ok (TabPOk.cons of_ok (TabPOk.cons g202_ok TabPOk.nil)) TabHOk.nil TabLOk.nil TabDOk.nil
theorem c123 : Ctx PR e123 [] (fun _ => none) 2000 123 := ctx_of e123_ok mixed (fn := Go.Proofs.Tryz.f123) (by kernel_rfl) (by kernel_rfl) (by kernel_rfl) (tabOk_none _)
theorem n123 : Enters PR 123 := enters_of (fn := Go.Proofs.Tryz.f123) (by kernel_rfl) (by kernel_rfl) (by kernel_rfl)
noncomputable def g123 : List AV → Option (Bool × AV) := (inlineC PR e123 4 2000 123)
theorem g123_ok : CallOk PR 123 g123 := (.inl ⟨n123, inlineC_ok c123 rfl rfl⟩)

/-! reliquary/suite.keys -/
noncomputable def e111 : Env := envD eqsT [(98, (fn2 c6.agg c6.agg (kInt .i64) fun a b => chainV (cmpL a b) 0)), (101, g101), (123, g123)] [] [] [] [] false []
theorem e111_ok : EnvOk PR e111 := envD_ok eqsT_ok (TabPOk.cons cmp_ok (TabPOk.cons g101_ok (TabPOk.cons g123_ok TabPOk.nil))) TabHOk.nil TabLOk.nil TabDOk.nil
theorem c111 : Ctx PR e111 [] (fun _ => none) 2000 111 := ctx_of e111_ok mixed (fn := Go.Proofs.Tryz.f111) (by kernel_rfl) (by kernel_rfl) (by kernel_rfl) (tabOk_none _)
theorem n111 : Enters PR 111 := enters_of (fn := Go.Proofs.Tryz.f111) (by kernel_rfl) (by kernel_rfl) (by kernel_rfl)
noncomputable def g111 : List AV → AH → Nat → Option (Bool × AV × AH) := deepC PR e111 6 2000 111 4096 true
theorem g111_ok : ActOk PR 4096 111 g111 := deepC_ok c111 rfl rfl

/-! reliquary/little.Mul -/
noncomputable def e113 : Env := envD eqsT [(188, (fn3 kCv cLp.agg kU cLp.agg lTimes))] [] [] [(187, g187)] [] false [187]
theorem e113_ok : EnvOk PR e113 := envD_ok eqsT_ok (TabPOk.cons tm_ok TabPOk.nil) TabHOk.nil TabLOk.nil (TabDOk.cons n187 g187_ok TabDOk.nil)
theorem c113 : Ctx PR e113 [] (fun _ => none) 2000 113 := ctx_of e113_ok mixed (fn := Go.Proofs.Tryz.f113) (by kernel_rfl) (by kernel_rfl) (by kernel_rfl) (tabOk_none _)
theorem n113 : Enters PR 113 := enters_of (fn := Go.Proofs.Tryz.f113) (by kernel_rfl) (by kernel_rfl) (by kernel_rfl)
noncomputable def g113 : List AV → Option (Bool × AV) := (inlineC PR e113 5 2000 113)
theorem g113_ok : CallOk PR 113 g113 := (.inl ⟨n113, inlineC_ok c113 rfl rfl⟩)

/-! reliquary/suite.KeyMul -/
noncomputable def e25 : Env := envD eqsT [(113, g113)] [] [] [(111, g111)] [] false [111]
theorem e25_ok : EnvOk PR e25 := envD_ok eqsT_ok (TabPOk.cons g113_ok TabPOk.nil) TabHOk.nil TabLOk.nil (TabDOk.cons n111 g111_ok TabDOk.nil)
theorem c25 : Ctx PR e25 [] (fun _ => none) 2000 25 := ctx_of e25_ok mixed (fn := Go.Proofs.Tryz.f25) (by kernel_rfl) (by kernel_rfl) (by kernel_rfl) (tabOk_none _)
theorem n25 : Enters PR 25 := enters_of (fn := Go.Proofs.Tryz.f25) (by kernel_rfl) (by kernel_rfl) (by kernel_rfl)
noncomputable def g25 : List AV → Option (Bool × AV) := (inlineC PR e25 6 2000 25)
theorem g25_ok : CallOk PR 25 g25 := (.inl ⟨n25, inlineC_ok c25 rfl rfl⟩)

/-! reliquary/suite.Order -/
noncomputable def e34 : Env := envD eqsT [(104, g104), (123, g123)] [] [] [] [] false []
theorem e34_ok : EnvOk PR e34 := envD_ok eqsT_ok (TabPOk.cons g104_ok (TabPOk.cons g123_ok TabPOk.nil)) TabHOk.nil TabLOk.nil TabDOk.nil
theorem c34 : Ctx PR e34 [] (fun _ => none) 2000 34 := ctx_of e34_ok mixed (fn := Go.Proofs.Tryz.f34) (by kernel_rfl) (by kernel_rfl) (by kernel_rfl) (tabOk_none _)
theorem n34 : Enters PR 34 := enters_of (fn := Go.Proofs.Tryz.f34) (by kernel_rfl) (by kernel_rfl) (by kernel_rfl)
noncomputable def g34 : List AV → Option (Bool × AV) := (inlineC PR e34 4 2000 34)
theorem g34_ok : CallOk PR 34 g34 := (.inl ⟨n34, inlineC_ok c34 rfl rfl⟩)

/-! reliquary/little.Add -/
noncomputable def e167 : Env := envD eqsT [(225, (fn3 kCv cLp.agg cLp.agg cLp.agg lSum))] [] [] [(187, g187)] [] false [187]
theorem e167_ok : EnvOk PR e167 := envD_ok eqsT_ok (TabPOk.cons lsm_ok TabPOk.nil) TabHOk.nil TabLOk.nil (TabDOk.cons n187 g187_ok TabDOk.nil)
theorem c167 : Ctx PR e167 [] (fun _ => none) 2000 167 := ctx_of e167_ok mixed (fn := Go.Proofs.Tryz.f167) (by kernel_rfl) (by kernel_rfl) (by kernel_rfl) (tabOk_none _)
theorem n167 : Enters PR 167 := enters_of (fn := Go.Proofs.Tryz.f167) (by kernel_rfl) (by kernel_rfl) (by kernel_rfl)
noncomputable def g167 : List AV → Option (Bool × AV) := (inlineC PR e167 5 2000 167)
theorem g167_ok : CallOk PR 167 g167 := (.inl ⟨n167, inlineC_ok c167 rfl rfl⟩)

/-! reliquary/suite.KeyAdd -/
noncomputable def e99 : Env := envD eqsT [(167, g167)] [] [] [(111, g111)] [] false [111]
theorem e99_ok : EnvOk PR e99 := envD_ok eqsT_ok (TabPOk.cons g167_ok TabPOk.nil) TabHOk.nil TabLOk.nil (TabDOk.cons n111 g111_ok TabDOk.nil)
theorem c99 : Ctx PR e99 [] (fun _ => none) 2000 99 := ctx_of e99_ok mixed (fn := Go.Proofs.Tryz.f99) (by kernel_rfl) (by kernel_rfl) (by kernel_rfl) (tabOk_none _)
theorem n99 : Enters PR 99 := enters_of (fn := Go.Proofs.Tryz.f99) (by kernel_rfl) (by kernel_rfl) (by kernel_rfl)
noncomputable def g99 : List AV → Option (Bool × AV) := (inlineC PR e99 6 2000 99)
theorem g99_ok : CallOk PR 99 g99 := (.inl ⟨n99, inlineC_ok c99 rfl rfl⟩)

/-! reliquary/pledge.One -/
noncomputable def e15 : Env := envD eqsT [(23, g23), (24, (memoA bsT)), (25, g25), (34, g34), (98, (fn2 c6.agg c6.agg (kInt .i64) fun a b => chainV (cmpL a b) 0)), (99, g99)] [] [] [] [] false []
theorem e15_ok : EnvOk PR e15 := envD_ok eqsT_ok (TabPOk.cons g23_ok (TabPOk.cons bs_ok (TabPOk.cons g25_ok (TabPOk.cons g34_ok (TabPOk.cons cmp_ok (TabPOk.cons g99_ok TabPOk.nil)))))) TabHOk.nil TabLOk.nil TabDOk.nil
theorem c15 : Ctx PR e15 [] (fun _ => none) 2000 15 := ctx_of e15_ok mixed (fn := Go.Proofs.Tryz.f15) (by kernel_rfl) (by kernel_rfl) (by kernel_rfl) (tabOk_none _)
theorem n15 : Enters PR 15 := enters_of (fn := Go.Proofs.Tryz.f15) (by kernel_rfl) (by kernel_rfl) (by kernel_rfl)
noncomputable def g15 : List AV → Option (Bool × AV) := (inlineC PR e15 7 2000 15)
theorem g15_ok : CallOk PR 15 g15 := (.inl ⟨n15, inlineC_ok c15 rfl rfl⟩)

/-! reliquary/pledge.Commit -/
noncomputable def e13 : Env := envD eqsT [(15, g15), (34, g34)] [] [] [] [] false []
theorem e13_ok : EnvOk PR e13 := envD_ok eqsT_ok (TabPOk.cons g15_ok (TabPOk.cons g34_ok TabPOk.nil)) TabHOk.nil TabLOk.nil TabDOk.nil
theorem c13 : Ctx PR e13 [] (fun _ => none) 2000 13 := ctx_of e13_ok mixed (fn := Go.Proofs.Tryz.f13) (by kernel_rfl) (by kernel_rfl) (by kernel_rfl) (tabOk_none _)
theorem n13 : Enters PR 13 := enters_of (fn := Go.Proofs.Tryz.f13) (by kernel_rfl) (by kernel_rfl) (by kernel_rfl)
noncomputable def g13 : List AV → AH → Nat → Option (Bool × AV × AH) := deepC PR e13 7 2000 13 4096 true
theorem g13_ok : ActOk PR 4096 13 g13 := deepC_ok c13 rfl rfl

/-! reliquary/reliquarylaw20.two -/
noncomputable def e14 : Env := envD eqsT [(16, (fn1 kU c6.agg ofW))] [] [] [] [] false []
theorem e14_ok : EnvOk PR e14 := envD_ok eqsT_ok (TabPOk.cons of_ok TabPOk.nil) TabHOk.nil TabLOk.nil TabDOk.nil
theorem c14 : Ctx PR e14 [] (fun _ => none) 2000 14 := ctx_of e14_ok mixed (fn := Go.Proofs.Tryz.f14) (by kernel_rfl) (by kernel_rfl) (by kernel_rfl) (tabOk_none _)
theorem n14 : Enters PR 14 := enters_of (fn := Go.Proofs.Tryz.f14) (by kernel_rfl) (by kernel_rfl) (by kernel_rfl)
noncomputable def g14 : List AV → AH → Nat → Option (Bool × AV × AH) := deepC PR e14 4 2000 14 4096 true
theorem g14_ok : ActOk PR 4096 14 g14 := deepC_ok c14 rfl rfl

/-! reliquary/reliquarykit.SameKeys -/
noncomputable def e17 : Env := envD eqsT [] [] [] [] [] false []
theorem e17_ok : EnvOk PR e17 := envD_ok eqsT_ok TabPOk.nil TabHOk.nil TabLOk.nil TabDOk.nil
theorem c17 : Ctx PR e17 [] (fun _ => none) 2000 17 := ctx_of e17_ok mixed (fn := Go.Proofs.Tryz.f17) (by kernel_rfl) (by kernel_rfl) (by kernel_rfl) (tabOk_none _)
theorem n17 : Enters PR 17 := enters_of (fn := Go.Proofs.Tryz.f17) (by kernel_rfl) (by kernel_rfl) (by kernel_rfl)
noncomputable def g17 : List AV → AH → Nat → Option (Bool × AV × AH) := deepC PR e17 5 2000 17 4096 true
theorem g17_ok : ActOk PR 4096 17 g17 := deepC_ok c17 rfl rfl

/-! reliquary/pledge.Check -/
noncomputable def e22 : Env := envD eqsT [(101, g101)] [] [] [] [] false []
theorem e22_ok : EnvOk PR e22 := envD_ok eqsT_ok (TabPOk.cons g101_ok TabPOk.nil) TabHOk.nil TabLOk.nil TabDOk.nil
theorem c22 : Ctx PR e22 [] (fun _ => none) 2000 22 := ctx_of e22_ok mixed (fn := Go.Proofs.Tryz.f22) (by kernel_rfl) (by kernel_rfl) (by kernel_rfl) (tabOk_none _)
theorem n22 : Enters PR 22 := enters_of (fn := Go.Proofs.Tryz.f22) (by kernel_rfl) (by kernel_rfl) (by kernel_rfl)
noncomputable def g22 : List AV → AH → Nat → Option (Bool × AV × AH) := deepC PR e22 6 2000 22 4096 true
theorem g22_ok : ActOk PR 4096 22 g22 := deepC_ok c22 rfl rfl

/-! (reliquary/pledge.pledge).at -/
noncomputable def e100 : Env := envD eqsT [(16, (fn1 kU c6.agg ofW)), (25, g25), (99, g99)] [] [] [] [] false []
theorem e100_ok : EnvOk PR e100 := envD_ok eqsT_ok (TabPOk.cons of_ok (TabPOk.cons g25_ok (TabPOk.cons g99_ok TabPOk.nil))) TabHOk.nil TabLOk.nil TabDOk.nil
theorem c100 : Ctx PR e100 [] (fun _ => none) 2000 100 := ctx_of e100_ok mixed (fn := Go.Proofs.Tryz.f100) (by kernel_rfl) (by kernel_rfl) (by kernel_rfl) (tabOk_none _)
theorem n100 : Enters PR 100 := enters_of (fn := Go.Proofs.Tryz.f100) (by kernel_rfl) (by kernel_rfl) (by kernel_rfl)
noncomputable def g100 : List AV → AH → Nat → Option (Bool × AV × AH) := deepC PR e100 6 2000 100 4096 true
theorem g100_ok : ActOk PR 4096 100 g100 := deepC_ok c100 rfl rfl

/-! reliquary/pledge.At -/
noncomputable def e18 : Env := envD eqsT [] [] [] [(22, g22), (100, g100)] [] false [22, 100]
theorem e18_ok : EnvOk PR e18 := envD_ok eqsT_ok TabPOk.nil TabHOk.nil TabLOk.nil (TabDOk.cons n22 g22_ok (TabDOk.cons n100 g100_ok TabDOk.nil))
theorem c18 : Ctx PR e18 [] (fun _ => none) 2000 18 := ctx_of e18_ok mixed (fn := Go.Proofs.Tryz.f18) (by kernel_rfl) (by kernel_rfl) (by kernel_rfl) (tabOk_none _)
theorem n18 : Enters PR 18 := enters_of (fn := Go.Proofs.Tryz.f18) (by kernel_rfl) (by kernel_rfl) (by kernel_rfl)
noncomputable def g18 : List AV → AH → Nat → Option (Bool × AV × AH) := deepC PR e18 5 2000 18 4096 true
theorem g18_ok : ActOk PR 4096 18 g18 := deepC_ok c18 rfl rfl

/-! reliquary/pledge.Sum -/
noncomputable def e19 : Env := envD eqsT [(99, g99)] [] [] [(22, g22)] [] false [22]
theorem e19_ok : EnvOk PR e19 := envD_ok eqsT_ok (TabPOk.cons g99_ok TabPOk.nil) TabHOk.nil TabLOk.nil (TabDOk.cons n22 g22_ok TabDOk.nil)
theorem c19 : Ctx PR e19 [] (fun _ => none) 2000 19 := ctx_of e19_ok mixed (fn := Go.Proofs.Tryz.f19) (by kernel_rfl) (by kernel_rfl) (by kernel_rfl) (tabOk_none _)
theorem n19 : Enters PR 19 := enters_of (fn := Go.Proofs.Tryz.f19) (by kernel_rfl) (by kernel_rfl) (by kernel_rfl)
noncomputable def g19 : List AV → AH → Nat → Option (Bool × AV × AH) := deepC PR e19 7 2000 19 4096 true
theorem g19_ok : ActOk PR 4096 19 g19 := deepC_ok c19 rfl rfl

/-! reliquary/pledge.Holds -/
noncomputable def e20 : Env := envD eqsT [(15, g15)] [] [] [(18, g18)] [] false [18]
theorem e20_ok : EnvOk PR e20 := envD_ok eqsT_ok (TabPOk.cons g15_ok TabPOk.nil) TabHOk.nil TabLOk.nil (TabDOk.cons n18 g18_ok TabDOk.nil)
theorem c20 : Ctx PR e20 [] (fun _ => none) 2000 20 := ctx_of e20_ok mixed (fn := Go.Proofs.Tryz.f20) (by kernel_rfl) (by kernel_rfl) (by kernel_rfl) (tabOk_none _)
theorem n20 : Enters PR 20 := enters_of (fn := Go.Proofs.Tryz.f20) (by kernel_rfl) (by kernel_rfl) (by kernel_rfl)
noncomputable def g20 : List AV → AH → Nat → Option (Bool × AV × AH) := deepC PR e20 6 2000 20 4096 true
theorem g20_ok : ActOk PR 4096 20 g20 := deepC_ok c20 rfl rfl

/-! reliquary/reliquarylaw20.awake -/
noncomputable def e21 : Env := envD eqsT [(16, (fn1 kU c6.agg ofW))] [] [] [(13, g13), (14, g14), (20, g20)] [] false [13, 14, 20]
theorem e21_ok : EnvOk PR e21 := envD_ok eqsT_ok (TabPOk.cons of_ok TabPOk.nil) TabHOk.nil TabLOk.nil (TabDOk.cons n13 g13_ok (TabDOk.cons n14 g14_ok (TabDOk.cons n20 g20_ok TabDOk.nil)))
theorem c21 : Ctx PR e21 [] (fun _ => none) 2000 21 := ctx_of e21_ok mixed (fn := Go.Proofs.Tryz.f21) (by kernel_rfl) (by kernel_rfl) (by kernel_rfl) (tabOk_none _)
theorem n21 : Enters PR 21 := enters_of (fn := Go.Proofs.Tryz.f21) (by kernel_rfl) (by kernel_rfl) (by kernel_rfl)
noncomputable def g21 : List AV → Option (Bool × AV) := (inlineC PR e21 6 2000 21)
theorem g21_ok : CallOk PR 21 g21 := (.inl ⟨n21, inlineC_ok c21 rfl rfl⟩)

/-! reliquary/reliquarylaw20.PledgeKnown -/
noncomputable def e3 : Env := envD eqsT [(15, g15), (16, (fn1 kU c6.agg ofW)), (21, g21)] [] [] [(13, g13), (14, g14), (17, g17), (18, g18), (19, g19), (20, g20), (22, g22)] [] false [13, 14, 17, 18, 19, 20, 22]
theorem e3_ok : EnvOk PR e3 := envD_ok eqsT_ok (TabPOk.cons g15_ok (TabPOk.cons of_ok (TabPOk.cons g21_ok TabPOk.nil))) TabHOk.nil TabLOk.nil (TabDOk.cons n13 g13_ok (TabDOk.cons n14 g14_ok (TabDOk.cons n17 g17_ok (TabDOk.cons n18 g18_ok (TabDOk.cons n19 g19_ok (TabDOk.cons n20 g20_ok (TabDOk.cons n22 g22_ok TabDOk.nil)))))))
theorem c3 : Ctx PR e3 [] (fun _ => none) 2000 3 := ctx_of e3_ok mixed (fn := Go.Proofs.Tryz.f3) (by kernel_rfl) (by kernel_rfl) (by kernel_rfl) (tabOk_none _)
theorem n3 : Enters PR 3 := enters_of (fn := Go.Proofs.Tryz.f3) (by kernel_rfl) (by kernel_rfl) (by kernel_rfl)
noncomputable def g3 : List AV → Option (Bool × AV) := (inlineC PR e3 8 2000 3)
theorem g3_ok : CallOk PR 3 g3 := (.inl ⟨n3, inlineC_ok c3 rfl rfl⟩)
end Go.Rq
