/- A closed law's functions, each gone through where it is called. Written by a program of ours. -/
import Derived.Test.YtcboekjnibppdaaGreatDoorRq42
namespace Go.Rq
open Go Go.Proofs
def md20_0 : MemD := ⟨[.own 0 17 0 2, .v (.int .i64 (.ofNat 1)), .agg [.u (BitVec.ofNat 64 22), .u (BitVec.ofNat 64 0), .u (BitVec.ofNat 64 0), .u (BitVec.ofNat 64 0), .u (BitVec.ofNat 64 0), .u (BitVec.ofNat 64 0)], .agg [.u (BitVec.ofNat 64 7), .u (BitVec.ofNat 64 0), .u (BitVec.ofNat 64 0), .u (BitVec.ofNat 64 0), .u (BitVec.ofNat 64 0), .u (BitVec.ofNat 64 0)]], [(0, some ⟨false, 37, [.v (.int .i64 (.ofNat 1)), .u (BitVec.ofNat 64 0), .u (BitVec.ofNat 64 0), .u (BitVec.ofNat 64 0), .u (BitVec.ofNat 64 0), .u (BitVec.ofNat 64 0), .u (BitVec.ofNat 64 0), .u (BitVec.ofNat 64 0), .u (BitVec.ofNat 64 0), .u (BitVec.ofNat 64 0), .u (BitVec.ofNat 64 0), .u (BitVec.ofNat 64 0), .u (BitVec.ofNat 64 0), .v (.bool false), .u (BitVec.ofNat 64 634788), .u (BitVec.ofNat 64 564763), .v (.bool false), .v (.int .i64 (.ofNat 1)), .u (BitVec.ofNat 64 0), .u (BitVec.ofNat 64 0), .u (BitVec.ofNat 64 0), .u (BitVec.ofNat 64 0), .u (BitVec.ofNat 64 0), .u (BitVec.ofNat 64 0), .u (BitVec.ofNat 64 0), .u (BitVec.ofNat 64 0), .u (BitVec.ofNat 64 0), .u (BitVec.ofNat 64 0), .u (BitVec.ofNat 64 0), .u (BitVec.ofNat 64 0), .v (.bool false), .u (BitVec.ofNat 64 430200), .u (BitVec.ofNat 64 459979), .v (.bool false)]⟩)], .tup [.v (.bool true), .v (.int .i64 (.ofNat 0))]⟩
set_option maxRecDepth 1000000 in
theorem mf20_0 : outC2 (outC (crunF PR e20 6 2000 20 md20_0.as md20_0.h md20_0.h.length)) = some md20_0.r := by kernel_rfl
def md20_1 : MemD := ⟨[.own 0 17 0 2, .v (.int .i64 (.ofNat 2)), .agg [.u (BitVec.ofNat 64 32), .u (BitVec.ofNat 64 0), .u (BitVec.ofNat 64 0), .u (BitVec.ofNat 64 0), .u (BitVec.ofNat 64 0), .u (BitVec.ofNat 64 0)], .agg [.u (BitVec.ofNat 64 10), .u (BitVec.ofNat 64 0), .u (BitVec.ofNat 64 0), .u (BitVec.ofNat 64 0), .u (BitVec.ofNat 64 0), .u (BitVec.ofNat 64 0)]], [(0, some ⟨false, 37, [.v (.int .i64 (.ofNat 1)), .u (BitVec.ofNat 64 0), .u (BitVec.ofNat 64 0), .u (BitVec.ofNat 64 0), .u (BitVec.ofNat 64 0), .u (BitVec.ofNat 64 0), .u (BitVec.ofNat 64 0), .u (BitVec.ofNat 64 0), .u (BitVec.ofNat 64 0), .u (BitVec.ofNat 64 0), .u (BitVec.ofNat 64 0), .u (BitVec.ofNat 64 0), .u (BitVec.ofNat 64 0), .v (.bool false), .u (BitVec.ofNat 64 634788), .u (BitVec.ofNat 64 564763), .v (.bool false), .v (.int .i64 (.ofNat 1)), .u (BitVec.ofNat 64 0), .u (BitVec.ofNat 64 0), .u (BitVec.ofNat 64 0), .u (BitVec.ofNat 64 0), .u (BitVec.ofNat 64 0), .u (BitVec.ofNat 64 0), .u (BitVec.ofNat 64 0), .u (BitVec.ofNat 64 0), .u (BitVec.ofNat 64 0), .u (BitVec.ofNat 64 0), .u (BitVec.ofNat 64 0), .u (BitVec.ofNat 64 0), .v (.bool false), .u (BitVec.ofNat 64 430200), .u (BitVec.ofNat 64 459979), .v (.bool false)]⟩)], .tup [.v (.bool true), .v (.int .i64 (.ofNat 0))]⟩
set_option maxRecDepth 1000000 in
theorem mf20_1 : outC2 (outC (crunF PR e20 6 2000 20 md20_1.as md20_1.h md20_1.h.length)) = some md20_1.r := by kernel_rfl
end Go.Rq

/- A closed law's functions, each gone through where it is called. Written by a program of ours. -/
namespace Go.Rq
open Go Go.Proofs

def mt20 : List MemD := [md20_0, md20_1]
theorem mt20_ok : MemOk PR e20 6 2000 20 mt20 := (MemOk.cons mf20_0 (MemOk.cons mf20_1 MemOk.nil))
noncomputable def g20 : List AV → AH → Nat → Option (Bool × AV × AH) := canG (memoD mt20 (deepC2 PR e20 6 2000 20 4096 true))
theorem g20_ok : ActOk PR 4096 20 g20 := memoD_ok cx20 rfl rfl mt20_ok (by kernel_rfl)

/-! reliquary/pledge.Sum -/
noncomputable def e19 : Env := envD eqsT [(99, g99)] [] [] [(22, g22)] [] false [22]
theorem e19_ok : EnvOk PR e19 := envD_ok eqsT_ok (TabPOk.cons g99_ok TabPOk.nil) TabHOk.nil TabLOk.nil (TabDOk.cons n22 g22_ok TabDOk.nil)
theorem cx19 : Ctx PR e19 [] (fun _ => none) 2000 19 := ctx_of e19_ok mixed (fn := Go.Proofs.Tryz.f19) (by kernel_rfl) (by kernel_rfl) (by kernel_rfl) (tabOk_none _)
theorem n19 : Enters PR 19 := enters_of (fn := Go.Proofs.Tryz.f19) (by kernel_rfl) (by kernel_rfl) (by kernel_rfl)
noncomputable def g19 : List AV → AH → Nat → Option (Bool × AV × AH) := deepC PR e19 7 2000 19 4096 true
theorem g19_ok : ActOk PR 4096 19 g19 := deepC_ok cx19 rfl rfl

/-! (*reliquary/dkg.Session).Dealers -/
noncomputable def e84 : Env := envD eqsT [] [] [] [(85, g85), (164, g164)] [] false [85, 164]
theorem e84_ok : EnvOk PR e84 := envD_ok eqsT_ok TabPOk.nil TabHOk.nil TabLOk.nil (TabDOk.cons n85 g85_ok (TabDOk.cons n164 g164_ok TabDOk.nil))
theorem cx84 : Ctx PR e84 [] (fun _ => none) 2000 84 := ctx_of e84_ok mixed (fn := Go.Proofs.Tryz.f84) (by kernel_rfl) (by kernel_rfl) (by kernel_rfl) (tabOk_none _)
theorem n84 : Enters PR 84 := enters_of (fn := Go.Proofs.Tryz.f84) (by kernel_rfl) (by kernel_rfl) (by kernel_rfl)
noncomputable def g84 : List AV → AH → Nat → Option (Bool × AV × AH) := deepC PR e84 4 2000 84 4096 true
theorem g84_ok : ActOk PR 4096 84 g84 := deepC_ok cx84 rfl rfl

/-! (*reliquary/refresh.Session).Dealers -/
noncomputable def e96 : Env := envD eqsT [] [] [] [(84, g84), (145, g145)] [] false [84, 145]
theorem e96_ok : EnvOk PR e96 := envD_ok eqsT_ok TabPOk.nil TabHOk.nil TabLOk.nil (TabDOk.cons n84 g84_ok (TabDOk.cons n145 g145_ok TabDOk.nil))
theorem cx96 : Ctx PR e96 [] (fun _ => none) 2000 96 := ctx_of e96_ok mixed (fn := Go.Proofs.Tryz.f96) (by kernel_rfl) (by kernel_rfl) (by kernel_rfl) (tabOk_none _)
theorem n96 : Enters PR 96 := enters_of (fn := Go.Proofs.Tryz.f96) (by kernel_rfl) (by kernel_rfl) (by kernel_rfl)
noncomputable def g96 : List AV → AH → Nat → Option (Bool × AV × AH) := deepC PR e96 4 2000 96 4096 true
theorem g96_ok : ActOk PR 4096 96 g96 := deepC_ok cx96 rfl rfl

/-! (*reliquary/refresh.Session).Closed -/
noncomputable def e97 : Env := envD eqsT [] [] [] [(85, g85), (145, g145)] [] false [85, 145]
theorem e97_ok : EnvOk PR e97 := envD_ok eqsT_ok TabPOk.nil TabHOk.nil TabLOk.nil (TabDOk.cons n85 g85_ok (TabDOk.cons n145 g145_ok TabDOk.nil))
theorem cx97 : Ctx PR e97 [] (fun _ => none) 2000 97 := ctx_of e97_ok mixed (fn := Go.Proofs.Tryz.f97) (by kernel_rfl) (by kernel_rfl) (by kernel_rfl) (tabOk_none _)
theorem n97 : Enters PR 97 := enters_of (fn := Go.Proofs.Tryz.f97) (by kernel_rfl) (by kernel_rfl) (by kernel_rfl)
noncomputable def g97 : List AV → AH → Nat → Option (Bool × AV × AH) := deepC PR e97 4 2000 97 4096 true
theorem g97_ok : ActOk PR 4096 97 g97 := deepC_ok cx97 rfl rfl

/-! (*reliquary/refresh.Session).Pledge -/
noncomputable def e89 : Env := envD eqsT [] [] [] [(19, g19), (96, g96), (97, g97), (145, g145)] [] false [19, 96, 97, 145]
theorem e89_ok : EnvOk PR e89 := envD_ok eqsT_ok TabPOk.nil TabHOk.nil TabLOk.nil (TabDOk.cons n19 g19_ok (TabDOk.cons n96 g96_ok (TabDOk.cons n97 g97_ok (TabDOk.cons n145 g145_ok TabDOk.nil))))
theorem cx89 : Ctx PR e89 [] (fun _ => none) 2000 89 := ctx_of e89_ok mixed (fn := Go.Proofs.Tryz.f89) (by kernel_rfl) (by kernel_rfl) (by kernel_rfl) (tabOk_none _)
theorem n89 : Enters PR 89 := enters_of (fn := Go.Proofs.Tryz.f89) (by kernel_rfl) (by kernel_rfl) (by kernel_rfl)
noncomputable def g89 : List AV → AH → Nat → Option (Bool × AV × AH) := deepC PR e89 6 2000 89 4096 true
theorem g89_ok : ActOk PR 4096 89 g89 := deepC_ok cx89 rfl rfl

/-! (*reliquary/refresh.Session).bound -/
noncomputable def e165 : Env := envD eqsT [] [] [] [(134, g134)] [] false [134]
theorem e165_ok : EnvOk PR e165 := envD_ok eqsT_ok TabPOk.nil TabHOk.nil TabLOk.nil (TabDOk.cons n134 g134_ok TabDOk.nil)
theorem cx165 : Ctx PR e165 [] (fun _ => none) 2000 165 := ctx_of e165_ok mixed (fn := Go.Proofs.Tryz.f165) (by kernel_rfl) (by kernel_rfl) (by kernel_rfl) (tabOk_none _)
theorem n165 : Enters PR 165 := enters_of (fn := Go.Proofs.Tryz.f165) (by kernel_rfl) (by kernel_rfl) (by kernel_rfl)
noncomputable def g165 : List AV → AH → Nat → Option (Bool × AV × AH) := deepC PR e165 4 2000 165 4096 true
theorem g165_ok : ActOk PR 4096 165 g165 := deepC_ok cx165 rfl rfl

/-! (*reliquary/refresh.Session).Prove -/
noncomputable def e91 : Env := envD eqsT [(23, g23), (24, (memoA bsT)), (25, g25)] [] [] [(20, g20), (26, g26), (89, g89), (147, g147), (148, g148), (165, g165)] [] false [20, 26, 89, 147, 148, 165]
theorem e91_ok : EnvOk PR e91 := envD_ok eqsT_ok (TabPOk.cons g23_ok (TabPOk.cons bs_ok (TabPOk.cons g25_ok TabPOk.nil))) TabHOk.nil TabLOk.nil (TabDOk.cons n20 g20_ok (TabDOk.cons n26 g26_ok (TabDOk.cons n89 g89_ok (TabDOk.cons n147 g147_ok (TabDOk.cons n148 g148_ok (TabDOk.cons n165 g165_ok TabDOk.nil))))))
theorem cx91 : Ctx PR e91 [] (fun _ => none) 2000 91 := ctx_of e91_ok mixed (fn := Go.Proofs.Tryz.f91) (by kernel_rfl) (by kernel_rfl) (by kernel_rfl) (tabOk_none _)
theorem n91 : Enters PR 91 := enters_of (fn := Go.Proofs.Tryz.f91) (by kernel_rfl) (by kernel_rfl) (by kernel_rfl)
noncomputable def g91 : List AV → AH → Nat → Option (Bool × AV × AH) := deepC PR e91 7 2000 91 4096 true
theorem g91_ok : ActOk PR 4096 91 g91 := deepC_ok cx91 rfl rfl

/-! (*reliquary/dkg.Session).Quorum -/
noncomputable def e87 : Env := envD eqsT [] [] [] [(86, g86), (156, g156)] [] false [86, 156]
theorem e87_ok : EnvOk PR e87 := envD_ok eqsT_ok TabPOk.nil TabHOk.nil TabLOk.nil (TabDOk.cons n86 g86_ok (TabDOk.cons n156 g156_ok TabDOk.nil))
theorem cx87 : Ctx PR e87 [] (fun _ => none) 2000 87 := ctx_of e87_ok mixed (fn := Go.Proofs.Tryz.f87) (by kernel_rfl) (by kernel_rfl) (by kernel_rfl) (tabOk_none _)
theorem n87 : Enters PR 87 := enters_of (fn := Go.Proofs.Tryz.f87) (by kernel_rfl) (by kernel_rfl) (by kernel_rfl)
noncomputable def g87 : List AV → AH → Nat → Option (Bool × AV × AH) := deepC PR e87 4 2000 87 4096 true
theorem g87_ok : ActOk PR 4096 87 g87 := deepC_ok cx87 rfl rfl

/-! (*reliquary/dkg.Session).live -/
noncomputable def e158 : Env := envD eqsT [] [] [] [] [] false []
theorem e158_ok : EnvOk PR e158 := envD_ok eqsT_ok TabPOk.nil TabHOk.nil TabLOk.nil TabDOk.nil
theorem cx158 : Ctx PR e158 [] (fun _ => none) 2000 158 := ctx_of e158_ok mixed (fn := Go.Proofs.Tryz.f158) (by kernel_rfl) (by kernel_rfl) (by kernel_rfl) (tabOk_none _)
theorem n158 : Enters PR 158 := enters_of (fn := Go.Proofs.Tryz.f158) (by kernel_rfl) (by kernel_rfl) (by kernel_rfl)
noncomputable def g158 : List AV → AH → Nat → Option (Bool × AV × AH) := deepC PR e158 5 2000 158 4096 true
theorem g158_ok : ActOk PR 4096 158 g158 := deepC_ok cx158 rfl rfl

/-! (*reliquary/dkg.Session).close -/
noncomputable def e159 : Env := envD eqsT [] [] [] [(19, g19), (86, g86)] [] false [19, 86]
theorem e159_ok : EnvOk PR e159 := envD_ok eqsT_ok TabPOk.nil TabHOk.nil TabLOk.nil (TabDOk.cons n19 g19_ok (TabDOk.cons n86 g86_ok TabDOk.nil))
theorem cx159 : Ctx PR e159 [] (fun _ => none) 2000 159 := ctx_of e159_ok mixed (fn := Go.Proofs.Tryz.f159) (by kernel_rfl) (by kernel_rfl) (by kernel_rfl) (tabOk_none _)
theorem n159 : Enters PR 159 := enters_of (fn := Go.Proofs.Tryz.f159) (by kernel_rfl) (by kernel_rfl) (by kernel_rfl)
noncomputable def g159 : List AV → AH → Nat → Option (Bool × AV × AH) := deepC PR e159 6 2000 159 4096 false
theorem g159_ok : ActOk PR 4096 159 g159 := deepC_ok cx159 rfl rfl

/-! (*reliquary/dkg.Session).Ack -/
noncomputable def e76 : Env := envD eqsT [] [] [] [(87, g87), (152, g152), (158, g158), (159, g159)] [] false [87, 152, 158]
theorem e76_ok : EnvOk PR e76 := envD_ok eqsT_ok TabPOk.nil TabHOk.nil TabLOk.nil (TabDOk.cons n87 g87_ok (TabDOk.cons n152 g152_ok (TabDOk.cons n158 g158_ok (TabDOk.cons n159 g159_ok TabDOk.nil))))
theorem cx76 : Ctx PR e76 [] (fun _ => none) 2000 76 := ctx_of e76_ok mixed (fn := Go.Proofs.Tryz.f76) (by kernel_rfl) (by kernel_rfl) (by kernel_rfl) (tabOk_none _)
theorem n76 : Enters PR 76 := enters_of (fn := Go.Proofs.Tryz.f76) (by kernel_rfl) (by kernel_rfl) (by kernel_rfl)
noncomputable def g76 : List AV → AH → Nat → Option (Bool × AV × AH) := deepC PR e76 7 2000 76 4096 false
theorem g76_ok : ActOk PR 4096 76 g76 := deepC_ok cx76 rfl rfl

/-! (*reliquary/refresh.Session).Ack -/
noncomputable def e92 : Env := envD eqsT [] [] [] [(76, g76), (145, g145)] [] false [145]
theorem e92_ok : EnvOk PR e92 := envD_ok eqsT_ok TabPOk.nil TabHOk.nil TabLOk.nil (TabDOk.cons n76 g76_ok (TabDOk.cons n145 g145_ok TabDOk.nil))
theorem cx92 : Ctx PR e92 [] (fun _ => none) 2000 92 := ctx_of e92_ok mixed (fn := Go.Proofs.Tryz.f92) (by kernel_rfl) (by kernel_rfl) (by kernel_rfl) (tabOk_none _)
theorem n92 : Enters PR 92 := enters_of (fn := Go.Proofs.Tryz.f92) (by kernel_rfl) (by kernel_rfl) (by kernel_rfl)
noncomputable def g92 : List AV → AH → Nat → Option (Bool × AV × AH) := deepC PR e92 4 2000 92 4096 false
theorem g92_ok : ActOk PR 4096 92 g92 := deepC_ok cx92 rfl rfl

/-! (*reliquary/refresh.Session).At -/
noncomputable def e90 : Env := envD eqsT [] [] [] [(18, g18), (89, g89), (147, g147)] [] false [18, 89, 147]
theorem e90_ok : EnvOk PR e90 := envD_ok eqsT_ok TabPOk.nil TabHOk.nil TabLOk.nil (TabDOk.cons n18 g18_ok (TabDOk.cons n89 g89_ok (TabDOk.cons n147 g147_ok TabDOk.nil)))
theorem cx90 : Ctx PR e90 [] (fun _ => none) 2000 90 := ctx_of e90_ok mixed (fn := Go.Proofs.Tryz.f90) (by kernel_rfl) (by kernel_rfl) (by kernel_rfl) (tabOk_none _)
theorem n90 : Enters PR 90 := enters_of (fn := Go.Proofs.Tryz.f90) (by kernel_rfl) (by kernel_rfl) (by kernel_rfl)
noncomputable def g90 : List AV → AH → Nat → Option (Bool × AV × AH) := deepC PR e90 5 2000 90 4096 true
theorem g90_ok : ActOk PR 4096 90 g90 := deepC_ok cx90 rfl rfl

/-! reliquary/little.Neg -/
noncomputable def e193 : Env := envD eqsT [(245, (fn3 kCv kU kU kU lSub))] [] [] [(187, g187)] [] false [187]
theorem e193_ok : EnvOk PR e193 := envD_ok eqsT_ok (TabPOk.cons ls_ok TabPOk.nil) TabHOk.nil TabLOk.nil (TabDOk.cons n187 g187_ok TabDOk.nil)
theorem cx193 : Ctx PR e193 [] (fun _ => none) 2000 193 := ctx_of e193_ok mixed (fn := Go.Proofs.Tryz.f193) (by kernel_rfl) (by kernel_rfl) (by kernel_rfl) (tabOk_none _)
theorem n193 : Enters PR 193 := enters_of (fn := Go.Proofs.Tryz.f193) (by kernel_rfl) (by kernel_rfl) (by kernel_rfl)
noncomputable def g193 : List AV → Option (Bool × AV) := (inlineC PR e193 5 2000 193)
theorem g193_ok : CallOk PR 193 g193 := (.inl ⟨n193, inlineC_ok cx193 rfl rfl⟩)

/-! reliquary/suite.KeyNeg -/
noncomputable def e119 : Env := envD eqsT [(193, g193)] [] [] [(111, g111)] [] false [111]
theorem e119_ok : EnvOk PR e119 := envD_ok eqsT_ok (TabPOk.cons g193_ok TabPOk.nil) TabHOk.nil TabLOk.nil (TabDOk.cons n111 g111_ok TabDOk.nil)
theorem cx119 : Ctx PR e119 [] (fun _ => none) 2000 119 := ctx_of e119_ok mixed (fn := Go.Proofs.Tryz.f119) (by kernel_rfl) (by kernel_rfl) (by kernel_rfl) (tabOk_none _)
theorem n119 : Enters PR 119 := enters_of (fn := Go.Proofs.Tryz.f119) (by kernel_rfl) (by kernel_rfl) (by kernel_rfl)
noncomputable def g119 : List AV → Option (Bool × AV) := (inlineC PR e119 6 2000 119)
theorem g119_ok : CallOk PR 119 g119 := (.inl ⟨n119, inlineC_ok cx119 rfl rfl⟩)

/-! slices.Index[[]int,int] -/
noncomputable def e212 : Env := envD eqsT [] [] [] [] [] false []
theorem e212_ok : EnvOk PR e212 := envD_ok eqsT_ok TabPOk.nil TabHOk.nil TabLOk.nil TabDOk.nil
theorem cx212 : Ctx PR e212 [] (fun _ => none) 2000 212 := ctx_of e212_ok mixed (fn := Go.Proofs.Tryz.f212) (by kernel_rfl) (by kernel_rfl) (by kernel_rfl) (tabOk_none _)
theorem n212 : Enters PR 212 := enters_of (fn := Go.Proofs.Tryz.f212) (by kernel_rfl) (by kernel_rfl) (by kernel_rfl)
noncomputable def g212 : List AV → AH → Nat → Option (Bool × AV × AH) := deepC PR e212 5 2000 212 4096 true
theorem g212_ok : ActOk PR 4096 212 g212 := deepC_ok cx212 rfl rfl

/-! slices.Contains[[]int,int] -/
noncomputable def e140 : Env := envD eqsT [] [] [] [(212, g212)] [] false [212]
theorem e140_ok : EnvOk PR e140 := envD_ok eqsT_ok TabPOk.nil TabHOk.nil TabLOk.nil (TabDOk.cons n212 g212_ok TabDOk.nil)
theorem cx140 : Ctx PR e140 [] (fun _ => none) 2000 140 := ctx_of e140_ok mixed (fn := Go.Proofs.Tryz.f140) (by kernel_rfl) (by kernel_rfl) (by kernel_rfl) (tabOk_none _)
theorem n140 : Enters PR 140 := enters_of (fn := Go.Proofs.Tryz.f140) (by kernel_rfl) (by kernel_rfl) (by kernel_rfl)
noncomputable def g140 : List AV → AH → Nat → Option (Bool × AV × AH) := deepC PR e140 4 2000 140 4096 true
theorem g140_ok : ActOk PR 4096 140 g140 := deepC_ok cx140 rfl rfl

/-! (*reliquary/refresh.Session).Extract -/
noncomputable def e95 : Env := envD eqsT [(24, (memoA bsT)), (99, g99), (101, g101), (119, g119)] [] [] [(28, g28), (90, g90), (140, g140), (147, g147), (148, g148), (165, g165)] [] false [28, 90, 140, 147, 148, 165]
theorem e95_ok : EnvOk PR e95 := envD_ok eqsT_ok (TabPOk.cons bs_ok (TabPOk.cons g99_ok (TabPOk.cons g101_ok (TabPOk.cons g119_ok TabPOk.nil)))) TabHOk.nil TabLOk.nil (TabDOk.cons n28 g28_ok (TabDOk.cons n90 g90_ok (TabDOk.cons n140 g140_ok (TabDOk.cons n147 g147_ok (TabDOk.cons n148 g148_ok (TabDOk.cons n165 g165_ok TabDOk.nil))))))
theorem cx95 : Ctx PR e95 [] (fun _ => none) 2000 95 := ctx_of e95_ok mixed (fn := Go.Proofs.Tryz.f95) (by kernel_rfl) (by kernel_rfl) (by kernel_rfl) (tabOk_none _)
theorem n95 : Enters PR 95 := enters_of (fn := Go.Proofs.Tryz.f95) (by kernel_rfl) (by kernel_rfl) (by kernel_rfl)
noncomputable def g95 : List AV → AH → Nat → Option (Bool × AV × AH) := deepC PR e95 8 2000 95 4096 false
theorem g95_ok : ActOk PR 4096 95 g95 := deepC_ok cx95 rfl rfl

/-! reliquary/reliquarylaw23.deals -/
noncomputable def e62 : Env := envD eqsT [(16, (fn1 kU c6.agg ofW))] [] [] [(13, g13), (64, g64), (65, g65), (68, g68), (91, g91), (92, g92), (95, g95), (97, g97)] [] false [13, 64, 65, 91, 97]
theorem e62_ok : EnvOk PR e62 := envD_ok eqsT_ok (TabPOk.cons of_ok TabPOk.nil) TabHOk.nil TabLOk.nil (TabDOk.cons n13 g13_ok (TabDOk.cons n64 g64_ok (TabDOk.cons n65 g65_ok (TabDOk.cons n68 g68_ok (TabDOk.cons n91 g91_ok (TabDOk.cons n92 g92_ok (TabDOk.cons n95 g95_ok (TabDOk.cons n97 g97_ok TabDOk.nil))))))))
theorem cx62 : Ctx PR e62 [] (fun _ => none) 2000 62 := ctx_of e62_ok mixed (fn := Go.Proofs.Tryz.f62) (by kernel_rfl) (by kernel_rfl) (by kernel_rfl) (tabOk_none _)
theorem n62 : Enters PR 62 := enters_of (fn := Go.Proofs.Tryz.f62) (by kernel_rfl) (by kernel_rfl) (by kernel_rfl)
noncomputable def g62 : List AV → AH → Nat → Option (Bool × AV × AH) := deepC PR e62 7 2000 62 4096 false
theorem g62_ok : ActOk PR 4096 62 g62 := deepC_ok cx62 rfl rfl

/-! (*reliquary/refresh.Session).PublicOf -/
noncomputable def e63 : Env := envD eqsT [] [] [] [(61, g61), (146, g146), (147, g147)] [] false [61, 146, 147]
theorem e63_ok : EnvOk PR e63 := envD_ok eqsT_ok TabPOk.nil TabHOk.nil TabLOk.nil (TabDOk.cons n61 g61_ok (TabDOk.cons n146 g146_ok (TabDOk.cons n147 g147_ok TabDOk.nil)))
theorem cx63 : Ctx PR e63 [] (fun _ => none) 2000 63 := ctx_of e63_ok mixed (fn := Go.Proofs.Tryz.f63) (by kernel_rfl) (by kernel_rfl) (by kernel_rfl) (tabOk_none _)
theorem n63 : Enters PR 63 := enters_of (fn := Go.Proofs.Tryz.f63) (by kernel_rfl) (by kernel_rfl) (by kernel_rfl)
noncomputable def g63 : List AV → AH → Nat → Option (Bool × AV × AH) := deepC PR e63 5 2000 63 4096 true
theorem g63_ok : ActOk PR 4096 63 g63 := deepC_ok cx63 rfl rfl

/-! reliquary/reliquarylaw23.awake -/
noncomputable def e67 : Env := envD eqsT [] [] [] [(60, g60), (61, g61), (62, g62)] [] false [60, 61]
theorem e67_ok : EnvOk PR e67 := envD_ok eqsT_ok TabPOk.nil TabHOk.nil TabLOk.nil (TabDOk.cons n60 g60_ok (TabDOk.cons n61 g61_ok (TabDOk.cons n62 g62_ok TabDOk.nil)))
theorem cx67 : Ctx PR e67 [] (fun _ => none) 2000 67 := ctx_of e67_ok mixed (fn := Go.Proofs.Tryz.f67) (by kernel_rfl) (by kernel_rfl) (by kernel_rfl) (tabOk_none _)
theorem n67 : Enters PR 67 := enters_of (fn := Go.Proofs.Tryz.f67) (by kernel_rfl) (by kernel_rfl) (by kernel_rfl)
end Go.Rq
