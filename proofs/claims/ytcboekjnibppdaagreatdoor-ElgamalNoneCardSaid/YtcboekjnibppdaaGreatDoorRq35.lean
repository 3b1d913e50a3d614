/- A closed law's functions, each gone through where it is called. Written by a program of ours. -/
import Derived.Test.YtcboekjnibppdaaGreatDoorRq34
namespace Go.Rq
open Go Go.Proofs
def md168_0 : List AV × AV := ([.agg [.u (BitVec.ofNat 64 0), .u (BitVec.ofNat 64 0), .u (BitVec.ofNat 64 0), .u (BitVec.ofNat 64 0), .u (BitVec.ofNat 64 0), .u (BitVec.ofNat 64 0), .u (BitVec.ofNat 64 0), .u (BitVec.ofNat 64 0), .u (BitVec.ofNat 64 0), .u (BitVec.ofNat 64 0), .u (BitVec.ofNat 64 0), .u (BitVec.ofNat 64 0), .v (.bool false)]], .v (.bool false))
set_option maxRecDepth 1000000 in
theorem mf168_0 : canQ (inlineC PR e168 4 2000 168) md168_0.1 = some (true, md168_0.2) := by kernel_rfl
end Go.Rq

/- A closed law's functions, each gone through where it is called. Written by a program of ours. -/
namespace Go.Rq
open Go Go.Proofs

def mt168 : List (List AV × AV) := [md168_0]
theorem mt168_ok : ∀ p ∈ mt168, canQ (inlineC PR e168 4 2000 168) p.1 = some (true, p.2) := fun p hp => by
  rcases List.mem_cons.1 hp with rfl | hp
  · exact mf168_0
  cases hp
noncomputable def g168 : List AV → Option (Bool × AV) := canP (memoE (canQ (inlineC PR e168 4 2000 168)) mt168)
theorem g168_ok : CallOk PR 168 g168 := canP_ok (memoE_ok (canQ_ok (.inl ⟨n168, inlineC_ok cx168 rfl rfl⟩)) mt168_ok)

/-! reliquary/little.In -/
noncomputable def e169 : Env := envD eqsT [(171, g171), (230, (fn2 kCv cLp.agg kBool (inFT tmAll)))] [] [] [] [9] false []
theorem e169_ok : EnvOk PR e169 := envD_ok eqsT_ok (TabPOk.cons g171_ok (TabPOk.cons linT_ok TabPOk.nil)) TabHOk.nil TabLOk.nil TabDOk.nil
theorem cx169 : Ctx PR e169 [] (fun _ => none) 2000 169 := ctx_of e169_ok mixed (fn := Go.Proofs.Tryz.f169) (by kernel_rfl) (by kernel_rfl) (by kernel_rfl) (tabOk_none _)
theorem n169 : Enters PR 169 := enters_of (fn := Go.Proofs.Tryz.f169) (by kernel_rfl) (by kernel_rfl) (by kernel_rfl)
noncomputable def g169 : List AV → Option (Bool × AV) := (inlineC PR e169 5 2000 169)
theorem g169_ok : CallOk PR 169 g169 := (.inl ⟨n169, inlineC_ok cx169 rfl rfl⟩)

/-! reliquary/suite.KeyCheck -/
noncomputable def e101 : Env := envD eqsT [(168, g168), (169, g169)] [] [] [] [9] false []
theorem e101_ok : EnvOk PR e101 := envD_ok eqsT_ok (TabPOk.cons g168_ok (TabPOk.cons g169_ok TabPOk.nil)) TabHOk.nil TabLOk.nil TabDOk.nil
theorem cx101 : Ctx PR e101 [] (fun _ => none) 2000 101 := ctx_of e101_ok mixed (fn := Go.Proofs.Tryz.f101) (by kernel_rfl) (by kernel_rfl) (by kernel_rfl) (tabOk_none _)
theorem n101 : Enters PR 101 := enters_of (fn := Go.Proofs.Tryz.f101) (by kernel_rfl) (by kernel_rfl) (by kernel_rfl)
noncomputable def g101 : List AV → Option (Bool × AV) := (inlineC PR e101 5 2000 101)
theorem g101_ok : CallOk PR 101 g101 := (.inl ⟨n101, inlineC_ok cx101 rfl rfl⟩)

/-! reliquary/suite.keys -/
noncomputable def e111 : Env := envD eqsT [(98, (fn2 c6.agg c6.agg (kInt .i64) fun a b => chainV (cmpL a b) 0)), (101, g101), (123, g123)] [] [] [] [9] false []
theorem e111_ok : EnvOk PR e111 := envD_ok eqsT_ok (TabPOk.cons cmp_ok (TabPOk.cons g101_ok (TabPOk.cons g123_ok TabPOk.nil))) TabHOk.nil TabLOk.nil TabDOk.nil
theorem cx111 : Ctx PR e111 [] (fun _ => none) 2000 111 := ctx_of e111_ok mixed (fn := Go.Proofs.Tryz.f111) (by kernel_rfl) (by kernel_rfl) (by kernel_rfl) (tabOk_none _)
theorem n111 : Enters PR 111 := enters_of (fn := Go.Proofs.Tryz.f111) (by kernel_rfl) (by kernel_rfl) (by kernel_rfl)
noncomputable def g111 : List AV → AH → Nat → Option (Bool × AV × AH) := deepC PR e111 6 2000 111 4096 true
theorem g111_ok : ActOk PR 4096 111 g111 := deepC_ok cx111 rfl rfl

/-! reliquary/little.Mul -/
noncomputable def e113 : Env := envD eqsT [(188, (fn3 kCv cLp.agg kU cLp.agg (lTimesT tmAll)))] [] [] [(187, g187)] [9] false [187]
theorem e113_ok : EnvOk PR e113 := envD_ok eqsT_ok (TabPOk.cons tmT_ok TabPOk.nil) TabHOk.nil TabLOk.nil (TabDOk.cons n187 g187_ok TabDOk.nil)
theorem cx113 : Ctx PR e113 [] (fun _ => none) 2000 113 := ctx_of e113_ok mixed (fn := Go.Proofs.Tryz.f113) (by kernel_rfl) (by kernel_rfl) (by kernel_rfl) (tabOk_none _)
theorem n113 : Enters PR 113 := enters_of (fn := Go.Proofs.Tryz.f113) (by kernel_rfl) (by kernel_rfl) (by kernel_rfl)
noncomputable def g113 : List AV → Option (Bool × AV) := (inlineC PR e113 5 2000 113)
theorem g113_ok : CallOk PR 113 g113 := (.inl ⟨n113, inlineC_ok cx113 rfl rfl⟩)

/-! reliquary/suite.KeyMul -/
noncomputable def e25 : Env := envD eqsT [(113, g113)] [] [] [(111, g111)] [9] false [111]
theorem e25_ok : EnvOk PR e25 := envD_ok eqsT_ok (TabPOk.cons g113_ok TabPOk.nil) TabHOk.nil TabLOk.nil (TabDOk.cons n111 g111_ok TabDOk.nil)
theorem cx25 : Ctx PR e25 [] (fun _ => none) 2000 25 := ctx_of e25_ok mixed (fn := Go.Proofs.Tryz.f25) (by kernel_rfl) (by kernel_rfl) (by kernel_rfl) (tabOk_none _)
theorem n25 : Enters PR 25 := enters_of (fn := Go.Proofs.Tryz.f25) (by kernel_rfl) (by kernel_rfl) (by kernel_rfl)
noncomputable def g25 : List AV → Option (Bool × AV) := (inlineC PR e25 6 2000 25)
theorem g25_ok : CallOk PR 25 g25 := (.inl ⟨n25, inlineC_ok cx25 rfl rfl⟩)

/-! reliquary/little.Add -/
noncomputable def e167 : Env := envD eqsT [(225, (fn3 kCv cLp.agg cLp.agg cLp.agg lSum))] [] [] [(187, g187)] [9] false [187]
theorem e167_ok : EnvOk PR e167 := envD_ok eqsT_ok (TabPOk.cons lsm_ok TabPOk.nil) TabHOk.nil TabLOk.nil (TabDOk.cons n187 g187_ok TabDOk.nil)
theorem cx167 : Ctx PR e167 [] (fun _ => none) 2000 167 := ctx_of e167_ok mixed (fn := Go.Proofs.Tryz.f167) (by kernel_rfl) (by kernel_rfl) (by kernel_rfl) (tabOk_none _)
theorem n167 : Enters PR 167 := enters_of (fn := Go.Proofs.Tryz.f167) (by kernel_rfl) (by kernel_rfl) (by kernel_rfl)
noncomputable def g167 : List AV → Option (Bool × AV) := (inlineC PR e167 5 2000 167)
theorem g167_ok : CallOk PR 167 g167 := (.inl ⟨n167, inlineC_ok cx167 rfl rfl⟩)

/-! reliquary/suite.KeyAdd -/
noncomputable def e99 : Env := envD eqsT [(167, g167)] [] [] [(111, g111)] [9] false [111]
theorem e99_ok : EnvOk PR e99 := envD_ok eqsT_ok (TabPOk.cons g167_ok TabPOk.nil) TabHOk.nil TabLOk.nil (TabDOk.cons n111 g111_ok TabDOk.nil)
theorem cx99 : Ctx PR e99 [] (fun _ => none) 2000 99 := ctx_of e99_ok mixed (fn := Go.Proofs.Tryz.f99) (by kernel_rfl) (by kernel_rfl) (by kernel_rfl) (tabOk_none _)
theorem n99 : Enters PR 99 := enters_of (fn := Go.Proofs.Tryz.f99) (by kernel_rfl) (by kernel_rfl) (by kernel_rfl)
noncomputable def g99 : List AV → Option (Bool × AV) := (inlineC PR e99 6 2000 99)
theorem g99_ok : CallOk PR 99 g99 := (.inl ⟨n99, inlineC_ok cx99 rfl rfl⟩)

/-! reliquary/share.joined[reliquary/api.Key] -/
noncomputable def e210 : Env := envD eqsT [(25, g25), (99, g99), (101, g101), (211, g211)] [] [] [(261, g261), (262, g262), (267, g267)] [9] false [261, 262, 267]
theorem e210_ok : EnvOk PR e210 := envD_ok eqsT_ok (TabPOk.cons g25_ok (TabPOk.cons g99_ok (TabPOk.cons g101_ok (TabPOk.cons g211_ok TabPOk.nil)))) TabHOk.nil TabLOk.nil (TabDOk.cons n261 g261_ok (TabDOk.cons n262 g262_ok (TabDOk.cons n267 g267_ok TabDOk.nil)))
theorem cx210 : Ctx PR e210 [] (fun _ => none) 2000 210 := ctx_of e210_ok mixed (fn := Go.Proofs.Tryz.f210) (by kernel_rfl) (by kernel_rfl) (by kernel_rfl) (tabOk_none _)
theorem n210 : Enters PR 210 := enters_of (fn := Go.Proofs.Tryz.f210) (by kernel_rfl) (by kernel_rfl) (by kernel_rfl)
noncomputable def g210 : List AV → AH → Nat → Option (Bool × AV × AH) := deepC PR e210 7 2000 210 4096 true
theorem g210_ok : ActOk PR 4096 210 g210 := deepC_ok cx210 rfl rfl

/-! reliquary/share.JoinKeys -/
noncomputable def e138 : Env := envD eqsT [] [] [] [(210, g210)] [9] false [210]
theorem e138_ok : EnvOk PR e138 := envD_ok eqsT_ok TabPOk.nil TabHOk.nil TabLOk.nil (TabDOk.cons n210 g210_ok TabDOk.nil)
theorem cx138 : Ctx PR e138 [] (fun _ => none) 2000 138 := ctx_of e138_ok mixed (fn := Go.Proofs.Tryz.f138) (by kernel_rfl) (by kernel_rfl) (by kernel_rfl) (tabOk_none _)
theorem n138 : Enters PR 138 := enters_of (fn := Go.Proofs.Tryz.f138) (by kernel_rfl) (by kernel_rfl) (by kernel_rfl)
end Go.Rq
