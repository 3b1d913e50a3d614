/- A closed law's functions, each gone through where it is called. Written by a program of ours. -/
import Derived.Test.YtcboekjnibppdaaGreatDoorRq39
namespace Go.Rq
open Go Go.Proofs
def md121_0 : List AV × AV := ([.v (.int .i64 (.ofNat 1)), .agg [.u (BitVec.ofNat 64 1), .u (BitVec.ofNat 64 0), .u (BitVec.ofNat 64 0), .u (BitVec.ofNat 64 0), .u (BitVec.ofNat 64 0), .u (BitVec.ofNat 64 0)]], .tup [.agg [.u (BitVec.ofNat 64 1), .u (BitVec.ofNat 64 0), .u (BitVec.ofNat 64 0), .u (BitVec.ofNat 64 0), .u (BitVec.ofNat 64 0), .u (BitVec.ofNat 64 0)], .v (.int .i64 (.ofNat 0))])
set_option maxRecDepth 1000000 in
theorem mf121_0 : canQ (inlineC PR e121 5 2000 121) md121_0.1 = some (true, md121_0.2) := by kernel_rfl
def md121_1 : List AV × AV := ([.v (.int .i64 (.ofNat 1)), .agg [.u (BitVec.ofNat 64 65520), .u (BitVec.ofNat 64 0), .u (BitVec.ofNat 64 0), .u (BitVec.ofNat 64 0), .u (BitVec.ofNat 64 0), .u (BitVec.ofNat 64 0)]], .tup [.agg [.u (BitVec.ofNat 64 65520), .u (BitVec.ofNat 64 0), .u (BitVec.ofNat 64 0), .u (BitVec.ofNat 64 0), .u (BitVec.ofNat 64 0), .u (BitVec.ofNat 64 0)], .v (.int .i64 (.ofNat 0))])
set_option maxRecDepth 1000000 in
theorem mf121_1 : canQ (inlineC PR e121 5 2000 121) md121_1.1 = some (true, md121_1.2) := by kernel_rfl
end Go.Rq

/- A closed law's functions, each gone through where it is called. Written by a program of ours. -/
namespace Go.Rq
open Go Go.Proofs

def mt121 : List (List AV × AV) := [md121_0, md121_1]
theorem mt121_ok : ∀ p ∈ mt121, canQ (inlineC PR e121 5 2000 121) p.1 = some (true, p.2) := fun p hp => by
  rcases List.mem_cons.1 hp with rfl | hp
  · exact mf121_0
  rcases List.mem_cons.1 hp with rfl | hp
  · exact mf121_1
  cases hp
noncomputable def g121 : List AV → Option (Bool × AV) := canP (memoE (canQ (inlineC PR e121 5 2000 121)) mt121)
theorem g121_ok : CallOk PR 121 g121 := canP_ok (memoE_ok (canQ_ok (.inl ⟨n121, inlineC_ok cx121 rfl rfl⟩)) mt121_ok)

/-! (reliquary/share.field).inv -/
noncomputable def e307 : Env := envD eqsT [(121, g121)] [] [] [] [] false []
theorem e307_ok : EnvOk PR e307 := envD_ok eqsT_ok (TabPOk.cons g121_ok TabPOk.nil) TabHOk.nil TabLOk.nil TabDOk.nil
theorem cx307 : Ctx PR e307 [] (fun _ => none) 2000 307 := ctx_of e307_ok mixed (fn := Go.Proofs.Tryz.f307) (by kernel_rfl) (by kernel_rfl) (by kernel_rfl) (tabOk_none _)
theorem n307 : Enters PR 307 := enters_of (fn := Go.Proofs.Tryz.f307) (by kernel_rfl) (by kernel_rfl) (by kernel_rfl)
noncomputable def g307 : List AV → Option (Bool × AV) := (inlineC PR e307 4 2000 307)
theorem g307_ok : CallOk PR 307 g307 := (.inl ⟨n307, inlineC_ok cx307 rfl rfl⟩)

/-! (reliquary/share.field).lagrange -/
noncomputable def e262 : Env := envD eqsT [(16, (fn1 kU c6.agg ofW)), (208, g208), (264, g264), (306, g306), (307, g307)] [] [] [] [] false []
theorem e262_ok : EnvOk PR e262 := envD_ok eqsT_ok (TabPOk.cons of_ok (TabPOk.cons g208_ok (TabPOk.cons g264_ok (TabPOk.cons g306_ok (TabPOk.cons g307_ok TabPOk.nil))))) TabHOk.nil TabLOk.nil TabDOk.nil
theorem cx262 : Ctx PR e262 [] (fun _ => none) 2000 262 := ctx_of e262_ok mixed (fn := Go.Proofs.Tryz.f262) (by kernel_rfl) (by kernel_rfl) (by kernel_rfl) (tabOk_none _)
theorem n262 : Enters PR 262 := enters_of (fn := Go.Proofs.Tryz.f262) (by kernel_rfl) (by kernel_rfl) (by kernel_rfl)
noncomputable def g262 : List AV → AH → Nat → Option (Bool × AV × AH) := deepC PR e262 6 2000 262 4096 true
theorem g262_ok : ActOk PR 4096 262 g262 := deepC_ok cx262 rfl rfl

/-! reliquary/share.JoinKeys$1 -/
noncomputable def e211 : Env := envD eqsT [] [] [] [] [] false []
theorem e211_ok : EnvOk PR e211 := envD_ok eqsT_ok TabPOk.nil TabHOk.nil TabLOk.nil TabDOk.nil
theorem cx211 : Ctx PR e211 [] (fun _ => none) 2000 211 := ctx_of e211_ok mixed (fn := Go.Proofs.Tryz.f211) (by kernel_rfl) (by kernel_rfl) (by kernel_rfl) (tabOk_none _)
theorem n211 : Enters PR 211 := enters_of (fn := Go.Proofs.Tryz.f211) (by kernel_rfl) (by kernel_rfl) (by kernel_rfl)
noncomputable def g211 : List AV → Option (Bool × AV) := (inlineC PR e211 3 2000 211)
theorem g211_ok : CallOk PR 211 g211 := (.inl ⟨n211, inlineC_ok cx211 rfl rfl⟩)

/-! reliquary/share.joined[reliquary/api.Key]$1 -/
noncomputable def e268 : Env := envA eqsT [(211, g211)] [] [] [] [] [] true []
theorem e268_ok : EnvOk PR e268 := envA_ok eqsT_ok (TabPOk.cons g211_ok TabPOk.nil) TabHOk.nil TabLOk.nil TabAOk.nil
theorem cx268 : Ctx PR e268 [] (fun _ => none) 2000 268 := ctx_of e268_ok mixed (fn := Go.Proofs.Tryz.f268) (by kernel_rfl) (by kernel_rfl) (by kernel_rfl) (tabOk_none _)
theorem n268 : Enters PR 268 := enters_of (fn := Go.Proofs.Tryz.f268) (by kernel_rfl) (by kernel_rfl) (by kernel_rfl)
noncomputable def g268 : List AV → AH → Nat → Option (Bool × AV × AH) := deepC PR e268 4 2000 268 4096 true
theorem g268_ok : ActOk PR 4096 268 g268 := deepC_ok cx268 rfl rfl

/-! slices.IndexFunc[[]reliquary/api.Key,reliquary/api.Key] -/
noncomputable def e309 : Env := envD eqsT [] [] [] [(268, g268)] [] false [268]
theorem e309_ok : EnvOk PR e309 := envD_ok eqsT_ok TabPOk.nil TabHOk.nil TabLOk.nil (TabDOk.cons n268 g268_ok TabDOk.nil)
theorem cx309 : Ctx PR e309 [] (fun _ => none) 2000 309 := ctx_of e309_ok mixed (fn := Go.Proofs.Tryz.f309) (by kernel_rfl) (by kernel_rfl) (by kernel_rfl) (tabOk_none _)
theorem n309 : Enters PR 309 := enters_of (fn := Go.Proofs.Tryz.f309) (by kernel_rfl) (by kernel_rfl) (by kernel_rfl)
noncomputable def g309 : List AV → AH → Nat → Option (Bool × AV × AH) := deepC PR e309 5 2000 309 4096 true
theorem g309_ok : ActOk PR 4096 309 g309 := deepC_ok cx309 rfl rfl

/-! slices.ContainsFunc[[]reliquary/api.Key,reliquary/api.Key] -/
noncomputable def e267 : Env := envD eqsT [] [] [] [(309, g309)] [] false [309]
theorem e267_ok : EnvOk PR e267 := envD_ok eqsT_ok TabPOk.nil TabHOk.nil TabLOk.nil (TabDOk.cons n309 g309_ok TabDOk.nil)
theorem cx267 : Ctx PR e267 [] (fun _ => none) 2000 267 := ctx_of e267_ok mixed (fn := Go.Proofs.Tryz.f267) (by kernel_rfl) (by kernel_rfl) (by kernel_rfl) (tabOk_none _)
theorem n267 : Enters PR 267 := enters_of (fn := Go.Proofs.Tryz.f267) (by kernel_rfl) (by kernel_rfl) (by kernel_rfl)
noncomputable def g267 : List AV → AH → Nat → Option (Bool × AV × AH) := deepC PR e267 4 2000 267 4096 true
theorem g267_ok : ActOk PR 4096 267 g267 := deepC_ok cx267 rfl rfl

/-! reliquary/share.joined[reliquary/api.Key] -/
noncomputable def e210 : Env := envD eqsT [(25, g25), (99, g99), (101, g101), (211, g211)] [] [] [(261, g261), (262, g262), (267, g267)] [] false [261, 262, 267]
theorem e210_ok : EnvOk PR e210 := envD_ok eqsT_ok (TabPOk.cons g25_ok (TabPOk.cons g99_ok (TabPOk.cons g101_ok (TabPOk.cons g211_ok TabPOk.nil)))) TabHOk.nil TabLOk.nil (TabDOk.cons n261 g261_ok (TabDOk.cons n262 g262_ok (TabDOk.cons n267 g267_ok TabDOk.nil)))
theorem cx210 : Ctx PR e210 [] (fun _ => none) 2000 210 := ctx_of e210_ok mixed (fn := Go.Proofs.Tryz.f210) (by kernel_rfl) (by kernel_rfl) (by kernel_rfl) (tabOk_none _)
theorem n210 : Enters PR 210 := enters_of (fn := Go.Proofs.Tryz.f210) (by kernel_rfl) (by kernel_rfl) (by kernel_rfl)
noncomputable def g210 : List AV → AH → Nat → Option (Bool × AV × AH) := deepC PR e210 7 2000 210 4096 true
theorem g210_ok : ActOk PR 4096 210 g210 := deepC_ok cx210 rfl rfl

/-! reliquary/share.JoinKeys -/
noncomputable def e138 : Env := envD eqsT [] [] [] [(210, g210)] [] false [210]
theorem e138_ok : EnvOk PR e138 := envD_ok eqsT_ok TabPOk.nil TabHOk.nil TabLOk.nil (TabDOk.cons n210 g210_ok TabDOk.nil)
theorem cx138 : Ctx PR e138 [] (fun _ => none) 2000 138 := ctx_of e138_ok mixed (fn := Go.Proofs.Tryz.f138) (by kernel_rfl) (by kernel_rfl) (by kernel_rfl) (tabOk_none _)
theorem n138 : Enters PR 138 := enters_of (fn := Go.Proofs.Tryz.f138) (by kernel_rfl) (by kernel_rfl) (by kernel_rfl)
end Go.Rq
