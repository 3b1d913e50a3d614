/- A closed law's functions, each gone through where it is called. Written by a program of ours. -/
import Derived.Test.YtcboekjnibppdaaGreatDoorRq34
namespace Go.Rq
open Go Go.Proofs
def md121_0 : List AV × AV := ([.v (.int .i64 (.ofNat 1)), .agg [.u (BitVec.ofNat 64 1), .u (BitVec.ofNat 64 0), .u (BitVec.ofNat 64 0), .u (BitVec.ofNat 64 0), .u (BitVec.ofNat 64 0), .u (BitVec.ofNat 64 0)]], .tup [.agg [.u (BitVec.ofNat 64 1), .u (BitVec.ofNat 64 0), .u (BitVec.ofNat 64 0), .u (BitVec.ofNat 64 0), .u (BitVec.ofNat 64 0), .u (BitVec.ofNat 64 0)], .v (.int .i64 (.ofNat 0))])
set_option maxRecDepth 1000000 in
theorem mf121_0 : canQ (inlineC PR e121 5 2000 121) md121_0.1 = some (true, md121_0.2) := by kernel_rfl
def md121_1 : List AV × AV := ([.v (.int .i64 (.ofNat 1)), .agg [.u (BitVec.ofNat 64 65520), .u (BitVec.ofNat 64 0), .u (BitVec.ofNat 64 0), .u (BitVec.ofNat 64 0), .u (BitVec.ofNat 64 0), .u (BitVec.ofNat 64 0)]], .tup [.agg [.u (BitVec.ofNat 64 65520), .u (BitVec.ofNat 64 0), .u (BitVec.ofNat 64 0), .u (BitVec.ofNat 64 0), .u (BitVec.ofNat 64 0), .u (BitVec.ofNat 64 0)], .v (.int .i64 (.ofNat 0))])
set_option maxRecDepth 1000000 in
theorem mf121_1 : canQ (inlineC PR e121 5 2000 121) md121_1.1 = some (true, md121_1.2) := by kernel_rfl
end Go.Rq

/- A closed law's functions, each gone through where it is called. Written by a program of ours. -/
namespace Go.Rq
open Go Go.Proofs

def mt121 : List (List AV × AV) := [md121_0, md121_1]
theorem mt121_ok : ∀ p ∈ mt121, canQ (inlineC PR e121 5 2000 121) p.1 = some (true, p.2) := fun p hp => by
  rcases List.mem_cons.1 hp with rfl | hp
  · exact mf121_0
  rcases List.mem_cons.1 hp with rfl | hp
  · exact mf121_1
  cases hp
noncomputable def g121 : List AV → Option (Bool × AV) := canP (memoE (canQ (inlineC PR e121 5 2000 121)) mt121)
theorem g121_ok : CallOk PR 121 g121 := canP_ok (memoE_ok (canQ_ok (.inl ⟨n121, inlineC_ok cx121 rfl rfl⟩)) mt121_ok)

/-! (reliquary/share.field).inv -/
noncomputable def e307 : Env := envD eqsT [(121, g121)] [] [] [] [] false []
theorem e307_ok : EnvOk PR e307 := envD_ok eqsT_ok (TabPOk.cons g121_ok TabPOk.nil) TabHOk.nil TabLOk.nil TabDOk.nil
theorem cx307 : Ctx PR e307 [] (fun _ => none) 2000 307 := ctx_of e307_ok mixed (fn := Go.Proofs.Tryz.f307) (by kernel_rfl) (by kernel_rfl) (by kernel_rfl) (tabOk_none _)
theorem n307 : Enters PR 307 := enters_of (fn := Go.Proofs.Tryz.f307) (by kernel_rfl) (by kernel_rfl) (by kernel_rfl)
noncomputable def g307 : List AV → Option (Bool × AV) := (inlineC PR e307 4 2000 307)
theorem g307_ok : CallOk PR 307 g307 := (.inl ⟨n307, inlineC_ok cx307 rfl rfl⟩)

/-! (reliquary/share.field).lagrange -/
noncomputable def e262 : Env := envD eqsT [(16, (fn1 kU c6.agg ofW)), (208, g208), (264, g264), (306, g306), (307, g307)] [] [] [] [] false []
theorem e262_ok : EnvOk PR e262 := envD_ok eqsT_ok (TabPOk.cons of_ok (TabPOk.cons g208_ok (TabPOk.cons g264_ok (TabPOk.cons g306_ok (TabPOk.cons g307_ok TabPOk.nil))))) TabHOk.nil TabLOk.nil TabDOk.nil
theorem cx262 : Ctx PR e262 [] (fun _ => none) 2000 262 := ctx_of e262_ok mixed (fn := Go.Proofs.Tryz.f262) (by kernel_rfl) (by kernel_rfl) (by kernel_rfl) (tabOk_none _)
theorem n262 : Enters PR 262 := enters_of (fn := Go.Proofs.Tryz.f262) (by kernel_rfl) (by kernel_rfl) (by kernel_rfl)
noncomputable def g262 : List AV → AH → Nat → Option (Bool × AV × AH) := deepC PR e262 6 2000 262 4096 true
theorem g262_ok : ActOk PR 4096 262 g262 := deepC_ok cx262 rfl rfl

/-! (reliquary/share.field).join -/
noncomputable def e204 : Env := envD eqsT [(263, g263), (264, g264)] [] [] [(262, g262)] [] false [262]
theorem e204_ok : EnvOk PR e204 := envD_ok eqsT_ok (TabPOk.cons g263_ok (TabPOk.cons g264_ok TabPOk.nil)) TabHOk.nil TabLOk.nil (TabDOk.cons n262 g262_ok TabDOk.nil)
theorem cx204 : Ctx PR e204 [] (fun _ => none) 2000 204 := ctx_of e204_ok mixed (fn := Go.Proofs.Tryz.f204) (by kernel_rfl) (by kernel_rfl) (by kernel_rfl) (tabOk_none _)
theorem n204 : Enters PR 204 := enters_of (fn := Go.Proofs.Tryz.f204) (by kernel_rfl) (by kernel_rfl) (by kernel_rfl)
noncomputable def g204 : List AV → AH → Nat → Option (Bool × AV × AH) := deepC PR e204 6 2000 204 4096 true
theorem g204_ok : ActOk PR 4096 204 g204 := deepC_ok cx204 rfl rfl

/-! reliquary/share.Join -/
noncomputable def e126 : Env := envD eqsT [] [] [] [(203, g203), (204, g204)] [] false [203, 204]
theorem e126_ok : EnvOk PR e126 := envD_ok eqsT_ok TabPOk.nil TabHOk.nil TabLOk.nil (TabDOk.cons n203 g203_ok (TabDOk.cons n204 g204_ok TabDOk.nil))
theorem cx126 : Ctx PR e126 [] (fun _ => none) 2000 126 := ctx_of e126_ok mixed (fn := Go.Proofs.Tryz.f126) (by kernel_rfl) (by kernel_rfl) (by kernel_rfl) (tabOk_none _)
theorem n126 : Enters PR 126 := enters_of (fn := Go.Proofs.Tryz.f126) (by kernel_rfl) (by kernel_rfl) (by kernel_rfl)
noncomputable def g126 : List AV → AH → Nat → Option (Bool × AV × AH) := deepC PR e126 5 2000 126 4096 true
theorem g126_ok : ActOk PR 4096 126 g126 := deepC_ok cx126 rfl rfl

/-! reliquary/little.Add -/
noncomputable def e167 : Env := envD eqsT [(225, (fn3 kCv cLp.agg cLp.agg cLp.agg lSum))] [] [] [(187, g187)] [] false [187]
theorem e167_ok : EnvOk PR e167 := envD_ok eqsT_ok (TabPOk.cons lsm_ok TabPOk.nil) TabHOk.nil TabLOk.nil (TabDOk.cons n187 g187_ok TabDOk.nil)
theorem cx167 : Ctx PR e167 [] (fun _ => none) 2000 167 := ctx_of e167_ok mixed (fn := Go.Proofs.Tryz.f167) (by kernel_rfl) (by kernel_rfl) (by kernel_rfl) (tabOk_none _)
theorem n167 : Enters PR 167 := enters_of (fn := Go.Proofs.Tryz.f167) (by kernel_rfl) (by kernel_rfl) (by kernel_rfl)
noncomputable def g167 : List AV → Option (Bool × AV) := (inlineC PR e167 5 2000 167)
theorem g167_ok : CallOk PR 167 g167 := (.inl ⟨n167, inlineC_ok cx167 rfl rfl⟩)

/-! reliquary/suite.KeyAdd -/
noncomputable def e99 : Env := envD eqsT [(167, g167)] [] [] [(111, g111)] [] false [111]
theorem e99_ok : EnvOk PR e99 := envD_ok eqsT_ok (TabPOk.cons g167_ok TabPOk.nil) TabHOk.nil TabLOk.nil (TabDOk.cons n111 g111_ok TabDOk.nil)
theorem cx99 : Ctx PR e99 [] (fun _ => none) 2000 99 := ctx_of e99_ok mixed (fn := Go.Proofs.Tryz.f99) (by kernel_rfl) (by kernel_rfl) (by kernel_rfl) (tabOk_none _)
theorem n99 : Enters PR 99 := enters_of (fn := Go.Proofs.Tryz.f99) (by kernel_rfl) (by kernel_rfl) (by kernel_rfl)
noncomputable def g99 : List AV → Option (Bool × AV) := (inlineC PR e99 6 2000 99)
theorem g99_ok : CallOk PR 99 g99 := (.inl ⟨n99, inlineC_ok cx99 rfl rfl⟩)

/-! reliquary/schnorr.fits -/
noncomputable def e127 : Env := envD eqsT [(23, g23), (25, g25), (99, g99)] [] [] [] [] false []
theorem e127_ok : EnvOk PR e127 := envD_ok eqsT_ok (TabPOk.cons g23_ok (TabPOk.cons g25_ok (TabPOk.cons g99_ok TabPOk.nil))) TabHOk.nil TabLOk.nil TabDOk.nil
theorem cx127 : Ctx PR e127 [] (fun _ => none) 2000 127 := ctx_of e127_ok mixed (fn := Go.Proofs.Tryz.f127) (by kernel_rfl) (by kernel_rfl) (by kernel_rfl) (tabOk_none _)
theorem n127 : Enters PR 127 := enters_of (fn := Go.Proofs.Tryz.f127) (by kernel_rfl) (by kernel_rfl) (by kernel_rfl)
noncomputable def g127 : List AV → Option (Bool × AV) := (inlineC PR e127 6 2000 127)
theorem g127_ok : CallOk PR 127 g127 := (.inl ⟨n127, inlineC_ok cx127 rfl rfl⟩)

/-! (*reliquary/schnorr.Session).Sig -/
noncomputable def e37 : Env := envD eqsT [(125, g125), (127, g127)] [] [] [(124, g124), (126, g126)] [] false [124, 126]
theorem e37_ok : EnvOk PR e37 := envD_ok eqsT_ok (TabPOk.cons g125_ok (TabPOk.cons g127_ok TabPOk.nil)) TabHOk.nil TabLOk.nil (TabDOk.cons n124 g124_ok (TabDOk.cons n126 g126_ok TabDOk.nil))
theorem cx37 : Ctx PR e37 [] (fun _ => none) 2000 37 := ctx_of e37_ok mixed (fn := Go.Proofs.Tryz.f37) (by kernel_rfl) (by kernel_rfl) (by kernel_rfl) (tabOk_none _)
theorem n37 : Enters PR 37 := enters_of (fn := Go.Proofs.Tryz.f37) (by kernel_rfl) (by kernel_rfl) (by kernel_rfl)
noncomputable def g37 : List AV → AH → Nat → Option (Bool × AV × AH) := deepC PR e37 7 2000 37 4096 true
theorem g37_ok : ActOk PR 4096 37 g37 := deepC_ok cx37 rfl rfl

/-! reliquary/schnorr.checked -/
noncomputable def e128 : Env := envD eqsT [(34, g34), (98, (fn2 c6.agg c6.agg (kInt .i64) fun a b => chainV (cmpL a b) 0)), (101, g101)] [] [] [] [] false []
theorem e128_ok : EnvOk PR e128 := envD_ok eqsT_ok (TabPOk.cons g34_ok (TabPOk.cons cmp_ok (TabPOk.cons g101_ok TabPOk.nil))) TabHOk.nil TabLOk.nil TabDOk.nil
theorem cx128 : Ctx PR e128 [] (fun _ => none) 2000 128 := ctx_of e128_ok mixed (fn := Go.Proofs.Tryz.f128) (by kernel_rfl) (by kernel_rfl) (by kernel_rfl) (tabOk_none _)
theorem n128 : Enters PR 128 := enters_of (fn := Go.Proofs.Tryz.f128) (by kernel_rfl) (by kernel_rfl) (by kernel_rfl)
noncomputable def g128 : List AV → AH → Nat → Option (Bool × AV × AH) := deepC PR e128 6 2000 128 4096 true
theorem g128_ok : ActOk PR 4096 128 g128 := deepC_ok cx128 rfl rfl

/-! (*reliquary/schnorr.Session).Add -/
noncomputable def e38 : Env := envD eqsT [(127, g127)] [] [] [(124, g124), (128, g128)] [] false [124, 128]
theorem e38_ok : EnvOk PR e38 := envD_ok eqsT_ok (TabPOk.cons g127_ok TabPOk.nil) TabHOk.nil TabLOk.nil (TabDOk.cons n124 g124_ok (TabDOk.cons n128 g128_ok TabDOk.nil))
theorem cx38 : Ctx PR e38 [] (fun _ => none) 2000 38 := ctx_of e38_ok mixed (fn := Go.Proofs.Tryz.f38) (by kernel_rfl) (by kernel_rfl) (by kernel_rfl) (tabOk_none _)
theorem n38 : Enters PR 38 := enters_of (fn := Go.Proofs.Tryz.f38) (by kernel_rfl) (by kernel_rfl) (by kernel_rfl)
noncomputable def g38 : List AV → AH → Nat → Option (Bool × AV × AH) := deepC PR e38 7 2000 38 4096 false
theorem g38_ok : ActOk PR 4096 38 g38 := deepC_ok cx38 rfl rfl

/-! (*reliquary/schnorr.Session).Parts -/
noncomputable def e39 : Env := envD eqsT [] [] [] [(124, g124)] [] false [124]
theorem e39_ok : EnvOk PR e39 := envD_ok eqsT_ok TabPOk.nil TabHOk.nil TabLOk.nil (TabDOk.cons n124 g124_ok TabDOk.nil)
theorem cx39 : Ctx PR e39 [] (fun _ => none) 2000 39 := ctx_of e39_ok mixed (fn := Go.Proofs.Tryz.f39) (by kernel_rfl) (by kernel_rfl) (by kernel_rfl) (tabOk_none _)
theorem n39 : Enters PR 39 := enters_of (fn := Go.Proofs.Tryz.f39) (by kernel_rfl) (by kernel_rfl) (by kernel_rfl)
noncomputable def g39 : List AV → AH → Nat → Option (Bool × AV × AH) := deepC PR e39 4 2000 39 4096 true
theorem g39_ok : ActOk PR 4096 39 g39 := deepC_ok cx39 rfl rfl

/-! (*reliquary/schnorr.Session).Challenge -/
noncomputable def e40 : Env := envD eqsT [] [] [] [(124, g124)] [] false [124]
theorem e40_ok : EnvOk PR e40 := envD_ok eqsT_ok TabPOk.nil TabHOk.nil TabLOk.nil (TabDOk.cons n124 g124_ok TabDOk.nil)
theorem cx40 : Ctx PR e40 [] (fun _ => none) 2000 40 := ctx_of e40_ok mixed (fn := Go.Proofs.Tryz.f40) (by kernel_rfl) (by kernel_rfl) (by kernel_rfl) (tabOk_none _)
theorem n40 : Enters PR 40 := enters_of (fn := Go.Proofs.Tryz.f40) (by kernel_rfl) (by kernel_rfl) (by kernel_rfl)
noncomputable def g40 : List AV → AH → Nat → Option (Bool × AV × AH) := deepC PR e40 4 2000 40 4096 true
theorem g40_ok : ActOk PR 4096 40 g40 := deepC_ok cx40 rfl rfl

/-! reliquary/schnorr.part -/
noncomputable def e136 : Env := envD eqsT [(122, g122), (191, g191)] [] [] [] [] false []
theorem e136_ok : EnvOk PR e136 := envD_ok eqsT_ok (TabPOk.cons g122_ok (TabPOk.cons g191_ok TabPOk.nil)) TabHOk.nil TabLOk.nil TabDOk.nil
theorem cx136 : Ctx PR e136 [] (fun _ => none) 2000 136 := ctx_of e136_ok mixed (fn := Go.Proofs.Tryz.f136) (by kernel_rfl) (by kernel_rfl) (by kernel_rfl) (tabOk_none _)
theorem n136 : Enters PR 136 := enters_of (fn := Go.Proofs.Tryz.f136) (by kernel_rfl) (by kernel_rfl) (by kernel_rfl)
noncomputable def g136 : List AV → Option (Bool × AV) := (inlineC PR e136 5 2000 136)
theorem g136_ok : CallOk PR 136 g136 := (.inl ⟨n136, inlineC_ok cx136 rfl rfl⟩)

/-! reliquary/schnorr.Part -/
noncomputable def e45 : Env := envD eqsT [(136, g136)] [] [] [(128, g128)] [] false [128]
theorem e45_ok : EnvOk PR e45 := envD_ok eqsT_ok (TabPOk.cons g136_ok TabPOk.nil) TabHOk.nil TabLOk.nil (TabDOk.cons n128 g128_ok TabDOk.nil)
theorem cx45 : Ctx PR e45 [] (fun _ => none) 2000 45 := ctx_of e45_ok mixed (fn := Go.Proofs.Tryz.f45) (by kernel_rfl) (by kernel_rfl) (by kernel_rfl) (tabOk_none _)
theorem n45 : Enters PR 45 := enters_of (fn := Go.Proofs.Tryz.f45) (by kernel_rfl) (by kernel_rfl) (by kernel_rfl)
noncomputable def g45 : List AV → Option (Bool × AV) := (inlineC PR e45 5 2000 45)
theorem g45_ok : CallOk PR 45 g45 := (.inl ⟨n45, inlineC_ok cx45 rfl rfl⟩)

/-! reliquary/little.written -/
noncomputable def e300 : Env := envD eqsT [] [] [] [] [] false []
theorem e300_ok : EnvOk PR e300 := envD_ok eqsT_ok TabPOk.nil TabHOk.nil TabLOk.nil TabDOk.nil
theorem cx300 : Ctx PR e300 [] (fun _ => none) 2000 300 := ctx_of e300_ok mixed (fn := Go.Proofs.Tryz.f300) (by kernel_rfl) (by kernel_rfl) (by kernel_rfl) (tabOk_none _)
theorem n300 : Enters PR 300 := enters_of (fn := Go.Proofs.Tryz.f300) (by kernel_rfl) (by kernel_rfl) (by kernel_rfl)
noncomputable def g300 : List AV → Option (Bool × AV) := (inlineC PR e300 6 2000 300)
theorem g300_ok : CallOk PR 300 g300 := (.inl ⟨n300, inlineC_ok cx300 rfl rfl⟩)

/-! reliquary/little.Bytes -/
noncomputable def e252 : Env := envD eqsT [(300, g300)] [] [] [(187, g187)] [] false [187]
theorem e252_ok : EnvOk PR e252 := envD_ok eqsT_ok (TabPOk.cons g300_ok TabPOk.nil) TabHOk.nil TabLOk.nil (TabDOk.cons n187 g187_ok TabDOk.nil)
theorem cx252 : Ctx PR e252 [] (fun _ => none) 2000 252 := ctx_of e252_ok mixed (fn := Go.Proofs.Tryz.f252) (by kernel_rfl) (by kernel_rfl) (by kernel_rfl) (tabOk_none _)
theorem n252 : Enters PR 252 := enters_of (fn := Go.Proofs.Tryz.f252) (by kernel_rfl) (by kernel_rfl) (by kernel_rfl)
noncomputable def g252 : List AV → AH → Nat → Option (Bool × AV × AH) := deepC PR e252 5 2000 252 4096 true
theorem g252_ok : ActOk PR 4096 252 g252 := deepC_ok cx252 rfl rfl

/-! reliquary/suite.KeyBytes -/
noncomputable def e189 : Env := envD eqsT [(101, g101)] [] [] [(252, g252)] [] false [252]
theorem e189_ok : EnvOk PR e189 := envD_ok eqsT_ok (TabPOk.cons g101_ok TabPOk.nil) TabHOk.nil TabLOk.nil (TabDOk.cons n252 g252_ok TabDOk.nil)
theorem cx189 : Ctx PR e189 [] (fun _ => none) 2000 189 := ctx_of e189_ok mixed (fn := Go.Proofs.Tryz.f189) (by kernel_rfl) (by kernel_rfl) (by kernel_rfl) (tabOk_none _)
theorem n189 : Enters PR 189 := enters_of (fn := Go.Proofs.Tryz.f189) (by kernel_rfl) (by kernel_rfl) (by kernel_rfl)
noncomputable def g189 : List AV → AH → Nat → Option (Bool × AV × AH) := deepC PR e189 5 2000 189 4096 true
theorem g189_ok : ActOk PR 4096 189 g189 := deepC_ok cx189 rfl rfl

/-! reliquary/suite.text -/
noncomputable def e253 : Env := envD eqsT [(104, g104)] [] [] [(105, g105)] [] false [105]
theorem e253_ok : EnvOk PR e253 := envD_ok eqsT_ok (TabPOk.cons g104_ok TabPOk.nil) TabHOk.nil TabLOk.nil (TabDOk.cons n105 g105_ok TabDOk.nil)
theorem cx253 : Ctx PR e253 [] (fun _ => none) 2000 253 := ctx_of e253_ok mixed (fn := Go.Proofs.Tryz.f253) (by kernel_rfl) (by kernel_rfl) (by kernel_rfl) (tabOk_none _)
theorem n253 : Enters PR 253 := enters_of (fn := Go.Proofs.Tryz.f253) (by kernel_rfl) (by kernel_rfl) (by kernel_rfl)
noncomputable def g253 : List AV → AH → Nat → Option (Bool × AV × AH) := deepC PR e253 5 2000 253 4096 true
theorem g253_ok : ActOk PR 4096 253 g253 := deepC_ok cx253 rfl rfl

/-! reliquary/suite.HashNum -/
noncomputable def e190 : Env := envD eqsT [(123, g123)] [] [] [(107, g107), (253, g253)] [] false [107, 253]
theorem e190_ok : EnvOk PR e190 := envD_ok eqsT_ok (TabPOk.cons g123_ok TabPOk.nil) TabHOk.nil TabLOk.nil (TabDOk.cons n107 g107_ok (TabDOk.cons n253 g253_ok TabDOk.nil))
theorem cx190 : Ctx PR e190 [] (fun _ => none) 2000 190 := ctx_of e190_ok mixed (fn := Go.Proofs.Tryz.f190) (by kernel_rfl) (by kernel_rfl) (by kernel_rfl) (tabOk_none _)
theorem n190 : Enters PR 190 := enters_of (fn := Go.Proofs.Tryz.f190) (by kernel_rfl) (by kernel_rfl) (by kernel_rfl)
noncomputable def g190 : List AV → AH → Nat → Option (Bool × AV × AH) := deepC PR e190 5 2000 190 4096 true
theorem g190_ok : ActOk PR 4096 190 g190 := deepC_ok cx190 rfl rfl

/-! reliquary/schnorr.challenge -/
noncomputable def e135 : Env := envD eqsT [] [] [] [(189, g189), (190, g190)] [] false [189, 190]
theorem e135_ok : EnvOk PR e135 := envD_ok eqsT_ok TabPOk.nil TabHOk.nil TabLOk.nil (TabDOk.cons n189 g189_ok (TabDOk.cons n190 g190_ok TabDOk.nil))
theorem cx135 : Ctx PR e135 [] (fun _ => none) 2000 135 := ctx_of e135_ok mixed (fn := Go.Proofs.Tryz.f135) (by kernel_rfl) (by kernel_rfl) (by kernel_rfl) (tabOk_none _)
theorem n135 : Enters PR 135 := enters_of (fn := Go.Proofs.Tryz.f135) (by kernel_rfl) (by kernel_rfl) (by kernel_rfl)
noncomputable def g135 : List AV → AH → Nat → Option (Bool × AV × AH) := deepC PR e135 6 2000 135 4096 true
theorem g135_ok : ActOk PR 4096 135 g135 := deepC_ok cx135 rfl rfl

/-! reliquary/schnorr.Sign -/
noncomputable def e46 : Env := envD eqsT [(23, g23), (25, g25), (136, g136)] [] [] [(128, g128), (135, g135)] [] false [128, 135]
theorem e46_ok : EnvOk PR e46 := envD_ok eqsT_ok (TabPOk.cons g23_ok (TabPOk.cons g25_ok (TabPOk.cons g136_ok TabPOk.nil))) TabHOk.nil TabLOk.nil (TabDOk.cons n128 g128_ok (TabDOk.cons n135 g135_ok TabDOk.nil))
theorem cx46 : Ctx PR e46 [] (fun _ => none) 2000 46 := ctx_of e46_ok mixed (fn := Go.Proofs.Tryz.f46) (by kernel_rfl) (by kernel_rfl) (by kernel_rfl) (tabOk_none _)
theorem n46 : Enters PR 46 := enters_of (fn := Go.Proofs.Tryz.f46) (by kernel_rfl) (by kernel_rfl) (by kernel_rfl)
noncomputable def g46 : List AV → AH → Nat → Option (Bool × AV × AH) := deepC PR e46 6 2000 46 4096 true
theorem g46_ok : ActOk PR 4096 46 g46 := deepC_ok cx46 rfl rfl

/-! reliquary/schnorr.ofKeys -/
noncomputable def e131 : Env := envD eqsT [(101, g101)] [] [] [(128, g128)] [] false [128]
theorem e131_ok : EnvOk PR e131 := envD_ok eqsT_ok (TabPOk.cons g101_ok TabPOk.nil) TabHOk.nil TabLOk.nil (TabDOk.cons n128 g128_ok TabDOk.nil)
theorem cx131 : Ctx PR e131 [] (fun _ => none) 2000 131 := ctx_of e131_ok mixed (fn := Go.Proofs.Tryz.f131) (by kernel_rfl) (by kernel_rfl) (by kernel_rfl) (tabOk_none _)
theorem n131 : Enters PR 131 := enters_of (fn := Go.Proofs.Tryz.f131) (by kernel_rfl) (by kernel_rfl) (by kernel_rfl)
noncomputable def g131 : List AV → AH → Nat → Option (Bool × AV × AH) := deepC PR e131 5 2000 131 4096 true
theorem g131_ok : ActOk PR 4096 131 g131 := deepC_ok cx131 rfl rfl

/-! reliquary/schnorr.Verify -/
noncomputable def e47 : Env := envD eqsT [(127, g127)] [] [] [(131, g131), (135, g135)] [] false [131, 135]
theorem e47_ok : EnvOk PR e47 := envD_ok eqsT_ok (TabPOk.cons g127_ok TabPOk.nil) TabHOk.nil TabLOk.nil (TabDOk.cons n131 g131_ok (TabDOk.cons n135 g135_ok TabDOk.nil))
theorem cx47 : Ctx PR e47 [] (fun _ => none) 2000 47 := ctx_of e47_ok mixed (fn := Go.Proofs.Tryz.f47) (by kernel_rfl) (by kernel_rfl) (by kernel_rfl) (tabOk_none _)
theorem n47 : Enters PR 47 := enters_of (fn := Go.Proofs.Tryz.f47) (by kernel_rfl) (by kernel_rfl) (by kernel_rfl)
noncomputable def g47 : List AV → AH → Nat → Option (Bool × AV × AH) := deepC PR e47 5 2000 47 4096 true
theorem g47_ok : ActOk PR 4096 47 g47 := deepC_ok cx47 rfl rfl

/-! reliquary/reliquarylaw24.awake -/
noncomputable def e41 : Env := envD eqsT [(16, (fn1 kU c6.agg ofW)), (23, g23), (25, g25), (45, g45)] [] [(42, tx24)] [(46, g46), (47, g47)] [] false [46, 47]
theorem e41_ok : EnvOk PR e41 := envD_ok eqsT_ok (TabPOk.cons of_ok (TabPOk.cons g23_ok (TabPOk.cons g25_ok (TabPOk.cons g45_ok TabPOk.nil)))) TabHOk.nil (TabLOk.cons tx24_ent tx24_ok TabLOk.nil) (TabDOk.cons n46 g46_ok (TabDOk.cons n47 g47_ok TabDOk.nil))
theorem cx41 : Ctx PR e41 [] (fun _ => none) 2000 41 := ctx_of e41_ok mixed (fn := Go.Proofs.Tryz.f41) (by kernel_rfl) (by kernel_rfl) (by kernel_rfl) (tabOk_none _)
theorem n41 : Enters PR 41 := enters_of (fn := Go.Proofs.Tryz.f41) (by kernel_rfl) (by kernel_rfl) (by kernel_rfl)
end Go.Rq
