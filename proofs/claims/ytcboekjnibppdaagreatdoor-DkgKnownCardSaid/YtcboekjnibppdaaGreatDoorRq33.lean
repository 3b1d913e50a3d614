/- A closed law's functions, each gone through where it is called. Written by a program of ours. -/
import Derived.Test.YtcboekjnibppdaaGreatDoorRq32
namespace Go.Rq
open Go Go.Proofs
def md168_0 : List AV × AV := ([.agg [.u (BitVec.ofNat 64 0), .u (BitVec.ofNat 64 0), .u (BitVec.ofNat 64 0), .u (BitVec.ofNat 64 0), .u (BitVec.ofNat 64 0), .u (BitVec.ofNat 64 0), .u (BitVec.ofNat 64 0), .u (BitVec.ofNat 64 0), .u (BitVec.ofNat 64 0), .u (BitVec.ofNat 64 0), .u (BitVec.ofNat 64 0), .u (BitVec.ofNat 64 0), .v (.bool false)]], .v (.bool false))
set_option maxRecDepth 1000000 in
theorem mf168_0 : canQ (inlineC PR e168 4 2000 168) md168_0.1 = some (true, md168_0.2) := by kernel_rfl
end Go.Rq

/- A closed law's functions, each gone through where it is called. Written by a program of ours. -/
namespace Go.Rq
open Go Go.Proofs

def mt168 : List (List AV × AV) := [md168_0]
theorem mt168_ok : ∀ p ∈ mt168, canQ (inlineC PR e168 4 2000 168) p.1 = some (true, p.2) := fun p hp => by
  rcases List.mem_cons.1 hp with rfl | hp
  · exact mf168_0
  cases hp
noncomputable def g168 : List AV → Option (Bool × AV) := canP (memoE (canQ (inlineC PR e168 4 2000 168)) mt168)
theorem g168_ok : CallOk PR 168 g168 := canP_ok (memoE_ok (canQ_ok (.inl ⟨n168, inlineC_ok cx168 rfl rfl⟩)) mt168_ok)

/-! reliquary/little.In -/
noncomputable def e169 : Env := envD eqsT [(171, g171), (230, (fn2 kCv cLp.agg kBool (inFT tmAll)))] [] [] [] [] false []
theorem e169_ok : EnvOk PR e169 := envD_ok eqsT_ok (TabPOk.cons g171_ok (TabPOk.cons linT_ok TabPOk.nil)) TabHOk.nil TabLOk.nil TabDOk.nil
theorem cx169 : Ctx PR e169 [] (fun _ => none) 2000 169 := ctx_of e169_ok mixed (fn := Go.Proofs.Tryz.f169) (by kernel_rfl) (by kernel_rfl) (by kernel_rfl) (tabOk_none _)
theorem n169 : Enters PR 169 := enters_of (fn := Go.Proofs.Tryz.f169) (by kernel_rfl) (by kernel_rfl) (by kernel_rfl)
noncomputable def g169 : List AV → Option (Bool × AV) := (inlineC PR e169 5 2000 169)
theorem g169_ok : CallOk PR 169 g169 := (.inl ⟨n169, inlineC_ok cx169 rfl rfl⟩)

/-! reliquary/suite.KeyCheck -/
noncomputable def e101 : Env := envD eqsT [(168, g168), (169, g169)] [] [] [] [] false []
theorem e101_ok : EnvOk PR e101 := envD_ok eqsT_ok (TabPOk.cons g168_ok (TabPOk.cons g169_ok TabPOk.nil)) TabHOk.nil TabLOk.nil TabDOk.nil
theorem cx101 : Ctx PR e101 [] (fun _ => none) 2000 101 := ctx_of e101_ok mixed (fn := Go.Proofs.Tryz.f101) (by kernel_rfl) (by kernel_rfl) (by kernel_rfl) (tabOk_none _)
theorem n101 : Enters PR 101 := enters_of (fn := Go.Proofs.Tryz.f101) (by kernel_rfl) (by kernel_rfl) (by kernel_rfl)
noncomputable def g101 : List AV → Option (Bool × AV) := (inlineC PR e101 5 2000 101)
theorem g101_ok : CallOk PR 101 g101 := (.inl ⟨n101, inlineC_ok cx101 rfl rfl⟩)

/-! reliquary/little.Order -/
noncomputable def e202 : Env := envD eqsT [(171, g171)] [] [] [] [] false []
theorem e202_ok : EnvOk PR e202 := envD_ok eqsT_ok (TabPOk.cons g171_ok TabPOk.nil) TabHOk.nil TabLOk.nil TabDOk.nil
theorem cx202 : Ctx PR e202 [] (fun _ => none) 2000 202 := ctx_of e202_ok mixed (fn := Go.Proofs.Tryz.f202) (by kernel_rfl) (by kernel_rfl) (by kernel_rfl) (tabOk_none _)
theorem n202 : Enters PR 202 := enters_of (fn := Go.Proofs.Tryz.f202) (by kernel_rfl) (by kernel_rfl) (by kernel_rfl)
noncomputable def g202 : List AV → Option (Bool × AV) := (inlineC PR e202 4 2000 202)
theorem g202_ok : CallOk PR 202 g202 := (.inl ⟨n202, inlineC_ok cx202 rfl rfl⟩)

/-! reliquary/suite.order -/
noncomputable def e123 : Env := envD eqsT [(16, (fn1 kU c6.agg ofW)), (202, g202)] [] [] [] [] false []
theorem e123_ok : EnvOk PR e123 := envD_ok eqsT_ok (TabPOk.cons of_ok (TabPOk.cons g202_ok TabPOk.nil)) TabHOk.nil TabLOk.nil TabDOk.nil
theorem cx123 : Ctx PR e123 [] (fun _ => none) 2000 123 := ctx_of e123_ok mixed (fn := Go.Proofs.Tryz.f123) (by kernel_rfl) (by kernel_rfl) (by kernel_rfl) (tabOk_none _)
theorem n123 : Enters PR 123 := enters_of (fn := Go.Proofs.Tryz.f123) (by kernel_rfl) (by kernel_rfl) (by kernel_rfl)
noncomputable def g123 : List AV → Option (Bool × AV) := (inlineC PR e123 4 2000 123)
theorem g123_ok : CallOk PR 123 g123 := (.inl ⟨n123, inlineC_ok cx123 rfl rfl⟩)

/-! reliquary/suite.keys -/
noncomputable def e111 : Env := envD eqsT [(98, (fn2 c6.agg c6.agg (kInt .i64) fun a b => chainV (cmpL a b) 0)), (101, g101), (123, g123)] [] [] [] [] false []
theorem e111_ok : EnvOk PR e111 := envD_ok eqsT_ok (TabPOk.cons cmp_ok (TabPOk.cons g101_ok (TabPOk.cons g123_ok TabPOk.nil))) TabHOk.nil TabLOk.nil TabDOk.nil
theorem cx111 : Ctx PR e111 [] (fun _ => none) 2000 111 := ctx_of e111_ok mixed (fn := Go.Proofs.Tryz.f111) (by kernel_rfl) (by kernel_rfl) (by kernel_rfl) (tabOk_none _)
theorem n111 : Enters PR 111 := enters_of (fn := Go.Proofs.Tryz.f111) (by kernel_rfl) (by kernel_rfl) (by kernel_rfl)
noncomputable def g111 : List AV → AH → Nat → Option (Bool × AV × AH) := deepC PR e111 6 2000 111 4096 true
theorem g111_ok : ActOk PR 4096 111 g111 := deepC_ok cx111 rfl rfl

/-! reliquary/little.Mul -/
noncomputable def e113 : Env := envD eqsT [(188, (fn3 kCv cLp.agg kU cLp.agg (lTimesT tmAll)))] [] [] [(187, g187)] [] false [187]
theorem e113_ok : EnvOk PR e113 := envD_ok eqsT_ok (TabPOk.cons tmT_ok TabPOk.nil) TabHOk.nil TabLOk.nil (TabDOk.cons n187 g187_ok TabDOk.nil)
theorem cx113 : Ctx PR e113 [] (fun _ => none) 2000 113 := ctx_of e113_ok mixed (fn := Go.Proofs.Tryz.f113) (by kernel_rfl) (by kernel_rfl) (by kernel_rfl) (tabOk_none _)
theorem n113 : Enters PR 113 := enters_of (fn := Go.Proofs.Tryz.f113) (by kernel_rfl) (by kernel_rfl) (by kernel_rfl)
noncomputable def g113 : List AV → Option (Bool × AV) := (inlineC PR e113 5 2000 113)
theorem g113_ok : CallOk PR 113 g113 := (.inl ⟨n113, inlineC_ok cx113 rfl rfl⟩)

/-! reliquary/suite.KeyMul -/
noncomputable def e25 : Env := envD eqsT [(113, g113)] [] [] [(111, g111)] [] false [111]
theorem e25_ok : EnvOk PR e25 := envD_ok eqsT_ok (TabPOk.cons g113_ok TabPOk.nil) TabHOk.nil TabLOk.nil (TabDOk.cons n111 g111_ok TabDOk.nil)
theorem cx25 : Ctx PR e25 [] (fun _ => none) 2000 25 := ctx_of e25_ok mixed (fn := Go.Proofs.Tryz.f25) (by kernel_rfl) (by kernel_rfl) (by kernel_rfl) (tabOk_none _)
theorem n25 : Enters PR 25 := enters_of (fn := Go.Proofs.Tryz.f25) (by kernel_rfl) (by kernel_rfl) (by kernel_rfl)
noncomputable def g25 : List AV → Option (Bool × AV) := (inlineC PR e25 6 2000 25)
theorem g25_ok : CallOk PR 25 g25 := (.inl ⟨n25, inlineC_ok cx25 rfl rfl⟩)

/-! reliquary/suite.Order -/
noncomputable def e34 : Env := envD eqsT [(104, g104), (123, g123)] [] [] [] [] false []
theorem e34_ok : EnvOk PR e34 := envD_ok eqsT_ok (TabPOk.cons g104_ok (TabPOk.cons g123_ok TabPOk.nil)) TabHOk.nil TabLOk.nil TabDOk.nil
theorem cx34 : Ctx PR e34 [] (fun _ => none) 2000 34 := ctx_of e34_ok mixed (fn := Go.Proofs.Tryz.f34) (by kernel_rfl) (by kernel_rfl) (by kernel_rfl) (tabOk_none _)
theorem n34 : Enters PR 34 := enters_of (fn := Go.Proofs.Tryz.f34) (by kernel_rfl) (by kernel_rfl) (by kernel_rfl)
noncomputable def g34 : List AV → Option (Bool × AV) := (inlineC PR e34 4 2000 34)
theorem g34_ok : CallOk PR 34 g34 := (.inl ⟨n34, inlineC_ok cx34 rfl rfl⟩)

/-! reliquary/little.Add -/
noncomputable def e167 : Env := envD eqsT [(225, (fn3 kCv cLp.agg cLp.agg cLp.agg lSum))] [] [] [(187, g187)] [] false [187]
theorem e167_ok : EnvOk PR e167 := envD_ok eqsT_ok (TabPOk.cons lsm_ok TabPOk.nil) TabHOk.nil TabLOk.nil (TabDOk.cons n187 g187_ok TabDOk.nil)
theorem cx167 : Ctx PR e167 [] (fun _ => none) 2000 167 := ctx_of e167_ok mixed (fn := Go.Proofs.Tryz.f167) (by kernel_rfl) (by kernel_rfl) (by kernel_rfl) (tabOk_none _)
theorem n167 : Enters PR 167 := enters_of (fn := Go.Proofs.Tryz.f167) (by kernel_rfl) (by kernel_rfl) (by kernel_rfl)
noncomputable def g167 : List AV → Option (Bool × AV) := (inlineC PR e167 5 2000 167)
theorem g167_ok : CallOk PR 167 g167 := (.inl ⟨n167, inlineC_ok cx167 rfl rfl⟩)

/-! reliquary/suite.KeyAdd -/
noncomputable def e99 : Env := envD eqsT [(167, g167)] [] [] [(111, g111)] [] false [111]
theorem e99_ok : EnvOk PR e99 := envD_ok eqsT_ok (TabPOk.cons g167_ok TabPOk.nil) TabHOk.nil TabLOk.nil (TabDOk.cons n111 g111_ok TabDOk.nil)
theorem cx99 : Ctx PR e99 [] (fun _ => none) 2000 99 := ctx_of e99_ok mixed (fn := Go.Proofs.Tryz.f99) (by kernel_rfl) (by kernel_rfl) (by kernel_rfl) (tabOk_none _)
theorem n99 : Enters PR 99 := enters_of (fn := Go.Proofs.Tryz.f99) (by kernel_rfl) (by kernel_rfl) (by kernel_rfl)
noncomputable def g99 : List AV → Option (Bool × AV) := (inlineC PR e99 6 2000 99)
theorem g99_ok : CallOk PR 99 g99 := (.inl ⟨n99, inlineC_ok cx99 rfl rfl⟩)

/-! reliquary/pledge.One -/
noncomputable def e15 : Env := envD eqsT [(23, g23), (24, (memoA bsT)), (25, g25), (34, g34), (98, (fn2 c6.agg c6.agg (kInt .i64) fun a b => chainV (cmpL a b) 0)), (99, g99)] [] [] [] [] false []
theorem e15_ok : EnvOk PR e15 := envD_ok eqsT_ok (TabPOk.cons g23_ok (TabPOk.cons bs_ok (TabPOk.cons g25_ok (TabPOk.cons g34_ok (TabPOk.cons cmp_ok (TabPOk.cons g99_ok TabPOk.nil)))))) TabHOk.nil TabLOk.nil TabDOk.nil
theorem cx15 : Ctx PR e15 [] (fun _ => none) 2000 15 := ctx_of e15_ok mixed (fn := Go.Proofs.Tryz.f15) (by kernel_rfl) (by kernel_rfl) (by kernel_rfl) (tabOk_none _)
theorem n15 : Enters PR 15 := enters_of (fn := Go.Proofs.Tryz.f15) (by kernel_rfl) (by kernel_rfl) (by kernel_rfl)
noncomputable def g15 : List AV → Option (Bool × AV) := (inlineC PR e15 7 2000 15)
theorem g15_ok : CallOk PR 15 g15 := (.inl ⟨n15, inlineC_ok cx15 rfl rfl⟩)

/-! reliquary/pledge.Commit -/
noncomputable def e13 : Env := envD eqsT [(15, g15), (34, g34)] [] [] [] [] false []
theorem e13_ok : EnvOk PR e13 := envD_ok eqsT_ok (TabPOk.cons g15_ok (TabPOk.cons g34_ok TabPOk.nil)) TabHOk.nil TabLOk.nil TabDOk.nil
theorem cx13 : Ctx PR e13 [] (fun _ => none) 2000 13 := ctx_of e13_ok mixed (fn := Go.Proofs.Tryz.f13) (by kernel_rfl) (by kernel_rfl) (by kernel_rfl) (tabOk_none _)
theorem n13 : Enters PR 13 := enters_of (fn := Go.Proofs.Tryz.f13) (by kernel_rfl) (by kernel_rfl) (by kernel_rfl)
noncomputable def g13 : List AV → AH → Nat → Option (Bool × AV × AH) := deepC PR e13 7 2000 13 4096 true
theorem g13_ok : ActOk PR 4096 13 g13 := deepC_ok cx13 rfl rfl

/-! reliquary/reliquarylaw22.two -/
noncomputable def e74 : Env := envD eqsT [(16, (fn1 kU c6.agg ofW))] [] [] [] [] false []
theorem e74_ok : EnvOk PR e74 := envD_ok eqsT_ok (TabPOk.cons of_ok TabPOk.nil) TabHOk.nil TabLOk.nil TabDOk.nil
theorem cx74 : Ctx PR e74 [] (fun _ => none) 2000 74 := ctx_of e74_ok mixed (fn := Go.Proofs.Tryz.f74) (by kernel_rfl) (by kernel_rfl) (by kernel_rfl) (tabOk_none _)
theorem n74 : Enters PR 74 := enters_of (fn := Go.Proofs.Tryz.f74) (by kernel_rfl) (by kernel_rfl) (by kernel_rfl)
noncomputable def g74 : List AV → AH → Nat → Option (Bool × AV × AH) := deepC PR e74 4 2000 74 4096 true
theorem g74_ok : ActOk PR 4096 74 g74 := deepC_ok cx74 rfl rfl

/-! reliquary/pledge.Check -/
noncomputable def e22 : Env := envD eqsT [(101, g101)] [] [] [] [] false []
theorem e22_ok : EnvOk PR e22 := envD_ok eqsT_ok (TabPOk.cons g101_ok TabPOk.nil) TabHOk.nil TabLOk.nil TabDOk.nil
theorem cx22 : Ctx PR e22 [] (fun _ => none) 2000 22 := ctx_of e22_ok mixed (fn := Go.Proofs.Tryz.f22) (by kernel_rfl) (by kernel_rfl) (by kernel_rfl) (tabOk_none _)
theorem n22 : Enters PR 22 := enters_of (fn := Go.Proofs.Tryz.f22) (by kernel_rfl) (by kernel_rfl) (by kernel_rfl)
noncomputable def g22 : List AV → AH → Nat → Option (Bool × AV × AH) := deepC PR e22 6 2000 22 4096 true
theorem g22_ok : ActOk PR 4096 22 g22 := deepC_ok cx22 rfl rfl

/-! reliquary/share.Faults -/
noncomputable def e125 : Env := envD eqsT [] [] [] [] [] false []
theorem e125_ok : EnvOk PR e125 := envD_ok eqsT_ok TabPOk.nil TabHOk.nil TabLOk.nil TabDOk.nil
theorem cx125 : Ctx PR e125 [] (fun _ => none) 2000 125 := ctx_of e125_ok mixed (fn := Go.Proofs.Tryz.f125) (by kernel_rfl) (by kernel_rfl) (by kernel_rfl) (tabOk_none _)
theorem n125 : Enters PR 125 := enters_of (fn := Go.Proofs.Tryz.f125) (by kernel_rfl) (by kernel_rfl) (by kernel_rfl)
noncomputable def g125 : List AV → Option (Bool × AV) := (inlineC PR e125 3 2000 125)
theorem g125_ok : CallOk PR 125 g125 := (.inl ⟨n125, inlineC_ok cx125 rfl rfl⟩)

/-! (*reliquary/dkg.Session).none -/
noncomputable def e156 : Env := envD eqsT [] [] [] [] [] false []
theorem e156_ok : EnvOk PR e156 := envD_ok eqsT_ok TabPOk.nil TabHOk.nil TabLOk.nil TabDOk.nil
theorem cx156 : Ctx PR e156 [] (fun _ => none) 2000 156 := ctx_of e156_ok mixed (fn := Go.Proofs.Tryz.f156) (by kernel_rfl) (by kernel_rfl) (by kernel_rfl) (tabOk_none _)
theorem n156 : Enters PR 156 := enters_of (fn := Go.Proofs.Tryz.f156) (by kernel_rfl) (by kernel_rfl) (by kernel_rfl)
noncomputable def g156 : List AV → AH → Nat → Option (Bool × AV × AH) := deepC PR e156 4 2000 156 4096 true
theorem g156_ok : ActOk PR 4096 156 g156 := deepC_ok cx156 rfl rfl

/-! (*reliquary/dkg.Session).Faults -/
noncomputable def e86 : Env := envD eqsT [(125, g125)] [] [] [(156, g156)] [] false [156]
theorem e86_ok : EnvOk PR e86 := envD_ok eqsT_ok (TabPOk.cons g125_ok TabPOk.nil) TabHOk.nil TabLOk.nil (TabDOk.cons n156 g156_ok TabDOk.nil)
theorem cx86 : Ctx PR e86 [] (fun _ => none) 2000 86 := ctx_of e86_ok mixed (fn := Go.Proofs.Tryz.f86) (by kernel_rfl) (by kernel_rfl) (by kernel_rfl) (tabOk_none _)
theorem n86 : Enters PR 86 := enters_of (fn := Go.Proofs.Tryz.f86) (by kernel_rfl) (by kernel_rfl) (by kernel_rfl)
noncomputable def g86 : List AV → AH → Nat → Option (Bool × AV × AH) := deepC PR e86 4 2000 86 4096 true
theorem g86_ok : ActOk PR 4096 86 g86 := deepC_ok cx86 rfl rfl

/-! slices.Clone[[]reliquary/api.Key,reliquary/api.Key] -/
noncomputable def e133 : Env := envD eqsT [] [] [] [] [] false []
theorem e133_ok : EnvOk PR e133 := envD_ok eqsT_ok TabPOk.nil TabHOk.nil TabLOk.nil TabDOk.nil
theorem cx133 : Ctx PR e133 [] (fun _ => none) 2000 133 := ctx_of e133_ok mixed (fn := Go.Proofs.Tryz.f133) (by kernel_rfl) (by kernel_rfl) (by kernel_rfl) (tabOk_none _)
theorem n133 : Enters PR 133 := enters_of (fn := Go.Proofs.Tryz.f133) (by kernel_rfl) (by kernel_rfl) (by kernel_rfl)
noncomputable def g133 : List AV → AH → Nat → Option (Bool × AV × AH) := deepC PR e133 3 2000 133 4096 true
theorem g133_ok : ActOk PR 4096 133 g133 := deepC_ok cx133 rfl rfl

/-! (*reliquary/dkg.Session).nodes$1 -/
noncomputable def e221 : Env := envD eqsT [] [] [] [] [] false []
theorem e221_ok : EnvOk PR e221 := envD_ok eqsT_ok TabPOk.nil TabHOk.nil TabLOk.nil TabDOk.nil
theorem cx221 : Ctx PR e221 [] (fun _ => none) 2000 221 := ctx_of e221_ok mixed (fn := Go.Proofs.Tryz.f221) (by kernel_rfl) (by kernel_rfl) (by kernel_rfl) (tabOk_none _)
theorem n221 : Enters PR 221 := enters_of (fn := Go.Proofs.Tryz.f221) (by kernel_rfl) (by kernel_rfl) (by kernel_rfl)
noncomputable def g221 : List AV → AH → Nat → Option (Bool × AV × AH) := deepC PR e221 4 2000 221 4096 true
theorem g221_ok : ActOk PR 4096 221 g221 := deepC_ok cx221 rfl rfl

/-! reliquary/share.places$1 -/
noncomputable def e303 : Env := envD eqsT [] [] [] [] [] false []
theorem e303_ok : EnvOk PR e303 := envD_ok eqsT_ok TabPOk.nil TabHOk.nil TabLOk.nil TabDOk.nil
theorem cx303 : Ctx PR e303 [] (fun _ => none) 2000 303 := ctx_of e303_ok mixed (fn := Go.Proofs.Tryz.f303) (by kernel_rfl) (by kernel_rfl) (by kernel_rfl) (tabOk_none _)
theorem n303 : Enters PR 303 := enters_of (fn := Go.Proofs.Tryz.f303) (by kernel_rfl) (by kernel_rfl) (by kernel_rfl)
noncomputable def g303 : List AV → Option (Bool × AV) := (inlineC PR e303 4 2000 303)
theorem g303_ok : CallOk PR 303 g303 := (.inl ⟨n303, inlineC_ok cx303 rfl rfl⟩)

/-! (*reliquary/dkg.Session).Accuse$1 -/
noncomputable def e163 : Env := envD eqsT [] [] [] [] [] false []
theorem e163_ok : EnvOk PR e163 := envD_ok eqsT_ok TabPOk.nil TabHOk.nil TabLOk.nil TabDOk.nil
theorem cx163 : Ctx PR e163 [] (fun _ => none) 2000 163 := ctx_of e163_ok mixed (fn := Go.Proofs.Tryz.f163) (by kernel_rfl) (by kernel_rfl) (by kernel_rfl) (tabOk_none _)
theorem n163 : Enters PR 163 := enters_of (fn := Go.Proofs.Tryz.f163) (by kernel_rfl) (by kernel_rfl) (by kernel_rfl)
noncomputable def g163 : List AV → AH → Nat → Option (Bool × AV × AH) := deepC PR e163 3 2000 163 4096 true
theorem g163_ok : ActOk PR 4096 163 g163 := deepC_ok cx163 rfl rfl

/-! slices.IndexFunc[[]int,int] -/
noncomputable def e224 : Env := envD eqsT [(303, g303)] [] [] [(221, g221), (163, g163)] [] false [221, 163]
theorem e224_ok : EnvOk PR e224 := envD_ok eqsT_ok (TabPOk.cons g303_ok TabPOk.nil) TabHOk.nil TabLOk.nil (TabDOk.cons n221 g221_ok (TabDOk.cons n163 g163_ok TabDOk.nil))
theorem cx224 : Ctx PR e224 [] (fun _ => none) 2000 224 := ctx_of e224_ok mixed (fn := Go.Proofs.Tryz.f224) (by kernel_rfl) (by kernel_rfl) (by kernel_rfl) (tabOk_none _)
theorem n224 : Enters PR 224 := enters_of (fn := Go.Proofs.Tryz.f224) (by kernel_rfl) (by kernel_rfl) (by kernel_rfl)
noncomputable def g224 : List AV → AH → Nat → Option (Bool × AV × AH) := deepC PR e224 5 2000 224 4096 true
theorem g224_ok : ActOk PR 4096 224 g224 := deepC_ok cx224 rfl rfl

/-! slices.ContainsFunc[[]int,int] -/
noncomputable def e220 : Env := envD eqsT [] [] [] [(224, g224)] [] false [224]
theorem e220_ok : EnvOk PR e220 := envD_ok eqsT_ok TabPOk.nil TabHOk.nil TabLOk.nil (TabDOk.cons n224 g224_ok TabDOk.nil)
theorem cx220 : Ctx PR e220 [] (fun _ => none) 2000 220 := ctx_of e220_ok mixed (fn := Go.Proofs.Tryz.f220) (by kernel_rfl) (by kernel_rfl) (by kernel_rfl) (tabOk_none _)
theorem n220 : Enters PR 220 := enters_of (fn := Go.Proofs.Tryz.f220) (by kernel_rfl) (by kernel_rfl) (by kernel_rfl)
noncomputable def g220 : List AV → AH → Nat → Option (Bool × AV × AH) := deepC PR e220 4 2000 220 4096 true
theorem g220_ok : ActOk PR 4096 220 g220 := deepC_ok cx220 rfl rfl

/-! (*reliquary/dkg.Session).nodes -/
noncomputable def e152 : Env := envD eqsT [] [] [] [(156, g156), (220, g220)] [] false [156, 220]
theorem e152_ok : EnvOk PR e152 := envD_ok eqsT_ok TabPOk.nil TabHOk.nil TabLOk.nil (TabDOk.cons n156 g156_ok (TabDOk.cons n220 g220_ok TabDOk.nil))
theorem cx152 : Ctx PR e152 [] (fun _ => none) 2000 152 := ctx_of e152_ok mixed (fn := Go.Proofs.Tryz.f152) (by kernel_rfl) (by kernel_rfl) (by kernel_rfl) (tabOk_none _)
theorem n152 : Enters PR 152 := enters_of (fn := Go.Proofs.Tryz.f152) (by kernel_rfl) (by kernel_rfl) (by kernel_rfl)
noncomputable def g152 : List AV → AH → Nat → Option (Bool × AV × AH) := deepC PR e152 4 2000 152 4096 true
theorem g152_ok : ActOk PR 4096 152 g152 := deepC_ok cx152 rfl rfl

/-! (*reliquary/dkg.Session).Deal -/
noncomputable def e75 : Env := envD eqsT [] [] [] [(22, g22), (86, g86), (133, g133), (152, g152)] [] false [22, 86, 133, 152]
theorem e75_ok : EnvOk PR e75 := envD_ok eqsT_ok TabPOk.nil TabHOk.nil TabLOk.nil (TabDOk.cons n22 g22_ok (TabDOk.cons n86 g86_ok (TabDOk.cons n133 g133_ok (TabDOk.cons n152 g152_ok TabDOk.nil))))
theorem cx75 : Ctx PR e75 [] (fun _ => none) 2000 75 := ctx_of e75_ok mixed (fn := Go.Proofs.Tryz.f75) (by kernel_rfl) (by kernel_rfl) (by kernel_rfl) (tabOk_none _)
theorem n75 : Enters PR 75 := enters_of (fn := Go.Proofs.Tryz.f75) (by kernel_rfl) (by kernel_rfl) (by kernel_rfl)
noncomputable def g75 : List AV → AH → Nat → Option (Bool × AV × AH) := deepC PR e75 6 2000 75 4096 false
theorem g75_ok : ActOk PR 4096 75 g75 := deepC_ok cx75 rfl rfl

/-! (*reliquary/dkg.Session).Quorum -/
noncomputable def e87 : Env := envD eqsT [] [] [] [(86, g86), (156, g156)] [] false [86, 156]
theorem e87_ok : EnvOk PR e87 := envD_ok eqsT_ok TabPOk.nil TabHOk.nil TabLOk.nil (TabDOk.cons n86 g86_ok (TabDOk.cons n156 g156_ok TabDOk.nil))
theorem cx87 : Ctx PR e87 [] (fun _ => none) 2000 87 := ctx_of e87_ok mixed (fn := Go.Proofs.Tryz.f87) (by kernel_rfl) (by kernel_rfl) (by kernel_rfl) (tabOk_none _)
theorem n87 : Enters PR 87 := enters_of (fn := Go.Proofs.Tryz.f87) (by kernel_rfl) (by kernel_rfl) (by kernel_rfl)
noncomputable def g87 : List AV → AH → Nat → Option (Bool × AV × AH) := deepC PR e87 4 2000 87 4096 true
theorem g87_ok : ActOk PR 4096 87 g87 := deepC_ok cx87 rfl rfl

/-! (*reliquary/dkg.Session).live -/
noncomputable def e158 : Env := envD eqsT [] [] [] [] [] false []
theorem e158_ok : EnvOk PR e158 := envD_ok eqsT_ok TabPOk.nil TabHOk.nil TabLOk.nil TabDOk.nil
theorem cx158 : Ctx PR e158 [] (fun _ => none) 2000 158 := ctx_of e158_ok mixed (fn := Go.Proofs.Tryz.f158) (by kernel_rfl) (by kernel_rfl) (by kernel_rfl) (tabOk_none _)
theorem n158 : Enters PR 158 := enters_of (fn := Go.Proofs.Tryz.f158) (by kernel_rfl) (by kernel_rfl) (by kernel_rfl)
noncomputable def g158 : List AV → AH → Nat → Option (Bool × AV × AH) := deepC PR e158 5 2000 158 4096 true
theorem g158_ok : ActOk PR 4096 158 g158 := deepC_ok cx158 rfl rfl

/-! reliquary/pledge.Sum -/
noncomputable def e19 : Env := envD eqsT [(99, g99)] [] [] [(22, g22)] [] false [22]
theorem e19_ok : EnvOk PR e19 := envD_ok eqsT_ok (TabPOk.cons g99_ok TabPOk.nil) TabHOk.nil TabLOk.nil (TabDOk.cons n22 g22_ok TabDOk.nil)
theorem cx19 : Ctx PR e19 [] (fun _ => none) 2000 19 := ctx_of e19_ok mixed (fn := Go.Proofs.Tryz.f19) (by kernel_rfl) (by kernel_rfl) (by kernel_rfl) (tabOk_none _)
theorem n19 : Enters PR 19 := enters_of (fn := Go.Proofs.Tryz.f19) (by kernel_rfl) (by kernel_rfl) (by kernel_rfl)
noncomputable def g19 : List AV → AH → Nat → Option (Bool × AV × AH) := deepC PR e19 7 2000 19 4096 true
theorem g19_ok : ActOk PR 4096 19 g19 := deepC_ok cx19 rfl rfl

/-! (*reliquary/dkg.Session).close -/
noncomputable def e159 : Env := envD eqsT [] [] [] [(19, g19), (86, g86)] [] false [19, 86]
theorem e159_ok : EnvOk PR e159 := envD_ok eqsT_ok TabPOk.nil TabHOk.nil TabLOk.nil (TabDOk.cons n19 g19_ok (TabDOk.cons n86 g86_ok TabDOk.nil))
theorem cx159 : Ctx PR e159 [] (fun _ => none) 2000 159 := ctx_of e159_ok mixed (fn := Go.Proofs.Tryz.f159) (by kernel_rfl) (by kernel_rfl) (by kernel_rfl) (tabOk_none _)
theorem n159 : Enters PR 159 := enters_of (fn := Go.Proofs.Tryz.f159) (by kernel_rfl) (by kernel_rfl) (by kernel_rfl)
noncomputable def g159 : List AV → AH → Nat → Option (Bool × AV × AH) := deepC PR e159 6 2000 159 4096 false
theorem g159_ok : ActOk PR 4096 159 g159 := deepC_ok cx159 rfl rfl

/-! (*reliquary/dkg.Session).Ack -/
noncomputable def e76 : Env := envD eqsT [] [] [] [(87, g87), (152, g152), (158, g158), (159, g159)] [] false [87, 152, 158]
theorem e76_ok : EnvOk PR e76 := envD_ok eqsT_ok TabPOk.nil TabHOk.nil TabLOk.nil (TabDOk.cons n87 g87_ok (TabDOk.cons n152 g152_ok (TabDOk.cons n158 g158_ok (TabDOk.cons n159 g159_ok TabDOk.nil))))
theorem cx76 : Ctx PR e76 [] (fun _ => none) 2000 76 := ctx_of e76_ok mixed (fn := Go.Proofs.Tryz.f76) (by kernel_rfl) (by kernel_rfl) (by kernel_rfl) (tabOk_none _)
theorem n76 : Enters PR 76 := enters_of (fn := Go.Proofs.Tryz.f76) (by kernel_rfl) (by kernel_rfl) (by kernel_rfl)
noncomputable def g76 : List AV → AH → Nat → Option (Bool × AV × AH) := deepC PR e76 7 2000 76 4096 false
theorem g76_ok : ActOk PR 4096 76 g76 := deepC_ok cx76 rfl rfl

/-! slices.Clone[[]byte,byte] -/
noncomputable def e134 : Env := envD eqsT [] [] [] [] [] false []
theorem e134_ok : EnvOk PR e134 := envD_ok eqsT_ok TabPOk.nil TabHOk.nil TabLOk.nil TabDOk.nil
theorem cx134 : Ctx PR e134 [] (fun _ => none) 2000 134 := ctx_of e134_ok mixed (fn := Go.Proofs.Tryz.f134) (by kernel_rfl) (by kernel_rfl) (by kernel_rfl) (tabOk_none _)
theorem n134 : Enters PR 134 := enters_of (fn := Go.Proofs.Tryz.f134) (by kernel_rfl) (by kernel_rfl) (by kernel_rfl)
noncomputable def g134 : List AV → AH → Nat → Option (Bool × AV × AH) := deepC PR e134 3 2000 134 4096 true
theorem g134_ok : ActOk PR 4096 134 g134 := deepC_ok cx134 rfl rfl

/-! reliquary/dkg.New -/
noncomputable def e77 : Env := envD eqsT [(34, g34)] [] [] [(134, g134)] [] false [134]
theorem e77_ok : EnvOk PR e77 := envD_ok eqsT_ok (TabPOk.cons g34_ok TabPOk.nil) TabHOk.nil TabLOk.nil (TabDOk.cons n134 g134_ok TabDOk.nil)
theorem cx77 : Ctx PR e77 [] (fun _ => none) 2000 77 := ctx_of e77_ok mixed (fn := Go.Proofs.Tryz.f77) (by kernel_rfl) (by kernel_rfl) (by kernel_rfl) (tabOk_none _)
theorem n77 : Enters PR 77 := enters_of (fn := Go.Proofs.Tryz.f77) (by kernel_rfl) (by kernel_rfl) (by kernel_rfl)
noncomputable def g77 : List AV → AH → Nat → Option (Bool × AV × AH) := deepC PR e77 6 2000 77 4096 true
theorem g77_ok : ActOk PR 4096 77 g77 := deepC_ok cx77 rfl rfl

/-! (*reliquary/dkg.Session).Closed -/
noncomputable def e85 : Env := envD eqsT [] [] [] [(156, g156)] [] false [156]
theorem e85_ok : EnvOk PR e85 := envD_ok eqsT_ok TabPOk.nil TabHOk.nil TabLOk.nil (TabDOk.cons n156 g156_ok TabDOk.nil)
theorem cx85 : Ctx PR e85 [] (fun _ => none) 2000 85 := ctx_of e85_ok mixed (fn := Go.Proofs.Tryz.f85) (by kernel_rfl) (by kernel_rfl) (by kernel_rfl) (tabOk_none _)
theorem n85 : Enters PR 85 := enters_of (fn := Go.Proofs.Tryz.f85) (by kernel_rfl) (by kernel_rfl) (by kernel_rfl)
noncomputable def g85 : List AV → AH → Nat → Option (Bool × AV × AH) := deepC PR e85 4 2000 85 4096 true
theorem g85_ok : ActOk PR 4096 85 g85 := deepC_ok cx85 rfl rfl

/-! slices.Clone[[]int,int] -/
noncomputable def e164 : Env := envD eqsT [] [] [] [] [] false []
theorem e164_ok : EnvOk PR e164 := envD_ok eqsT_ok TabPOk.nil TabHOk.nil TabLOk.nil TabDOk.nil
theorem cx164 : Ctx PR e164 [] (fun _ => none) 2000 164 := ctx_of e164_ok mixed (fn := Go.Proofs.Tryz.f164) (by kernel_rfl) (by kernel_rfl) (by kernel_rfl) (tabOk_none _)
theorem n164 : Enters PR 164 := enters_of (fn := Go.Proofs.Tryz.f164) (by kernel_rfl) (by kernel_rfl) (by kernel_rfl)
noncomputable def g164 : List AV → AH → Nat → Option (Bool × AV × AH) := deepC PR e164 3 2000 164 4096 true
theorem g164_ok : ActOk PR 4096 164 g164 := deepC_ok cx164 rfl rfl

/-! (*reliquary/dkg.Session).Dealers -/
noncomputable def e84 : Env := envD eqsT [] [] [] [(85, g85), (164, g164)] [] false [85, 164]
theorem e84_ok : EnvOk PR e84 := envD_ok eqsT_ok TabPOk.nil TabHOk.nil TabLOk.nil (TabDOk.cons n85 g85_ok (TabDOk.cons n164 g164_ok TabDOk.nil))
theorem cx84 : Ctx PR e84 [] (fun _ => none) 2000 84 := ctx_of e84_ok mixed (fn := Go.Proofs.Tryz.f84) (by kernel_rfl) (by kernel_rfl) (by kernel_rfl) (tabOk_none _)
theorem n84 : Enters PR 84 := enters_of (fn := Go.Proofs.Tryz.f84) (by kernel_rfl) (by kernel_rfl) (by kernel_rfl)
noncomputable def g84 : List AV → AH → Nat → Option (Bool × AV × AH) := deepC PR e84 4 2000 84 4096 true
theorem g84_ok : ActOk PR 4096 84 g84 := deepC_ok cx84 rfl rfl

/-! reliquary/reliquarykit.SameInts -/
noncomputable def e151 : Env := envD eqsT [] [] [] [] [] false []
theorem e151_ok : EnvOk PR e151 := envD_ok eqsT_ok TabPOk.nil TabHOk.nil TabLOk.nil TabDOk.nil
theorem cx151 : Ctx PR e151 [] (fun _ => none) 2000 151 := ctx_of e151_ok mixed (fn := Go.Proofs.Tryz.f151) (by kernel_rfl) (by kernel_rfl) (by kernel_rfl) (tabOk_none _)
theorem n151 : Enters PR 151 := enters_of (fn := Go.Proofs.Tryz.f151) (by kernel_rfl) (by kernel_rfl) (by kernel_rfl)
noncomputable def g151 : List AV → AH → Nat → Option (Bool × AV × AH) := deepC PR e151 5 2000 151 4096 true
theorem g151_ok : ActOk PR 4096 151 g151 := deepC_ok cx151 rfl rfl

/-! reliquary/reliquarylaw22.closed -/
noncomputable def e69 : Env := envD eqsT [] [] [] [(13, g13), (74, g74), (75, g75), (76, g76), (77, g77), (84, g84), (85, g85), (151, g151)] [] false [13, 74, 77, 84, 85, 151]
theorem e69_ok : EnvOk PR e69 := envD_ok eqsT_ok TabPOk.nil TabHOk.nil TabLOk.nil (TabDOk.cons n13 g13_ok (TabDOk.cons n74 g74_ok (TabDOk.cons n75 g75_ok (TabDOk.cons n76 g76_ok (TabDOk.cons n77 g77_ok (TabDOk.cons n84 g84_ok (TabDOk.cons n85 g85_ok (TabDOk.cons n151 g151_ok TabDOk.nil))))))))
theorem cx69 : Ctx PR e69 [] (fun _ => none) 2000 69 := ctx_of e69_ok mixed (fn := Go.Proofs.Tryz.f69) (by kernel_rfl) (by kernel_rfl) (by kernel_rfl) (tabOk_none _)
theorem n69 : Enters PR 69 := enters_of (fn := Go.Proofs.Tryz.f69) (by kernel_rfl) (by kernel_rfl) (by kernel_rfl)
noncomputable def g69 : List AV → AH → Nat → Option (Bool × AV × AH) := deepC PR e69 7 2000 69 4096 true
theorem g69_ok : ActOk PR 4096 69 g69 := deepC_ok cx69 rfl rfl

/-! (reliquary/pledge.pledge).at -/
noncomputable def e100 : Env := envD eqsT [(16, (fn1 kU c6.agg ofW)), (25, g25), (99, g99)] [] [] [] [] false []
theorem e100_ok : EnvOk PR e100 := envD_ok eqsT_ok (TabPOk.cons of_ok (TabPOk.cons g25_ok (TabPOk.cons g99_ok TabPOk.nil))) TabHOk.nil TabLOk.nil TabDOk.nil
theorem cx100 : Ctx PR e100 [] (fun _ => none) 2000 100 := ctx_of e100_ok mixed (fn := Go.Proofs.Tryz.f100) (by kernel_rfl) (by kernel_rfl) (by kernel_rfl) (tabOk_none _)
theorem n100 : Enters PR 100 := enters_of (fn := Go.Proofs.Tryz.f100) (by kernel_rfl) (by kernel_rfl) (by kernel_rfl)
noncomputable def g100 : List AV → AH → Nat → Option (Bool × AV × AH) := deepC PR e100 6 2000 100 4096 true
theorem g100_ok : ActOk PR 4096 100 g100 := deepC_ok cx100 rfl rfl

/-! reliquary/pledge.At -/
noncomputable def e18 : Env := envD eqsT [] [] [] [(22, g22), (100, g100)] [] false [22, 100]
theorem e18_ok : EnvOk PR e18 := envD_ok eqsT_ok TabPOk.nil TabHOk.nil TabLOk.nil (TabDOk.cons n22 g22_ok (TabDOk.cons n100 g100_ok TabDOk.nil))
theorem cx18 : Ctx PR e18 [] (fun _ => none) 2000 18 := ctx_of e18_ok mixed (fn := Go.Proofs.Tryz.f18) (by kernel_rfl) (by kernel_rfl) (by kernel_rfl) (tabOk_none _)
theorem n18 : Enters PR 18 := enters_of (fn := Go.Proofs.Tryz.f18) (by kernel_rfl) (by kernel_rfl) (by kernel_rfl)
end Go.Rq
