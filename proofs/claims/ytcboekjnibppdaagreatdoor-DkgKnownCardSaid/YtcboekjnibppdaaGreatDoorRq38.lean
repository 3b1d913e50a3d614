/- A closed law's functions, each gone through where it is called. Written by a program of ours. -/
import Derived.Test.YtcboekjnibppdaaGreatDoorRq35
import Derived.Test.YtcboekjnibppdaaGreatDoorRq36
import Derived.Test.YtcboekjnibppdaaGreatDoorRq37
namespace Go.Rq
open Go Go.Proofs
def md20_4 : MemD := ⟨[.own 0 17 0 2, .v (.int .i64 (.ofNat 3)), .agg [.u (BitVec.ofNat 64 27), .u (BitVec.ofNat 64 0), .u (BitVec.ofNat 64 0), .u (BitVec.ofNat 64 0), .u (BitVec.ofNat 64 0), .u (BitVec.ofNat 64 0)], .agg [.u (BitVec.ofNat 64 7), .u (BitVec.ofNat 64 0), .u (BitVec.ofNat 64 0), .u (BitVec.ofNat 64 0), .u (BitVec.ofNat 64 0), .u (BitVec.ofNat 64 0)]], [(0, some ⟨false, 37, [.v (.int .i64 (.ofNat 1)), .u (BitVec.ofNat 64 0), .u (BitVec.ofNat 64 0), .u (BitVec.ofNat 64 0), .u (BitVec.ofNat 64 0), .u (BitVec.ofNat 64 0), .u (BitVec.ofNat 64 0), .u (BitVec.ofNat 64 0), .u (BitVec.ofNat 64 0), .u (BitVec.ofNat 64 0), .u (BitVec.ofNat 64 0), .u (BitVec.ofNat 64 0), .u (BitVec.ofNat 64 0), .v (.bool false), .u (BitVec.ofNat 64 175939), .u (BitVec.ofNat 64 21521), .v (.bool false), .v (.int .i64 (.ofNat 1)), .u (BitVec.ofNat 64 0), .u (BitVec.ofNat 64 0), .u (BitVec.ofNat 64 0), .u (BitVec.ofNat 64 0), .u (BitVec.ofNat 64 0), .u (BitVec.ofNat 64 0), .u (BitVec.ofNat 64 0), .u (BitVec.ofNat 64 0), .u (BitVec.ofNat 64 0), .u (BitVec.ofNat 64 0), .u (BitVec.ofNat 64 0), .u (BitVec.ofNat 64 0), .v (.bool false), .u (BitVec.ofNat 64 729085), .u (BitVec.ofNat 64 626936), .v (.bool false)]⟩)], .tup [.v (.bool true), .v (.int .i64 (.ofNat 0))]⟩
set_option maxRecDepth 1000000 in
theorem mf20_4 : outC2 (outC (crunF PR e20 6 2000 20 md20_4.as md20_4.h md20_4.h.length)) = some md20_4.r := by kernel_rfl
end Go.Rq

/- A closed law's functions, each gone through where it is called. Written by a program of ours. -/
namespace Go.Rq
open Go Go.Proofs

def mt20 : List MemD := [md20_0, md20_1, md20_2, md20_3, md20_4]
theorem mt20_ok : MemOk PR e20 6 2000 20 mt20 := (MemOk.cons mf20_0 (MemOk.cons mf20_1 (MemOk.cons mf20_2 (MemOk.cons mf20_3 (MemOk.cons mf20_4 MemOk.nil)))))
noncomputable def g20 : List AV → AH → Nat → Option (Bool × AV × AH) := canG (memoD mt20 (deepC2 PR e20 6 2000 20 4096 true))
theorem g20_ok : ActOk PR 4096 20 g20 := memoD_ok cx20 rfl rfl mt20_ok (by kernel_rfl)

/-! reliquary/proof.checked -/
noncomputable def e114 : Env := envD eqsT [(34, g34), (98, (fn2 c6.agg c6.agg (kInt .i64) fun a b => chainV (cmpL a b) 0)), (101, g101)] [] [] [] [] false []
theorem e114_ok : EnvOk PR e114 := envD_ok eqsT_ok (TabPOk.cons g34_ok (TabPOk.cons cmp_ok (TabPOk.cons g101_ok TabPOk.nil))) TabHOk.nil TabLOk.nil TabDOk.nil
theorem cx114 : Ctx PR e114 [] (fun _ => none) 2000 114 := ctx_of e114_ok mixed (fn := Go.Proofs.Tryz.f114) (by kernel_rfl) (by kernel_rfl) (by kernel_rfl) (tabOk_none _)
theorem n114 : Enters PR 114 := enters_of (fn := Go.Proofs.Tryz.f114) (by kernel_rfl) (by kernel_rfl) (by kernel_rfl)
noncomputable def g114 : List AV → AH → Nat → Option (Bool × AV × AH) := deepC PR e114 6 2000 114 4096 true
theorem g114_ok : ActOk PR 4096 114 g114 := deepC_ok cx114 rfl rfl

/-! reliquary/proof.times -/
noncomputable def e115 : Env := envD eqsT [(25, g25)] [] [] [] [] false []
theorem e115_ok : EnvOk PR e115 := envD_ok eqsT_ok (TabPOk.cons g25_ok TabPOk.nil) TabHOk.nil TabLOk.nil TabDOk.nil
theorem cx115 : Ctx PR e115 [] (fun _ => none) 2000 115 := ctx_of e115_ok mixed (fn := Go.Proofs.Tryz.f115) (by kernel_rfl) (by kernel_rfl) (by kernel_rfl) (tabOk_none _)
theorem n115 : Enters PR 115 := enters_of (fn := Go.Proofs.Tryz.f115) (by kernel_rfl) (by kernel_rfl) (by kernel_rfl)
noncomputable def g115 : List AV → Option (Bool × AV) := (inlineC PR e115 4 2000 115)
theorem g115_ok : CallOk PR 115 g115 := (.inl ⟨n115, inlineC_ok cx115 rfl rfl⟩)

/-! reliquary/little.written -/
noncomputable def e300 : Env := envD eqsT [] [] [] [] [] false []
theorem e300_ok : EnvOk PR e300 := envD_ok eqsT_ok TabPOk.nil TabHOk.nil TabLOk.nil TabDOk.nil
theorem cx300 : Ctx PR e300 [] (fun _ => none) 2000 300 := ctx_of e300_ok mixed (fn := Go.Proofs.Tryz.f300) (by kernel_rfl) (by kernel_rfl) (by kernel_rfl) (tabOk_none _)
theorem n300 : Enters PR 300 := enters_of (fn := Go.Proofs.Tryz.f300) (by kernel_rfl) (by kernel_rfl) (by kernel_rfl)
noncomputable def g300 : List AV → Option (Bool × AV) := (inlineC PR e300 6 2000 300)
theorem g300_ok : CallOk PR 300 g300 := (.inl ⟨n300, inlineC_ok cx300 rfl rfl⟩)

/-! reliquary/little.Bytes -/
noncomputable def e252 : Env := envD eqsT [(300, g300)] [] [] [(187, g187)] [] false [187]
theorem e252_ok : EnvOk PR e252 := envD_ok eqsT_ok (TabPOk.cons g300_ok TabPOk.nil) TabHOk.nil TabLOk.nil (TabDOk.cons n187 g187_ok TabDOk.nil)
theorem cx252 : Ctx PR e252 [] (fun _ => none) 2000 252 := ctx_of e252_ok mixed (fn := Go.Proofs.Tryz.f252) (by kernel_rfl) (by kernel_rfl) (by kernel_rfl) (tabOk_none _)
theorem n252 : Enters PR 252 := enters_of (fn := Go.Proofs.Tryz.f252) (by kernel_rfl) (by kernel_rfl) (by kernel_rfl)
noncomputable def g252 : List AV → AH → Nat → Option (Bool × AV × AH) := deepC PR e252 5 2000 252 4096 true
theorem g252_ok : ActOk PR 4096 252 g252 := deepC_ok cx252 rfl rfl

/-! reliquary/suite.KeyBytes -/
noncomputable def e189 : Env := envD eqsT [(101, g101)] [] [] [(252, g252)] [] false [252]
theorem e189_ok : EnvOk PR e189 := envD_ok eqsT_ok (TabPOk.cons g101_ok TabPOk.nil) TabHOk.nil TabLOk.nil (TabDOk.cons n252 g252_ok TabDOk.nil)
theorem cx189 : Ctx PR e189 [] (fun _ => none) 2000 189 := ctx_of e189_ok mixed (fn := Go.Proofs.Tryz.f189) (by kernel_rfl) (by kernel_rfl) (by kernel_rfl) (tabOk_none _)
theorem n189 : Enters PR 189 := enters_of (fn := Go.Proofs.Tryz.f189) (by kernel_rfl) (by kernel_rfl) (by kernel_rfl)
noncomputable def g189 : List AV → AH → Nat → Option (Bool × AV × AH) := deepC PR e189 5 2000 189 4096 true
theorem g189_ok : ActOk PR 4096 189 g189 := deepC_ok cx189 rfl rfl

/-! reliquary/suite.text -/
noncomputable def e253 : Env := envD eqsT [(104, g104)] [] [] [(105, g105)] [] false [105]
theorem e253_ok : EnvOk PR e253 := envD_ok eqsT_ok (TabPOk.cons g104_ok TabPOk.nil) TabHOk.nil TabLOk.nil (TabDOk.cons n105 g105_ok TabDOk.nil)
theorem cx253 : Ctx PR e253 [] (fun _ => none) 2000 253 := ctx_of e253_ok mixed (fn := Go.Proofs.Tryz.f253) (by kernel_rfl) (by kernel_rfl) (by kernel_rfl) (tabOk_none _)
theorem n253 : Enters PR 253 := enters_of (fn := Go.Proofs.Tryz.f253) (by kernel_rfl) (by kernel_rfl) (by kernel_rfl)
noncomputable def g253 : List AV → AH → Nat → Option (Bool × AV × AH) := deepC PR e253 5 2000 253 4096 true
theorem g253_ok : ActOk PR 4096 253 g253 := deepC_ok cx253 rfl rfl

/-! reliquary/suite.HashNum -/
noncomputable def e190 : Env := envD eqsT [(123, g123)] [] [] [(107, g107), (253, g253)] [] false [107, 253]
theorem e190_ok : EnvOk PR e190 := envD_ok eqsT_ok (TabPOk.cons g123_ok TabPOk.nil) TabHOk.nil TabLOk.nil (TabDOk.cons n107 g107_ok (TabDOk.cons n253 g253_ok TabDOk.nil))
theorem cx190 : Ctx PR e190 [] (fun _ => none) 2000 190 := ctx_of e190_ok mixed (fn := Go.Proofs.Tryz.f190) (by kernel_rfl) (by kernel_rfl) (by kernel_rfl) (tabOk_none _)
theorem n190 : Enters PR 190 := enters_of (fn := Go.Proofs.Tryz.f190) (by kernel_rfl) (by kernel_rfl) (by kernel_rfl)
noncomputable def g190 : List AV → AH → Nat → Option (Bool × AV × AH) := deepC PR e190 5 2000 190 4096 true
theorem g190_ok : ActOk PR 4096 190 g190 := deepC_ok cx190 rfl rfl

/-! reliquary/proof.challenge -/
noncomputable def e116 : Env := envD eqsT [] [] [] [(189, g189), (190, g190)] [] false [189, 190]
theorem e116_ok : EnvOk PR e116 := envD_ok eqsT_ok TabPOk.nil TabHOk.nil TabLOk.nil (TabDOk.cons n189 g189_ok (TabDOk.cons n190 g190_ok TabDOk.nil))
theorem cx116 : Ctx PR e116 [] (fun _ => none) 2000 116 := ctx_of e116_ok mixed (fn := Go.Proofs.Tryz.f116) (by kernel_rfl) (by kernel_rfl) (by kernel_rfl) (tabOk_none _)
theorem n116 : Enters PR 116 := enters_of (fn := Go.Proofs.Tryz.f116) (by kernel_rfl) (by kernel_rfl) (by kernel_rfl)
noncomputable def g116 : List AV → AH → Nat → Option (Bool × AV × AH) := deepC PR e116 6 2000 116 4096 true
theorem g116_ok : ActOk PR 4096 116 g116 := deepC_ok cx116 rfl rfl

/-! reliquary/suite.scalars -/
noncomputable def e197 : Env := envD eqsT [(98, (fn2 c6.agg c6.agg (kInt .i64) fun a b => chainV (cmpL a b) 0)), (104, g104), (123, g123)] [] [(179, (layP kMd 291 cFa 0 modS))] [] [] false []
theorem e197_ok : EnvOk PR e197 := envD_ok eqsT_ok (TabPOk.cons cmp_ok (TabPOk.cons g104_ok (TabPOk.cons g123_ok TabPOk.nil))) TabHOk.nil (TabLOk.cons nw_ent newS_okL TabLOk.nil) TabDOk.nil
theorem cx197 : Ctx PR e197 [] (fun _ => none) 2000 197 := ctx_of e197_ok mixed (fn := Go.Proofs.Tryz.f197) (by kernel_rfl) (by kernel_rfl) (by kernel_rfl) (tabOk_none _)
theorem n197 : Enters PR 197 := enters_of (fn := Go.Proofs.Tryz.f197) (by kernel_rfl) (by kernel_rfl) (by kernel_rfl)
noncomputable def g197 : List AV → AH → Nat → Option (Bool × AV × AH) := deepC PR e197 5 2000 197 4096 true
theorem g197_ok : ActOk PR 4096 197 g197 := deepC_ok cx197 rfl rfl

/-! reliquary/suite.Sub$1 -/
noncomputable def e195 : Env := envD eqsT [] [(196, (rdp 291 cFa (mc2 c6.agg c6.agg) c6.agg (fun m x => qsubW m x.1 x.2)))] [] [] [] false [196]
theorem e195_ok : EnvOk PR e195 := envD_ok eqsT_ok TabPOk.nil (TabHOk.cons qsub_ent qsub_ok TabHOk.nil) TabLOk.nil TabDOk.nil
theorem cx195 : Ctx PR e195 [] (fun _ => none) 2000 195 := ctx_of e195_ok mixed (fn := Go.Proofs.Tryz.f195) (by kernel_rfl) (by kernel_rfl) (by kernel_rfl) (tabOk_none _)
theorem n195 : Enters PR 195 := enters_of (fn := Go.Proofs.Tryz.f195) (by kernel_rfl) (by kernel_rfl) (by kernel_rfl)
noncomputable def g195 : List AV → AH → Nat → Option (Bool × AV × AH) := deepC PR e195 4 2000 195 4096 true
theorem g195_ok : ActOk PR 4096 195 g195 := deepC_ok cx195 rfl rfl

/-! reliquary/suite.Mul$1 -/
noncomputable def e199 : Env := envD eqsT [] [(200, (rdp 291 cFa (mc2 c6.agg c6.agg) c6.agg (fun m x => qmulW m x.1 x.2)))] [] [] [] false [200]
theorem e199_ok : EnvOk PR e199 := envD_ok eqsT_ok TabPOk.nil (TabHOk.cons qmul_ent qmul_ok TabHOk.nil) TabLOk.nil TabDOk.nil
theorem cx199 : Ctx PR e199 [] (fun _ => none) 2000 199 := ctx_of e199_ok mixed (fn := Go.Proofs.Tryz.f199) (by kernel_rfl) (by kernel_rfl) (by kernel_rfl) (tabOk_none _)
theorem n199 : Enters PR 199 := enters_of (fn := Go.Proofs.Tryz.f199) (by kernel_rfl) (by kernel_rfl) (by kernel_rfl)
noncomputable def g199 : List AV → AH → Nat → Option (Bool × AV × AH) := deepC PR e199 4 2000 199 4096 true
theorem g199_ok : ActOk PR 4096 199 g199 := deepC_ok cx199 rfl rfl

/-! reliquary/suite.Add$1 -/
noncomputable def e254 : Env := envD eqsT [] [(176, (rdp 291 cFa (mc2 c6.agg c6.agg) c6.agg (fun m x => qaddW m x.1 x.2)))] [] [] [] false [176]
theorem e254_ok : EnvOk PR e254 := envD_ok eqsT_ok TabPOk.nil (TabHOk.cons qadd_ent qadd_ok TabHOk.nil) TabLOk.nil TabDOk.nil
theorem cx254 : Ctx PR e254 [] (fun _ => none) 2000 254 := ctx_of e254_ok mixed (fn := Go.Proofs.Tryz.f254) (by kernel_rfl) (by kernel_rfl) (by kernel_rfl) (tabOk_none _)
theorem n254 : Enters PR 254 := enters_of (fn := Go.Proofs.Tryz.f254) (by kernel_rfl) (by kernel_rfl) (by kernel_rfl)
noncomputable def g254 : List AV → AH → Nat → Option (Bool × AV × AH) := deepC PR e254 4 2000 254 4096 true
theorem g254_ok : ActOk PR 4096 254 g254 := deepC_ok cx254 rfl rfl

/-! reliquary/suite.done -/
noncomputable def e194 : Env := envD eqsT [] [] [] [(197, g197), (195, g195), (199, g199), (254, g254)] [] false [197, 195, 199, 254]
theorem e194_ok : EnvOk PR e194 := envD_ok eqsT_ok TabPOk.nil TabHOk.nil TabLOk.nil (TabDOk.cons n197 g197_ok (TabDOk.cons n195 g195_ok (TabDOk.cons n199 g199_ok (TabDOk.cons n254 g254_ok TabDOk.nil))))
theorem cx194 : Ctx PR e194 [] (fun _ => none) 2000 194 := ctx_of e194_ok mixed (fn := Go.Proofs.Tryz.f194) (by kernel_rfl) (by kernel_rfl) (by kernel_rfl) (tabOk_none _)
theorem n194 : Enters PR 194 := enters_of (fn := Go.Proofs.Tryz.f194) (by kernel_rfl) (by kernel_rfl) (by kernel_rfl)
noncomputable def g194 : List AV → AH → Nat → Option (Bool × AV × AH) := deepC PR e194 5 2000 194 4096 true
theorem g194_ok : ActOk PR 4096 194 g194 := deepC_ok cx194 rfl rfl

/-! reliquary/suite.Mul -/
noncomputable def e122 : Env := envD eqsT [] [] [] [(194, g194)] [] false [194]
theorem e122_ok : EnvOk PR e122 := envD_ok eqsT_ok TabPOk.nil TabHOk.nil TabLOk.nil (TabDOk.cons n194 g194_ok TabDOk.nil)
theorem cx122 : Ctx PR e122 [] (fun _ => none) 2000 122 := ctx_of e122_ok mixed (fn := Go.Proofs.Tryz.f122) (by kernel_rfl) (by kernel_rfl) (by kernel_rfl) (tabOk_none _)
theorem n122 : Enters PR 122 := enters_of (fn := Go.Proofs.Tryz.f122) (by kernel_rfl) (by kernel_rfl) (by kernel_rfl)
noncomputable def g122 : List AV → Option (Bool × AV) := (inlineC PR e122 4 2000 122)
theorem g122_ok : CallOk PR 122 g122 := (.inl ⟨n122, inlineC_ok cx122 rfl rfl⟩)

/-! reliquary/suite.Add -/
noncomputable def e191 : Env := envD eqsT [] [] [] [(194, g194)] [] false [194]
theorem e191_ok : EnvOk PR e191 := envD_ok eqsT_ok TabPOk.nil TabHOk.nil TabLOk.nil (TabDOk.cons n194 g194_ok TabDOk.nil)
theorem cx191 : Ctx PR e191 [] (fun _ => none) 2000 191 := ctx_of e191_ok mixed (fn := Go.Proofs.Tryz.f191) (by kernel_rfl) (by kernel_rfl) (by kernel_rfl) (tabOk_none _)
theorem n191 : Enters PR 191 := enters_of (fn := Go.Proofs.Tryz.f191) (by kernel_rfl) (by kernel_rfl) (by kernel_rfl)
noncomputable def g191 : List AV → Option (Bool × AV) := (inlineC PR e191 4 2000 191)
theorem g191_ok : CallOk PR 191 g191 := (.inl ⟨n191, inlineC_ok cx191 rfl rfl⟩)

/-! reliquary/proof.answer -/
noncomputable def e117 : Env := envD eqsT [(122, g122), (191, g191)] [] [] [] [] false []
theorem e117_ok : EnvOk PR e117 := envD_ok eqsT_ok (TabPOk.cons g122_ok (TabPOk.cons g191_ok TabPOk.nil)) TabHOk.nil TabLOk.nil TabDOk.nil
theorem cx117 : Ctx PR e117 [] (fun _ => none) 2000 117 := ctx_of e117_ok mixed (fn := Go.Proofs.Tryz.f117) (by kernel_rfl) (by kernel_rfl) (by kernel_rfl) (tabOk_none _)
theorem n117 : Enters PR 117 := enters_of (fn := Go.Proofs.Tryz.f117) (by kernel_rfl) (by kernel_rfl) (by kernel_rfl)
noncomputable def g117 : List AV → Option (Bool × AV) := (inlineC PR e117 5 2000 117)
theorem g117_ok : CallOk PR 117 g117 := (.inl ⟨n117, inlineC_ok cx117 rfl rfl⟩)

/-! reliquary/proof.Know -/
noncomputable def e26 : Env := envD eqsT [(115, g115), (117, g117)] [] [] [(114, g114), (116, g116)] [] false [114, 116]
theorem e26_ok : EnvOk PR e26 := envD_ok eqsT_ok (TabPOk.cons g115_ok (TabPOk.cons g117_ok TabPOk.nil)) TabHOk.nil TabLOk.nil (TabDOk.cons n114 g114_ok (TabDOk.cons n116 g116_ok TabDOk.nil))
theorem cx26 : Ctx PR e26 [] (fun _ => none) 2000 26 := ctx_of e26_ok mixed (fn := Go.Proofs.Tryz.f26) (by kernel_rfl) (by kernel_rfl) (by kernel_rfl) (tabOk_none _)
theorem n26 : Enters PR 26 := enters_of (fn := Go.Proofs.Tryz.f26) (by kernel_rfl) (by kernel_rfl) (by kernel_rfl)
end Go.Rq
