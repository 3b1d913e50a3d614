/- A closed law's functions, each gone through where it is called. Written by a program of ours. -/
import Derived.Test.YtcboekjnibppdaaGreatDoorRq43
namespace Go.Rq
open Go Go.Proofs
def md67_0 : List AV × AV := ([], .v (.bool true))
set_option maxRecDepth 1000000 in
theorem mf67_0 : canQ (inlineC PR e67 5 2000 67) md67_0.1 = some (true, md67_0.2) := by kernel_rfl
end Go.Rq

/- A closed law's functions, each gone through where it is called. Written by a program of ours. -/
namespace Go.Rq
open Go Go.Proofs

def mt67 : List (List AV × AV) := [md67_0]
theorem mt67_ok : ∀ p ∈ mt67, canQ (inlineC PR e67 5 2000 67) p.1 = some (true, p.2) := fun p hp => by
  rcases List.mem_cons.1 hp with rfl | hp
  · exact mf67_0
  cases hp
noncomputable def g67 : List AV → Option (Bool × AV) := canP (memoE (canQ (inlineC PR e67 5 2000 67)) mt67)
theorem g67_ok : CallOk PR 67 g67 := canP_ok (memoE_ok (canQ_ok (.inl ⟨n67, inlineC_ok cx67 rfl rfl⟩)) mt67_ok)

/-! reliquary/reliquarylaw23.RefreshKnown -/
noncomputable def e9 : Env := envD eqsT [(16, (fn1 kU c6.agg ofW)), (23, g23), (25, g25), (67, g67)] [] [] [(13, g13), (60, g60), (61, g61), (62, g62), (63, g63), (64, g64), (65, g65), (66, g66), (68, g68)] [] false [13, 60, 61, 63, 64, 65, 66]
theorem e9_ok : EnvOk PR e9 := envD_ok eqsT_ok (TabPOk.cons of_ok (TabPOk.cons g23_ok (TabPOk.cons g25_ok (TabPOk.cons g67_ok TabPOk.nil)))) TabHOk.nil TabLOk.nil (TabDOk.cons n13 g13_ok (TabDOk.cons n60 g60_ok (TabDOk.cons n61 g61_ok (TabDOk.cons n62 g62_ok (TabDOk.cons n63 g63_ok (TabDOk.cons n64 g64_ok (TabDOk.cons n65 g65_ok (TabDOk.cons n66 g66_ok (TabDOk.cons n68 g68_ok TabDOk.nil)))))))))
theorem cx9 : Ctx PR e9 [] (fun _ => none) 2000 9 := ctx_of e9_ok mixed (fn := Go.Proofs.Tryz.f9) (by kernel_rfl) (by kernel_rfl) (by kernel_rfl) (tabOk_none _)
theorem n9 : Enters PR 9 := enters_of (fn := Go.Proofs.Tryz.f9) (by kernel_rfl) (by kernel_rfl) (by kernel_rfl)
noncomputable def g9 : List AV → Option (Bool × AV) := (inlineC PR e9 8 2000 9)
theorem g9_ok : CallOk PR 9 g9 := (.inl ⟨n9, inlineC_ok cx9 rfl rfl⟩)

/-! reliquary/share.known -/
noncomputable def e259 : Env := envD eqsT [(34, g34)] [] [] [] [] false []
theorem e259_ok : EnvOk PR e259 := envD_ok eqsT_ok (TabPOk.cons g34_ok TabPOk.nil) TabHOk.nil TabLOk.nil TabDOk.nil
theorem cx259 : Ctx PR e259 [] (fun _ => none) 2000 259 := ctx_of e259_ok mixed (fn := Go.Proofs.Tryz.f259) (by kernel_rfl) (by kernel_rfl) (by kernel_rfl) (tabOk_none _)
theorem n259 : Enters PR 259 := enters_of (fn := Go.Proofs.Tryz.f259) (by kernel_rfl) (by kernel_rfl) (by kernel_rfl)
noncomputable def g259 : List AV → Option (Bool × AV) := (inlineC PR e259 4 2000 259)
theorem g259_ok : CallOk PR 259 g259 := (.inl ⟨n259, inlineC_ok cx259 rfl rfl⟩)

/-! reliquary/share.scalars -/
noncomputable def e260 : Env := envD eqsT [(34, g34)] [] [] [(218, g218)] [] false [218]
theorem e260_ok : EnvOk PR e260 := envD_ok eqsT_ok (TabPOk.cons g34_ok TabPOk.nil) TabHOk.nil TabLOk.nil (TabDOk.cons n218 g218_ok TabDOk.nil)
theorem cx260 : Ctx PR e260 [] (fun _ => none) 2000 260 := ctx_of e260_ok mixed (fn := Go.Proofs.Tryz.f260) (by kernel_rfl) (by kernel_rfl) (by kernel_rfl) (tabOk_none _)
theorem n260 : Enters PR 260 := enters_of (fn := Go.Proofs.Tryz.f260) (by kernel_rfl) (by kernel_rfl) (by kernel_rfl)
noncomputable def g260 : List AV → AH → Nat → Option (Bool × AV × AH) := deepC PR e260 4 2000 260 4096 true
theorem g260_ok : ActOk PR 4096 260 g260 := deepC_ok cx260 rfl rfl

/-! reliquary/share.shares -/
noncomputable def e203 : Env := envD eqsT [(259, g259)] [] [] [(260, g260), (261, g261)] [] false [260, 261]
theorem e203_ok : EnvOk PR e203 := envD_ok eqsT_ok (TabPOk.cons g259_ok TabPOk.nil) TabHOk.nil TabLOk.nil (TabDOk.cons n260 g260_ok (TabDOk.cons n261 g261_ok TabDOk.nil))
theorem cx203 : Ctx PR e203 [] (fun _ => none) 2000 203 := ctx_of e203_ok mixed (fn := Go.Proofs.Tryz.f203) (by kernel_rfl) (by kernel_rfl) (by kernel_rfl) (tabOk_none _)
theorem n203 : Enters PR 203 := enters_of (fn := Go.Proofs.Tryz.f203) (by kernel_rfl) (by kernel_rfl) (by kernel_rfl)
noncomputable def g203 : List AV → AH → Nat → Option (Bool × AV × AH) := deepC PR e203 5 2000 203 4096 true
theorem g203_ok : ActOk PR 4096 203 g203 := deepC_ok cx203 rfl rfl

/-! (reliquary/share.field).add -/
noncomputable def e263 : Env := envD eqsT [(191, g191)] [] [] [] [] false []
theorem e263_ok : EnvOk PR e263 := envD_ok eqsT_ok (TabPOk.cons g191_ok TabPOk.nil) TabHOk.nil TabLOk.nil TabDOk.nil
theorem cx263 : Ctx PR e263 [] (fun _ => none) 2000 263 := ctx_of e263_ok mixed (fn := Go.Proofs.Tryz.f263) (by kernel_rfl) (by kernel_rfl) (by kernel_rfl) (tabOk_none _)
theorem n263 : Enters PR 263 := enters_of (fn := Go.Proofs.Tryz.f263) (by kernel_rfl) (by kernel_rfl) (by kernel_rfl)
noncomputable def g263 : List AV → Option (Bool × AV) := (inlineC PR e263 5 2000 263)
theorem g263_ok : CallOk PR 263 g263 := (.inl ⟨n263, inlineC_ok cx263 rfl rfl⟩)

/-! (reliquary/share.field).join -/
noncomputable def e204 : Env := envD eqsT [(263, g263), (264, g264)] [] [] [(262, g262)] [] false [262]
theorem e204_ok : EnvOk PR e204 := envD_ok eqsT_ok (TabPOk.cons g263_ok (TabPOk.cons g264_ok TabPOk.nil)) TabHOk.nil TabLOk.nil (TabDOk.cons n262 g262_ok TabDOk.nil)
theorem cx204 : Ctx PR e204 [] (fun _ => none) 2000 204 := ctx_of e204_ok mixed (fn := Go.Proofs.Tryz.f204) (by kernel_rfl) (by kernel_rfl) (by kernel_rfl) (tabOk_none _)
theorem n204 : Enters PR 204 := enters_of (fn := Go.Proofs.Tryz.f204) (by kernel_rfl) (by kernel_rfl) (by kernel_rfl)
noncomputable def g204 : List AV → AH → Nat → Option (Bool × AV × AH) := deepC PR e204 6 2000 204 4096 true
theorem g204_ok : ActOk PR 4096 204 g204 := deepC_ok cx204 rfl rfl

/-! reliquary/share.Join -/
noncomputable def e126 : Env := envD eqsT [] [] [] [(203, g203), (204, g204)] [] false [203, 204]
theorem e126_ok : EnvOk PR e126 := envD_ok eqsT_ok TabPOk.nil TabHOk.nil TabLOk.nil (TabDOk.cons n203 g203_ok (TabDOk.cons n204 g204_ok TabDOk.nil))
theorem cx126 : Ctx PR e126 [] (fun _ => none) 2000 126 := ctx_of e126_ok mixed (fn := Go.Proofs.Tryz.f126) (by kernel_rfl) (by kernel_rfl) (by kernel_rfl) (tabOk_none _)
theorem n126 : Enters PR 126 := enters_of (fn := Go.Proofs.Tryz.f126) (by kernel_rfl) (by kernel_rfl) (by kernel_rfl)
end Go.Rq

/- A closed law's functions, each gone through where it is called. Written by a program of ours. -/
namespace Go.Rq
open Go Go.Proofs

def mt126 : List MemD := []
theorem mt126_ok : MemOk PR e126 5 2000 126 mt126 := MemOk.nil
noncomputable def g126 : List AV → AH → Nat → Option (Bool × AV × AH) := canG (memoD mt126 (deepC2 PR e126 5 2000 126 4096 true))
theorem g126_ok : ActOk PR 4096 126 g126 := memoD_ok cx126 rfl rfl mt126_ok (by kernel_rfl)

/-! (*reliquary/dkg.Session).Recover -/
noncomputable def e80 : Env := envD eqsT [] [] [] [(86, g86), (126, g126), (152, g152)] [] false [86, 126, 152]
theorem e80_ok : EnvOk PR e80 := envD_ok eqsT_ok TabPOk.nil TabHOk.nil TabLOk.nil (TabDOk.cons n86 g86_ok (TabDOk.cons n126 g126_ok (TabDOk.cons n152 g152_ok TabDOk.nil)))
theorem cx80 : Ctx PR e80 [] (fun _ => none) 2000 80 := ctx_of e80_ok mixed (fn := Go.Proofs.Tryz.f80) (by kernel_rfl) (by kernel_rfl) (by kernel_rfl) (tabOk_none _)
theorem n80 : Enters PR 80 := enters_of (fn := Go.Proofs.Tryz.f80) (by kernel_rfl) (by kernel_rfl) (by kernel_rfl)
noncomputable def g80 : List AV → AH → Nat → Option (Bool × AV × AH) := deepC PR e80 7 2000 80 4096 true
theorem g80_ok : ActOk PR 4096 80 g80 := deepC_ok cx80 rfl rfl

/-! (*reliquary/refresh.Session).Recover -/
noncomputable def e88 : Env := envD eqsT [] [] [] [(80, g80), (145, g145)] [] false [80, 145]
theorem e88_ok : EnvOk PR e88 := envD_ok eqsT_ok TabPOk.nil TabHOk.nil TabLOk.nil (TabDOk.cons n80 g80_ok (TabDOk.cons n145 g145_ok TabDOk.nil))
theorem cx88 : Ctx PR e88 [] (fun _ => none) 2000 88 := ctx_of e88_ok mixed (fn := Go.Proofs.Tryz.f88) (by kernel_rfl) (by kernel_rfl) (by kernel_rfl) (tabOk_none _)
theorem n88 : Enters PR 88 := enters_of (fn := Go.Proofs.Tryz.f88) (by kernel_rfl) (by kernel_rfl) (by kernel_rfl)
noncomputable def g88 : List AV → AH → Nat → Option (Bool × AV × AH) := deepC PR e88 5 2000 88 4096 true
theorem g88_ok : ActOk PR 4096 88 g88 := deepC_ok cx88 rfl rfl

/-! slices.DeleteFunc[[]int,int] -/
noncomputable def e162 : Env := envD eqsT [] [] [] [(224, g224), (163, g163)] [] false [224, 163]
theorem e162_ok : EnvOk PR e162 := envD_ok eqsT_ok TabPOk.nil TabHOk.nil TabLOk.nil (TabDOk.cons n224 g224_ok (TabDOk.cons n163 g163_ok TabDOk.nil))
theorem cx162 : Ctx PR e162 [] (fun _ => none) 2000 162 := ctx_of e162_ok mixed (fn := Go.Proofs.Tryz.f162) (by kernel_rfl) (by kernel_rfl) (by kernel_rfl) (tabOk_none _)
theorem n162 : Enters PR 162 := enters_of (fn := Go.Proofs.Tryz.f162) (by kernel_rfl) (by kernel_rfl) (by kernel_rfl)
noncomputable def g162 : List AV → AH → Nat → Option (Bool × AV × AH) := deepC PR e162 6 2000 162 4096 false
theorem g162_ok : ActOk PR 4096 162 g162 := deepC_ok cx162 rfl rfl

/-! (*reliquary/dkg.Session).Accuse -/
noncomputable def e79 : Env := envD eqsT [] [] [] [(152, g152), (158, g158), (162, g162)] [] false [152, 158]
theorem e79_ok : EnvOk PR e79 := envD_ok eqsT_ok TabPOk.nil TabHOk.nil TabLOk.nil (TabDOk.cons n152 g152_ok (TabDOk.cons n158 g158_ok (TabDOk.cons n162 g162_ok TabDOk.nil)))
theorem cx79 : Ctx PR e79 [] (fun _ => none) 2000 79 := ctx_of e79_ok mixed (fn := Go.Proofs.Tryz.f79) (by kernel_rfl) (by kernel_rfl) (by kernel_rfl) (tabOk_none _)
theorem n79 : Enters PR 79 := enters_of (fn := Go.Proofs.Tryz.f79) (by kernel_rfl) (by kernel_rfl) (by kernel_rfl)
noncomputable def g79 : List AV → AH → Nat → Option (Bool × AV × AH) := deepC PR e79 6 2000 79 4096 false
theorem g79_ok : ActOk PR 4096 79 g79 := deepC_ok cx79 rfl rfl

/-! (*reliquary/refresh.Session).Accuse -/
noncomputable def e93 : Env := envD eqsT [] [] [] [(79, g79), (145, g145)] [] false [145]
theorem e93_ok : EnvOk PR e93 := envD_ok eqsT_ok TabPOk.nil TabHOk.nil TabLOk.nil (TabDOk.cons n79 g79_ok (TabDOk.cons n145 g145_ok TabDOk.nil))
theorem cx93 : Ctx PR e93 [] (fun _ => none) 2000 93 := ctx_of e93_ok mixed (fn := Go.Proofs.Tryz.f93) (by kernel_rfl) (by kernel_rfl) (by kernel_rfl) (tabOk_none _)
theorem n93 : Enters PR 93 := enters_of (fn := Go.Proofs.Tryz.f93) (by kernel_rfl) (by kernel_rfl) (by kernel_rfl)
noncomputable def g93 : List AV → AH → Nat → Option (Bool × AV × AH) := deepC PR e93 4 2000 93 4096 false
theorem g93_ok : ActOk PR 4096 93 g93 := deepC_ok cx93 rfl rfl

/-! (*reliquary/dkg.Session).scalars -/
noncomputable def e153 : Env := envD eqsT [(34, g34)] [] [] [(218, g218)] [] false [218]
theorem e153_ok : EnvOk PR e153 := envD_ok eqsT_ok (TabPOk.cons g34_ok TabPOk.nil) TabHOk.nil TabLOk.nil (TabDOk.cons n218 g218_ok TabDOk.nil)
theorem cx153 : Ctx PR e153 [] (fun _ => none) 2000 153 := ctx_of e153_ok mixed (fn := Go.Proofs.Tryz.f153) (by kernel_rfl) (by kernel_rfl) (by kernel_rfl) (tabOk_none _)
theorem n153 : Enters PR 153 := enters_of (fn := Go.Proofs.Tryz.f153) (by kernel_rfl) (by kernel_rfl) (by kernel_rfl)
noncomputable def g153 : List AV → AH → Nat → Option (Bool × AV × AH) := deepC PR e153 5 2000 153 4096 true
theorem g153_ok : ActOk PR 4096 153 g153 := deepC_ok cx153 rfl rfl

/-! (*reliquary/dkg.Session).Open$1 -/
noncomputable def e161 : Env := envD eqsT [] [] [] [] [] false []
theorem e161_ok : EnvOk PR e161 := envD_ok eqsT_ok TabPOk.nil TabHOk.nil TabLOk.nil TabDOk.nil
theorem cx161 : Ctx PR e161 [] (fun _ => none) 2000 161 := ctx_of e161_ok mixed (fn := Go.Proofs.Tryz.f161) (by kernel_rfl) (by kernel_rfl) (by kernel_rfl) (tabOk_none _)
theorem n161 : Enters PR 161 := enters_of (fn := Go.Proofs.Tryz.f161) (by kernel_rfl) (by kernel_rfl) (by kernel_rfl)
noncomputable def g161 : List AV → AH → Nat → Option (Bool × AV × AH) := deepC PR e161 3 2000 161 4096 true
theorem g161_ok : ActOk PR 4096 161 g161 := deepC_ok cx161 rfl rfl

/-! slices.IndexFunc[[]reliquary/dkg.part,reliquary/dkg.part] -/
noncomputable def e223 : Env := envD eqsT [] [] [] [(161, g161)] [] false [161]
theorem e223_ok : EnvOk PR e223 := envD_ok eqsT_ok TabPOk.nil TabHOk.nil TabLOk.nil (TabDOk.cons n161 g161_ok TabDOk.nil)
theorem cx223 : Ctx PR e223 [] (fun _ => none) 2000 223 := ctx_of e223_ok mixed (fn := Go.Proofs.Tryz.f223) (by kernel_rfl) (by kernel_rfl) (by kernel_rfl) (tabOk_none _)
theorem n223 : Enters PR 223 := enters_of (fn := Go.Proofs.Tryz.f223) (by kernel_rfl) (by kernel_rfl) (by kernel_rfl)
noncomputable def g223 : List AV → AH → Nat → Option (Bool × AV × AH) := deepC PR e223 5 2000 223 4096 true
theorem g223_ok : ActOk PR 4096 223 g223 := deepC_ok cx223 rfl rfl

/-! slices.ContainsFunc[[]reliquary/dkg.part,reliquary/dkg.part] -/
noncomputable def e160 : Env := envD eqsT [] [] [] [(223, g223)] [] false [223]
theorem e160_ok : EnvOk PR e160 := envD_ok eqsT_ok TabPOk.nil TabHOk.nil TabLOk.nil (TabDOk.cons n223 g223_ok TabDOk.nil)
theorem cx160 : Ctx PR e160 [] (fun _ => none) 2000 160 := ctx_of e160_ok mixed (fn := Go.Proofs.Tryz.f160) (by kernel_rfl) (by kernel_rfl) (by kernel_rfl) (tabOk_none _)
theorem n160 : Enters PR 160 := enters_of (fn := Go.Proofs.Tryz.f160) (by kernel_rfl) (by kernel_rfl) (by kernel_rfl)
noncomputable def g160 : List AV → AH → Nat → Option (Bool × AV × AH) := deepC PR e160 4 2000 160 4096 true
theorem g160_ok : ActOk PR 4096 160 g160 := deepC_ok cx160 rfl rfl

/-! (*reliquary/dkg.Session).Open -/
noncomputable def e78 : Env := envD eqsT [] [] [] [(20, g20), (152, g152), (153, g153), (160, g160)] [] false [20, 152, 153, 160]
theorem e78_ok : EnvOk PR e78 := envD_ok eqsT_ok TabPOk.nil TabHOk.nil TabLOk.nil (TabDOk.cons n20 g20_ok (TabDOk.cons n152 g152_ok (TabDOk.cons n153 g153_ok (TabDOk.cons n160 g160_ok TabDOk.nil))))
theorem cx78 : Ctx PR e78 [] (fun _ => none) 2000 78 := ctx_of e78_ok mixed (fn := Go.Proofs.Tryz.f78) (by kernel_rfl) (by kernel_rfl) (by kernel_rfl) (tabOk_none _)
theorem n78 : Enters PR 78 := enters_of (fn := Go.Proofs.Tryz.f78) (by kernel_rfl) (by kernel_rfl) (by kernel_rfl)
noncomputable def g78 : List AV → AH → Nat → Option (Bool × AV × AH) := deepC PR e78 7 2000 78 4096 false
theorem g78_ok : ActOk PR 4096 78 g78 := deepC_ok cx78 rfl rfl

/-! (*reliquary/refresh.Session).Open -/
noncomputable def e94 : Env := envD eqsT [] [] [] [(78, g78), (145, g145)] [] false [145]
theorem e94_ok : EnvOk PR e94 := envD_ok eqsT_ok TabPOk.nil TabHOk.nil TabLOk.nil (TabDOk.cons n78 g78_ok (TabDOk.cons n145 g145_ok TabDOk.nil))
theorem cx94 : Ctx PR e94 [] (fun _ => none) 2000 94 := ctx_of e94_ok mixed (fn := Go.Proofs.Tryz.f94) (by kernel_rfl) (by kernel_rfl) (by kernel_rfl) (tabOk_none _)
theorem n94 : Enters PR 94 := enters_of (fn := Go.Proofs.Tryz.f94) (by kernel_rfl) (by kernel_rfl) (by kernel_rfl)
noncomputable def g94 : List AV → AH → Nat → Option (Bool × AV × AH) := deepC PR e94 5 2000 94 4096 false
theorem g94_ok : ActOk PR 4096 94 g94 := deepC_ok cx94 rfl rfl

/-! reliquary/reliquarylaw23.RefreshNone -/
noncomputable def e12 : Env := envD eqsT [(67, g67)] [] [] [(61, g61), (63, g63), (65, g65), (68, g68), (88, g88), (89, g89), (90, g90), (91, g91), (92, g92), (93, g93), (94, g94), (95, g95), (96, g96), (97, g97)] [] false [61, 63, 65, 88, 89, 90, 91, 96, 97]
theorem e12_ok : EnvOk PR e12 := envD_ok eqsT_ok (TabPOk.cons g67_ok TabPOk.nil) TabHOk.nil TabLOk.nil (TabDOk.cons n61 g61_ok (TabDOk.cons n63 g63_ok (TabDOk.cons n65 g65_ok (TabDOk.cons n68 g68_ok (TabDOk.cons n88 g88_ok (TabDOk.cons n89 g89_ok (TabDOk.cons n90 g90_ok (TabDOk.cons n91 g91_ok (TabDOk.cons n92 g92_ok (TabDOk.cons n93 g93_ok (TabDOk.cons n94 g94_ok (TabDOk.cons n95 g95_ok (TabDOk.cons n96 g96_ok (TabDOk.cons n97 g97_ok TabDOk.nil))))))))))))))
theorem cx12 : Ctx PR e12 [] (fun _ => none) 2000 12 := ctx_of e12_ok mixed (fn := Go.Proofs.Tryz.f12) (by kernel_rfl) (by kernel_rfl) (by kernel_rfl) (tabOk_none _)
theorem n12 : Enters PR 12 := enters_of (fn := Go.Proofs.Tryz.f12) (by kernel_rfl) (by kernel_rfl) (by kernel_rfl)
noncomputable def g12 : List AV → AH → Nat → Option (Bool × AV × AH) := deepC PR e12 8 2000 12 4096 true
theorem g12_ok : ActOk PR 4096 12 g12 := deepC_ok cx12 rfl rfl
end Go.Rq

/- The law RefreshKnown, run through at once. -/
namespace Go.Rq
open Go Go.Proofs
theorem law_pure : PureOk PR 9 g9 := inlineC_ok cx9 rfl rfl
set_option maxRecDepth 1000000 in
theorem law_run : g9 [] = some (true, .v (.bool true)) := by kernel_rfl
end Go.Rq
