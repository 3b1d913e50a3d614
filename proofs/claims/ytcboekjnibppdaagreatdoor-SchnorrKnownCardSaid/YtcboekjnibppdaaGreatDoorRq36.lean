/- A closed law's functions, each gone through where it is called. Written by a program of ours. -/
import Derived.Test.YtcboekjnibppdaaGreatDoorRq35
namespace Go.Rq
open Go Go.Proofs
def md41_0 : List AV × AV := ([], .v (.bool true))
set_option maxRecDepth 1000000 in
theorem mf41_0 : canQ (inlineC PR e41 6 2000 41) md41_0.1 = some (true, md41_0.2) := by kernel_rfl
end Go.Rq

/- A closed law's functions, each gone through where it is called. Written by a program of ours. -/
namespace Go.Rq
open Go Go.Proofs

def mt41 : List (List AV × AV) := [md41_0]
theorem mt41_ok : ∀ p ∈ mt41, canQ (inlineC PR e41 6 2000 41) p.1 = some (true, p.2) := fun p hp => by
  rcases List.mem_cons.1 hp with rfl | hp
  · exact mf41_0
  cases hp
noncomputable def g41 : List AV → Option (Bool × AV) := canP (memoE (canQ (inlineC PR e41 6 2000 41)) mt41)
theorem g41_ok : CallOk PR 41 g41 := canP_ok (memoE_ok (canQ_ok (.inl ⟨n41, inlineC_ok cx41 rfl rfl⟩)) mt41_ok)

/-! reliquary/words.Divide -/
noncomputable def e205 : Env := envD eqsT [(98, (fn2 c6.agg c6.agg (kInt .i64) fun a b => chainV (cmpL a b) 0)), (240, (fn1 c6.agg (kInt .i64) lenI)), (241, g241), (257, (fn2 c6.agg c6.agg kWB wSubW)), (265, (fn2 c6.agg (kInt .i64) (kInt .i64) bitI))] [] [] [] [] false []
theorem e205_ok : EnvOk PR e205 := envD_ok eqsT_ok (TabPOk.cons cmp_ok (TabPOk.cons len_ok (TabPOk.cons g241_ok (TabPOk.cons wsub_ok (TabPOk.cons bit_ok TabPOk.nil))))) TabHOk.nil TabLOk.nil TabDOk.nil
theorem cx205 : Ctx PR e205 [] (fun _ => none) 2000 205 := ctx_of e205_ok mixed (fn := Go.Proofs.Tryz.f205) (by kernel_rfl) (by kernel_rfl) (by kernel_rfl) (tabOk_none _)
theorem n205 : Enters PR 205 := enters_of (fn := Go.Proofs.Tryz.f205) (by kernel_rfl) (by kernel_rfl) (by kernel_rfl)
noncomputable def g205 : List AV → Option (Bool × AV) := (inlineC PR e205 6 2000 205)
theorem g205_ok : CallOk PR 205 g205 := (.inl ⟨n205, inlineC_ok cx205 rfl rfl⟩)

/-! (reliquary/reliquarylaw24.Several).scalars -/
noncomputable def e129 : Env := envD eqsT [(34, g34), (205, g205)] [] [] [] [] false []
theorem e129_ok : EnvOk PR e129 := envD_ok eqsT_ok (TabPOk.cons g34_ok (TabPOk.cons g205_ok TabPOk.nil)) TabHOk.nil TabLOk.nil TabDOk.nil
theorem cx129 : Ctx PR e129 [] (fun _ => none) 2000 129 := ctx_of e129_ok mixed (fn := Go.Proofs.Tryz.f129) (by kernel_rfl) (by kernel_rfl) (by kernel_rfl) (tabOk_none _)
theorem n129 : Enters PR 129 := enters_of (fn := Go.Proofs.Tryz.f129) (by kernel_rfl) (by kernel_rfl) (by kernel_rfl)
noncomputable def g129 : List AV → AH → Nat → Option (Bool × AV × AH) := deepC PR e129 6 2000 129 4096 true
theorem g129_ok : ActOk PR 4096 129 g129 := deepC_ok cx129 rfl rfl

/-! reliquary/share.checked -/
noncomputable def e206 : Env := envD eqsT [(259, g259)] [] [] [(260, g260)] [] false [260]
theorem e206_ok : EnvOk PR e206 := envD_ok eqsT_ok (TabPOk.cons g259_ok TabPOk.nil) TabHOk.nil TabLOk.nil (TabDOk.cons n260 g260_ok TabDOk.nil)
theorem cx206 : Ctx PR e206 [] (fun _ => none) 2000 206 := ctx_of e206_ok mixed (fn := Go.Proofs.Tryz.f206) (by kernel_rfl) (by kernel_rfl) (by kernel_rfl) (tabOk_none _)
theorem n206 : Enters PR 206 := enters_of (fn := Go.Proofs.Tryz.f206) (by kernel_rfl) (by kernel_rfl) (by kernel_rfl)
noncomputable def g206 : List AV → AH → Nat → Option (Bool × AV × AH) := deepC PR e206 5 2000 206 4096 true
theorem g206_ok : ActOk PR 4096 206 g206 := deepC_ok cx206 rfl rfl

/-! reliquary/share.Split -/
noncomputable def e130 : Env := envD eqsT [(208, g208)] [(207, (valG (opOk g263) (opOk g264) (opF g263) (opF g264)))] [] [(206, g206)] [] false [206, 207]
theorem e130_ok : EnvOk PR e130 := envD_ok eqsT_ok (TabPOk.cons g208_ok TabPOk.nil) (TabHOk.cons val_ent (valG_ok (op_ok n263 (inlineC_ok cx263 rfl rfl)) (op_ok n264 (inlineC_ok cx264 rfl rfl))) TabHOk.nil) TabLOk.nil (TabDOk.cons n206 g206_ok TabDOk.nil)
theorem cx130 : Ctx PR e130 [] (fun _ => none) 2000 130 := ctx_of e130_ok mixed (fn := Go.Proofs.Tryz.f130) (by kernel_rfl) (by kernel_rfl) (by kernel_rfl) (tabOk_none _)
theorem n130 : Enters PR 130 := enters_of (fn := Go.Proofs.Tryz.f130) (by kernel_rfl) (by kernel_rfl) (by kernel_rfl)
noncomputable def g130 : List AV → AH → Nat → Option (Bool × AV × AH) := deepC PR e130 6 2000 130 4096 true
theorem g130_ok : ActOk PR 4096 130 g130 := deepC_ok cx130 rfl rfl

/-! (reliquary/reliquarylaw24.Several).shares -/
noncomputable def e43 : Env := envD eqsT [(23, g23), (25, g25), (125, g125)] [] [] [(129, g129), (130, g130)] [] false [129, 130]
theorem e43_ok : EnvOk PR e43 := envD_ok eqsT_ok (TabPOk.cons g23_ok (TabPOk.cons g25_ok (TabPOk.cons g125_ok TabPOk.nil))) TabHOk.nil TabLOk.nil (TabDOk.cons n129 g129_ok (TabDOk.cons n130 g130_ok TabDOk.nil))
theorem cx43 : Ctx PR e43 [] (fun _ => none) 2000 43 := ctx_of e43_ok mixed (fn := Go.Proofs.Tryz.f43) (by kernel_rfl) (by kernel_rfl) (by kernel_rfl) (tabOk_none _)
theorem n43 : Enters PR 43 := enters_of (fn := Go.Proofs.Tryz.f43) (by kernel_rfl) (by kernel_rfl) (by kernel_rfl)
noncomputable def g43 : List AV → AH → Nat → Option (Bool × AV × AH) := deepC PR e43 6 2000 43 4096 true
theorem g43_ok : ActOk PR 4096 43 g43 := deepC_ok cx43 rfl rfl

/-! slices.Concat[[]reliquary/api.Key,reliquary/api.Key] -/
noncomputable def e132 : Env := envD eqsT [] [] [(209, (growL 37 17))] [] [] false []
theorem e132_ok : EnvOk PR e132 := envD_ok eqsT_ok TabPOk.nil TabHOk.nil (TabLOk.cons grow_ent grow_ok TabLOk.nil) TabDOk.nil
theorem cx132 : Ctx PR e132 [] (fun _ => none) 2000 132 := ctx_of e132_ok mixed (fn := Go.Proofs.Tryz.f132) (by kernel_rfl) (by kernel_rfl) (by kernel_rfl) (tabOk_none _)
theorem n132 : Enters PR 132 := enters_of (fn := Go.Proofs.Tryz.f132) (by kernel_rfl) (by kernel_rfl) (by kernel_rfl)
noncomputable def g132 : List AV → AH → Nat → Option (Bool × AV × AH) := deepC PR e132 6 2000 132 4096 true
theorem g132_ok : ActOk PR 4096 132 g132 := deepC_ok cx132 rfl rfl

/-! slices.Clone[[]reliquary/api.Key,reliquary/api.Key] -/
noncomputable def e133 : Env := envD eqsT [] [] [] [] [] false []
theorem e133_ok : EnvOk PR e133 := envD_ok eqsT_ok TabPOk.nil TabHOk.nil TabLOk.nil TabDOk.nil
theorem cx133 : Ctx PR e133 [] (fun _ => none) 2000 133 := ctx_of e133_ok mixed (fn := Go.Proofs.Tryz.f133) (by kernel_rfl) (by kernel_rfl) (by kernel_rfl) (tabOk_none _)
theorem n133 : Enters PR 133 := enters_of (fn := Go.Proofs.Tryz.f133) (by kernel_rfl) (by kernel_rfl) (by kernel_rfl)
noncomputable def g133 : List AV → AH → Nat → Option (Bool × AV × AH) := deepC PR e133 3 2000 133 4096 true
theorem g133_ok : ActOk PR 4096 133 g133 := deepC_ok cx133 rfl rfl

/-! slices.Clone[[]byte,byte] -/
noncomputable def e134 : Env := envD eqsT [] [] [] [] [] false []
theorem e134_ok : EnvOk PR e134 := envD_ok eqsT_ok TabPOk.nil TabHOk.nil TabLOk.nil TabDOk.nil
theorem cx134 : Ctx PR e134 [] (fun _ => none) 2000 134 := ctx_of e134_ok mixed (fn := Go.Proofs.Tryz.f134) (by kernel_rfl) (by kernel_rfl) (by kernel_rfl) (tabOk_none _)
theorem n134 : Enters PR 134 := enters_of (fn := Go.Proofs.Tryz.f134) (by kernel_rfl) (by kernel_rfl) (by kernel_rfl)
noncomputable def g134 : List AV → AH → Nat → Option (Bool × AV × AH) := deepC PR e134 3 2000 134 4096 true
theorem g134_ok : ActOk PR 4096 134 g134 := deepC_ok cx134 rfl rfl

/-! reliquary/schnorr.New -/
noncomputable def e44 : Env := envD eqsT [] [] [] [(131, g131), (132, g132), (133, g133), (134, g134), (135, g135)] [] false [131, 132, 133, 134, 135]
theorem e44_ok : EnvOk PR e44 := envD_ok eqsT_ok TabPOk.nil TabHOk.nil TabLOk.nil (TabDOk.cons n131 g131_ok (TabDOk.cons n132 g132_ok (TabDOk.cons n133 g133_ok (TabDOk.cons n134 g134_ok (TabDOk.cons n135 g135_ok TabDOk.nil)))))
theorem cx44 : Ctx PR e44 [] (fun _ => none) 2000 44 := ctx_of e44_ok mixed (fn := Go.Proofs.Tryz.f44) (by kernel_rfl) (by kernel_rfl) (by kernel_rfl) (tabOk_none _)
theorem n44 : Enters PR 44 := enters_of (fn := Go.Proofs.Tryz.f44) (by kernel_rfl) (by kernel_rfl) (by kernel_rfl)
noncomputable def g44 : List AV → AH → Nat → Option (Bool × AV × AH) := deepC PR e44 6 2000 44 4096 true
theorem g44_ok : ActOk PR 4096 44 g44 := deepC_ok cx44 rfl rfl

/-! reliquary/reliquarykit.Pick -/
noncomputable def e48 : Env := envD eqsT [] [] [] [] [] false []
theorem e48_ok : EnvOk PR e48 := envD_ok eqsT_ok TabPOk.nil TabHOk.nil TabLOk.nil TabDOk.nil
theorem cx48 : Ctx PR e48 [] (fun _ => none) 2000 48 := ctx_of e48_ok mixed (fn := Go.Proofs.Tryz.f48) (by kernel_rfl) (by kernel_rfl) (by kernel_rfl) (tabOk_none _)
theorem n48 : Enters PR 48 := enters_of (fn := Go.Proofs.Tryz.f48) (by kernel_rfl) (by kernel_rfl) (by kernel_rfl)
noncomputable def g48 : List AV → Option (Bool × AV) := (inlineC PR e48 4 2000 48)
theorem g48_ok : CallOk PR 48 g48 := (.inl ⟨n48, inlineC_ok cx48 rfl rfl⟩)

/-! reliquary/reliquarylaw24.SchnorrKnown -/
noncomputable def e6 : Env := envD eqsT [(16, (fn1 kU c6.agg ofW)), (23, g23), (25, g25), (41, g41), (45, g45), (48, g48)] [] [(42, tx24)] [(37, g37), (38, g38), (39, g39), (40, g40), (43, g43), (44, g44), (46, g46), (47, g47)] [] false [37, 39, 40, 43, 44, 46, 47]
theorem e6_ok : EnvOk PR e6 := envD_ok eqsT_ok (TabPOk.cons of_ok (TabPOk.cons g23_ok (TabPOk.cons g25_ok (TabPOk.cons g41_ok (TabPOk.cons g45_ok (TabPOk.cons g48_ok TabPOk.nil)))))) TabHOk.nil (TabLOk.cons tx24_ent tx24_ok TabLOk.nil) (TabDOk.cons n37 g37_ok (TabDOk.cons n38 g38_ok (TabDOk.cons n39 g39_ok (TabDOk.cons n40 g40_ok (TabDOk.cons n43 g43_ok (TabDOk.cons n44 g44_ok (TabDOk.cons n46 g46_ok (TabDOk.cons n47 g47_ok TabDOk.nil))))))))
theorem cx6 : Ctx PR e6 [] (fun _ => none) 2000 6 := ctx_of e6_ok mixed (fn := Go.Proofs.Tryz.f6) (by kernel_rfl) (by kernel_rfl) (by kernel_rfl) (tabOk_none _)
theorem n6 : Enters PR 6 := enters_of (fn := Go.Proofs.Tryz.f6) (by kernel_rfl) (by kernel_rfl) (by kernel_rfl)
noncomputable def g6 : List AV → Option (Bool × AV) := (inlineC PR e6 9 2000 6)
theorem g6_ok : CallOk PR 6 g6 := (.inl ⟨n6, inlineC_ok cx6 rfl rfl⟩)
end Go.Rq

/- The law SchnorrKnown, run through at once. -/
namespace Go.Rq
open Go Go.Proofs
theorem law_pure : PureOk PR 6 g6 := inlineC_ok cx6 rfl rfl
set_option maxRecDepth 1000000 in
theorem law_run : g6 [] = some (true, .v (.bool true)) := by kernel_rfl
end Go.Rq
