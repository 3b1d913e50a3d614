/- A closed law's functions, each gone through where it is called. Written by a program of ours. -/
import Derived.Test.YtcboekjnibppdaaGreatDoorRq44
namespace Go.Rq
open Go Go.Proofs
def md81_0 : List AV × AV := ([], .v (.bool true))
set_option maxRecDepth 1000000 in
theorem mf81_0 : canQ (inlineC PR e81 5 2000 81) md81_0.1 = some (true, md81_0.2) := by kernel_rfl
end Go.Rq

/- A closed law's functions, each gone through where it is called. Written by a program of ours. -/
namespace Go.Rq
open Go Go.Proofs

def mt81 : List (List AV × AV) := [md81_0]
theorem mt81_ok : ∀ p ∈ mt81, canQ (inlineC PR e81 5 2000 81) p.1 = some (true, p.2) := fun p hp => by
  rcases List.mem_cons.1 hp with rfl | hp
  · exact mf81_0
  cases hp
noncomputable def g81 : List AV → Option (Bool × AV) := canP (memoE (canQ (inlineC PR e81 5 2000 81)) mt81)
theorem g81_ok : CallOk PR 81 g81 := canP_ok (memoE_ok (canQ_ok (.inl ⟨n81, inlineC_ok cx81 rfl rfl⟩)) mt81_ok)

/-! reliquary/reliquarylaw22.DkgKnown -/
noncomputable def e10 : Env := envD eqsT [(16, (fn1 kU c6.agg ofW)), (23, g23), (25, g25), (81, g81)] [] [] [(13, g13), (69, g69), (70, g70), (71, g71), (72, g72), (73, g73), (74, g74), (75, g75), (76, g76), (77, g77), (78, g78), (79, g79), (80, g80)] [] false [13, 69, 70, 71, 73, 74, 77, 80]
theorem e10_ok : EnvOk PR e10 := envD_ok eqsT_ok (TabPOk.cons of_ok (TabPOk.cons g23_ok (TabPOk.cons g25_ok (TabPOk.cons g81_ok TabPOk.nil)))) TabHOk.nil TabLOk.nil (TabDOk.cons n13 g13_ok (TabDOk.cons n69 g69_ok (TabDOk.cons n70 g70_ok (TabDOk.cons n71 g71_ok (TabDOk.cons n72 g72_ok (TabDOk.cons n73 g73_ok (TabDOk.cons n74 g74_ok (TabDOk.cons n75 g75_ok (TabDOk.cons n76 g76_ok (TabDOk.cons n77 g77_ok (TabDOk.cons n78 g78_ok (TabDOk.cons n79 g79_ok (TabDOk.cons n80 g80_ok TabDOk.nil)))))))))))))
theorem cx10 : Ctx PR e10 [] (fun _ => none) 2000 10 := ctx_of e10_ok mixed (fn := Go.Proofs.Tryz.f10) (by kernel_rfl) (by kernel_rfl) (by kernel_rfl) (tabOk_none _)
theorem n10 : Enters PR 10 := enters_of (fn := Go.Proofs.Tryz.f10) (by kernel_rfl) (by kernel_rfl) (by kernel_rfl)
noncomputable def g10 : List AV → Option (Bool × AV) := (inlineC PR e10 8 2000 10)
theorem g10_ok : CallOk PR 10 g10 := (.inl ⟨n10, inlineC_ok cx10 rfl rfl⟩)

/-! (*reliquary/dkg.Session).Pledge -/
noncomputable def e82 : Env := envD eqsT [] [] [] [(133, g133), (154, g154)] [] false [133, 154]
theorem e82_ok : EnvOk PR e82 := envD_ok eqsT_ok TabPOk.nil TabHOk.nil TabLOk.nil (TabDOk.cons n133 g133_ok (TabDOk.cons n154 g154_ok TabDOk.nil))
theorem cx82 : Ctx PR e82 [] (fun _ => none) 2000 82 := ctx_of e82_ok mixed (fn := Go.Proofs.Tryz.f82) (by kernel_rfl) (by kernel_rfl) (by kernel_rfl) (tabOk_none _)
theorem n82 : Enters PR 82 := enters_of (fn := Go.Proofs.Tryz.f82) (by kernel_rfl) (by kernel_rfl) (by kernel_rfl)
noncomputable def g82 : List AV → AH → Nat → Option (Bool × AV × AH) := deepC PR e82 4 2000 82 4096 true
theorem g82_ok : ActOk PR 4096 82 g82 := deepC_ok cx82 rfl rfl

/-! reliquary/reliquarylaw22.DkgNone -/
noncomputable def e11 : Env := envD eqsT [(81, g81)] [] [] [(70, g70), (71, g71), (72, g72), (73, g73), (75, g75), (76, g76), (78, g78), (79, g79), (80, g80), (82, g82), (83, g83), (84, g84), (85, g85), (86, g86), (87, g87)] [] false [70, 71, 73, 80, 82, 83, 84, 85, 86, 87]
theorem e11_ok : EnvOk PR e11 := envD_ok eqsT_ok (TabPOk.cons g81_ok TabPOk.nil) TabHOk.nil TabLOk.nil (TabDOk.cons n70 g70_ok (TabDOk.cons n71 g71_ok (TabDOk.cons n72 g72_ok (TabDOk.cons n73 g73_ok (TabDOk.cons n75 g75_ok (TabDOk.cons n76 g76_ok (TabDOk.cons n78 g78_ok (TabDOk.cons n79 g79_ok (TabDOk.cons n80 g80_ok (TabDOk.cons n82 g82_ok (TabDOk.cons n83 g83_ok (TabDOk.cons n84 g84_ok (TabDOk.cons n85 g85_ok (TabDOk.cons n86 g86_ok (TabDOk.cons n87 g87_ok TabDOk.nil)))))))))))))))
theorem cx11 : Ctx PR e11 [] (fun _ => none) 2000 11 := ctx_of e11_ok mixed (fn := Go.Proofs.Tryz.f11) (by kernel_rfl) (by kernel_rfl) (by kernel_rfl) (tabOk_none _)
theorem n11 : Enters PR 11 := enters_of (fn := Go.Proofs.Tryz.f11) (by kernel_rfl) (by kernel_rfl) (by kernel_rfl)
noncomputable def g11 : List AV → AH → Nat → Option (Bool × AV × AH) := deepC PR e11 8 2000 11 4096 true
theorem g11_ok : ActOk PR 4096 11 g11 := deepC_ok cx11 rfl rfl
end Go.Rq

/- The law DkgKnown, run through at once. -/
namespace Go.Rq
open Go Go.Proofs
theorem law_pure : PureOk PR 10 g10 := inlineC_ok cx10 rfl rfl
set_option maxRecDepth 1000000 in
theorem law_run : g10 [] = some (true, .v (.bool true)) := by kernel_rfl
end Go.Rq
