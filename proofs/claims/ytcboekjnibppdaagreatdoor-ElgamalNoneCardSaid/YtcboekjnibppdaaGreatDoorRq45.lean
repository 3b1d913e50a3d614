/- A closed law's functions, each gone through where it is called. Written by a program of ours. -/
import Derived.Test.YtcboekjnibppdaaGreatDoorRq44
namespace Go.Rq
open Go Go.Proofs
def md53_0 : List AV × AV := ([], .v (.bool true))
set_option maxRecDepth 1000000 in
theorem mf53_0 : canQ (inlineC PR e53 6 2000 53) md53_0.1 = some (true, md53_0.2) := by kernel_rfl
end Go.Rq

/- A closed law's functions, each gone through where it is called. Written by a program of ours. -/
namespace Go.Rq
open Go Go.Proofs

def mt53 : List (List AV × AV) := [md53_0]
theorem mt53_ok : ∀ p ∈ mt53, canQ (inlineC PR e53 6 2000 53) p.1 = some (true, p.2) := fun p hp => by
  rcases List.mem_cons.1 hp with rfl | hp
  · exact mf53_0
  cases hp
noncomputable def g53 : List AV → Option (Bool × AV) := canP (memoE (canQ (inlineC PR e53 6 2000 53)) mt53)
theorem g53_ok : CallOk PR 53 g53 := canP_ok (memoE_ok (canQ_ok (.inl ⟨n53, inlineC_ok cx53 rfl rfl⟩)) mt53_ok)

/-! slices.Clone[[]reliquary/api.Key,reliquary/api.Key] -/
noncomputable def e133 : Env := envD eqsT [] [] [] [] [9] false []
theorem e133_ok : EnvOk PR e133 := envD_ok eqsT_ok TabPOk.nil TabHOk.nil TabLOk.nil TabDOk.nil
theorem cx133 : Ctx PR e133 [] (fun _ => none) 2000 133 := ctx_of e133_ok mixed (fn := Go.Proofs.Tryz.f133) (by kernel_rfl) (by kernel_rfl) (by kernel_rfl) (tabOk_none _)
theorem n133 : Enters PR 133 := enters_of (fn := Go.Proofs.Tryz.f133) (by kernel_rfl) (by kernel_rfl) (by kernel_rfl)
noncomputable def g133 : List AV → AH → Nat → Option (Bool × AV × AH) := deepC PR e133 3 2000 133 4096 true
theorem g133_ok : ActOk PR 4096 133 g133 := deepC_ok cx133 rfl rfl

/-! slices.Clone[[]byte,byte] -/
noncomputable def e134 : Env := envD eqsT [] [] [] [] [9] false []
theorem e134_ok : EnvOk PR e134 := envD_ok eqsT_ok TabPOk.nil TabHOk.nil TabLOk.nil TabDOk.nil
theorem cx134 : Ctx PR e134 [] (fun _ => none) 2000 134 := ctx_of e134_ok mixed (fn := Go.Proofs.Tryz.f134) (by kernel_rfl) (by kernel_rfl) (by kernel_rfl) (tabOk_none _)
theorem n134 : Enters PR 134 := enters_of (fn := Go.Proofs.Tryz.f134) (by kernel_rfl) (by kernel_rfl) (by kernel_rfl)
noncomputable def g134 : List AV → AH → Nat → Option (Bool × AV × AH) := deepC PR e134 3 2000 134 4096 true
theorem g134_ok : ActOk PR 4096 134 g134 := deepC_ok cx134 rfl rfl

/-! reliquary/elgamal.New -/
noncomputable def e58 : Env := envD eqsT [] [] [] [(133, g133), (134, g134), (139, g139), (143, g143)] [9] false [133, 134, 139, 143]
theorem e58_ok : EnvOk PR e58 := envD_ok eqsT_ok TabPOk.nil TabHOk.nil TabLOk.nil (TabDOk.cons n133 g133_ok (TabDOk.cons n134 g134_ok (TabDOk.cons n139 g139_ok (TabDOk.cons n143 g143_ok TabDOk.nil))))
theorem cx58 : Ctx PR e58 [] (fun _ => none) 2000 58 := ctx_of e58_ok mixed (fn := Go.Proofs.Tryz.f58) (by kernel_rfl) (by kernel_rfl) (by kernel_rfl) (tabOk_none _)
theorem n58 : Enters PR 58 := enters_of (fn := Go.Proofs.Tryz.f58) (by kernel_rfl) (by kernel_rfl) (by kernel_rfl)
noncomputable def g58 : List AV → AH → Nat → Option (Bool × AV × AH) := deepC PR e58 6 2000 58 4096 true
theorem g58_ok : ActOk PR 4096 58 g58 := deepC_ok cx58 rfl rfl

/-! reliquary/suite.Add -/
noncomputable def e191 : Env := envD eqsT [] [] [] [(194, g194)] [9] false [194]
theorem e191_ok : EnvOk PR e191 := envD_ok eqsT_ok TabPOk.nil TabHOk.nil TabLOk.nil (TabDOk.cons n194 g194_ok TabDOk.nil)
theorem cx191 : Ctx PR e191 [] (fun _ => none) 2000 191 := ctx_of e191_ok mixed (fn := Go.Proofs.Tryz.f191) (by kernel_rfl) (by kernel_rfl) (by kernel_rfl) (tabOk_none _)
theorem n191 : Enters PR 191 := enters_of (fn := Go.Proofs.Tryz.f191) (by kernel_rfl) (by kernel_rfl) (by kernel_rfl)
noncomputable def g191 : List AV → Option (Bool × AV) := (inlineC PR e191 4 2000 191)
theorem g191_ok : CallOk PR 191 g191 := (.inl ⟨n191, inlineC_ok cx191 rfl rfl⟩)

/-! reliquary/proof.answer -/
noncomputable def e117 : Env := envD eqsT [(122, g122), (191, g191)] [] [] [] [9] false []
theorem e117_ok : EnvOk PR e117 := envD_ok eqsT_ok (TabPOk.cons g122_ok (TabPOk.cons g191_ok TabPOk.nil)) TabHOk.nil TabLOk.nil TabDOk.nil
theorem cx117 : Ctx PR e117 [] (fun _ => none) 2000 117 := ctx_of e117_ok mixed (fn := Go.Proofs.Tryz.f117) (by kernel_rfl) (by kernel_rfl) (by kernel_rfl) (tabOk_none _)
theorem n117 : Enters PR 117 := enters_of (fn := Go.Proofs.Tryz.f117) (by kernel_rfl) (by kernel_rfl) (by kernel_rfl)
noncomputable def g117 : List AV → Option (Bool × AV) := (inlineC PR e117 5 2000 117)
theorem g117_ok : CallOk PR 117 g117 := (.inl ⟨n117, inlineC_ok cx117 rfl rfl⟩)

/-! reliquary/proof.Same -/
noncomputable def e29 : Env := envD eqsT [(115, g115), (117, g117)] [] [] [(114, g114), (116, g116)] [9] false [114, 116]
theorem e29_ok : EnvOk PR e29 := envD_ok eqsT_ok (TabPOk.cons g115_ok (TabPOk.cons g117_ok TabPOk.nil)) TabHOk.nil TabLOk.nil (TabDOk.cons n114 g114_ok (TabDOk.cons n116 g116_ok TabDOk.nil))
theorem cx29 : Ctx PR e29 [] (fun _ => none) 2000 29 := ctx_of e29_ok mixed (fn := Go.Proofs.Tryz.f29) (by kernel_rfl) (by kernel_rfl) (by kernel_rfl) (tabOk_none _)
theorem n29 : Enters PR 29 := enters_of (fn := Go.Proofs.Tryz.f29) (by kernel_rfl) (by kernel_rfl) (by kernel_rfl)
end Go.Rq
