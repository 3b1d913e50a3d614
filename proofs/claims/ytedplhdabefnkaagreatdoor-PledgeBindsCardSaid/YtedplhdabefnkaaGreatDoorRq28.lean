import Derived.Test.YtedplhdabefnkaaGreatDoorRq05
import Derived.Test.YtedplhdabefnkaaGreatDoorRq26
import Derived.Test.YtedplhdabefnkaaGreatDoorRq27
import Derived.Test.YtedplhdabefnkaaGreatDoorRq16
import Derived.Test.YtedplhdabefnkaaGreatDoorRq20
import Derived.Test.YtedplhdabefnkaaGreatDoorRq10
import Derived.Test.YtedplhdabefnkaaGreatDoorRq21
import Derived.Test.YtedplhdabefnkaaGreatDoorRows
import Derived.Test.YtedplhdabefnkaaGreatDoorRq15
import Derived.OpenShut
import Derived.MakeChecks
import Derived.ChangeArms
namespace Go.Rq.Cl
open Go Go.Proofs Go.Rq Go.Rq.Sm
theorem dsum_ent : Enters PR 113 := entersB (by kernel_rfl)
theorem dsum_gives (s : SA) (c1 : Nat) (t : TypeId) (l : List Int) (hs : shS s = true) (hl : l.length = s.len) : GivesH (afun PR (sdE shaF) [] (fun _ => none) 10 113 [s.at 0 c1] (hpS 0 s t (encL (cInt .u8) l)) 1) ((cBy 32).agg.val (shaG shaF l)) := by
 cases s with
 | nil => cases hs
 | slc n => cases hs
 | own es n =>
  unfold shS at hs
  obtain ⟨h1, h2⟩ := and_parts hs
  obtain rfl := Nat.eq_of_beq_eq_true h1
  have hm : n ∈ lensS := memN_spec.1 h2
  have hn : l.length = n := hl
  rw [lstB_of l]
  generalize (fun i => l.getD i 0) = b
  rw [hn]
  simp only [lensS, List.mem_cons, List.not_mem_nil, or_false] at hm
  rcases hm with rfl
  . exact givesH (dg_run15 shaF b t) (holds_leaf ((cBy 32).agg.h1 _))
theorem dsum_ok : HeapOk PR 113 sumV := by
 rw [sumV_eq]
 exact s1V_ok (E := fun _ => sdE shaF) (sym := []) (lf := 10) (fun _ => sdE_ok) mixed (fn := Tryz.f113) (c := bodyOf PR 113) (by kernel_rfl) (by kernel_rfl) (fun _ => sd_cod) dsum_gives
noncomputable def e108 : Env := envD eqsT [] [] [] [] [] false []
theorem e108_ok : EnvOk PR e108 := envD_ok eqsT_ok TabPOk.nil TabHOk.nil TabLOk.nil TabDOk.nil
theorem cx108 : Ctx PR e108 [] (fun _ => none) 2000 108 := ctxB e108_ok mixed (by kernel_rfl)
theorem n108 : Enters PR 108 := entersB (by kernel_rfl)
noncomputable def g108 : List AV -> Option (Bool × AV) := (inlineC PR e108 4 2000 108)
theorem g108_ok : CallOk PR 108 g108 := (.inl ⟨n108, inlineC_ok cx108 rfl rfl⟩)
noncomputable def e59 : Env := envD eqsT [(108, g108)] [] [] [] [] false []
theorem e59_ok : EnvOk PR e59 := envD_ok eqsT_ok (TabPOk.cons g108_ok TabPOk.nil) TabHOk.nil TabLOk.nil TabDOk.nil
theorem cx59 : Ctx PR e59 [] (fun _ => none) 2000 59 := ctxB e59_ok mixed (by kernel_rfl)
theorem n59 : Enters PR 59 := entersB (by kernel_rfl)
noncomputable def g59 : List AV -> Option (Bool × AV) := (inlineC PR e59 4 2000 59)
theorem g59_ok : CallOk PR 59 g59 := (.inl ⟨n59, inlineC_ok cx59 rfl rfl⟩)
noncomputable def e30 : Env := envD eqsT [(59, g59)] [] [] [] [] false []
theorem e30_ok : EnvOk PR e30 := envD_ok eqsT_ok (TabPOk.cons g59_ok TabPOk.nil) TabHOk.nil TabLOk.nil TabDOk.nil
theorem cx30 : Ctx PR e30 [] (fun _ => none) 2000 30 := ctxB e30_ok mixed (by kernel_rfl)
theorem n30 : Enters PR 30 := entersB (by kernel_rfl)
noncomputable def g30 : List AV -> Option (Bool × AV) := (inlineC PR e30 5 2000 30)
theorem g30_ok : CallOk PR 30 g30 := (.inl ⟨n30, inlineC_ok cx30 rfl rfl⟩)
noncomputable def e60 : Env := envD eqsT [] [] [] [] [] false []
theorem e60_ok : EnvOk PR e60 := envD_ok eqsT_ok TabPOk.nil TabHOk.nil TabLOk.nil TabDOk.nil
theorem cx60 : Ctx PR e60 [] (fun _ => none) 2000 60 := ctxB e60_ok mixed (by kernel_rfl)
theorem n60 : Enters PR 60 := entersB (by kernel_rfl)
noncomputable def g60 : List AV -> Option (Bool × AV) := (inlineC PR e60 4 2000 60)
theorem g60_ok : CallOk PR 60 g60 := (.inl ⟨n60, inlineC_ok cx60 rfl rfl⟩)
noncomputable def e109 : Env := envD eqsT [] [] [] [] [] false []
theorem e109_ok : EnvOk PR e109 := envD_ok eqsT_ok TabPOk.nil TabHOk.nil TabLOk.nil TabDOk.nil
theorem cx109 : Ctx PR e109 [] (fun _ => none) 2000 109 := ctxB e109_ok mixed (by kernel_rfl)
theorem n109 : Enters PR 109 := entersB (by kernel_rfl)
noncomputable def g109 : List AV -> AH -> Nat -> Option (Bool × AV × AH) := deepC PR e109 4 2000 109 4096 true
theorem g109_ok : ActOk PR 4096 109 g109 := deepC_ok cx109 rfl rfl
noncomputable def e61 : Env := envD eqsT [] [] [] [(109, g109)] [] false [109]
theorem e61_ok : EnvOk PR e61 := envD_ok eqsT_ok TabPOk.nil TabHOk.nil TabLOk.nil (TabDOk.cons n109 g109_ok TabDOk.nil)
theorem cx61 : Ctx PR e61 [] (fun _ => none) 2000 61 := ctxB e61_ok mixed (by kernel_rfl)
theorem n61 : Enters PR 61 := entersB (by kernel_rfl)
noncomputable def g61 : List AV -> AH -> Nat -> Option (Bool × AV × AH) := deepC PR e61 5 2000 61 4096 true
theorem g61_ok : ActOk PR 4096 61 g61 := deepC_ok cx61 rfl rfl
noncomputable def e114 : Env := envD eqsT [] [] [] [] [] false []
theorem e114_ok : EnvOk PR e114 := envD_ok eqsT_ok TabPOk.nil TabHOk.nil TabLOk.nil TabDOk.nil
theorem cx114 : Ctx PR e114 [] (fun _ => none) 2000 114 := ctxB e114_ok mixed (by kernel_rfl)
theorem n114 : Enters PR 114 := entersB (by kernel_rfl)
noncomputable def g114 : List AV -> AH -> Nat -> Option (Bool × AV × AH) := deepC PR e114 6 2000 114 4096 true
theorem g114_ok : ActOk PR 4096 114 g114 := deepC_ok cx114 rfl rfl
noncomputable def e116 : Env := envD eqsT [] [(71, (rdp 163 cFa (mc2 c6.agg c6.agg) c6.agg (fun m x => qaddW m x.1 x.2))), (122, (rdp 163 cFa mc0 kBool (fun m _ => moNone m))), (130, (rdp 163 cFa (mc2 c6.agg c6.agg) c6.agg (fun m x => moMontW m x.1 x.2)))] [] [] [] false [71, 122, 130]
theorem e116_ok : EnvOk PR e116 := envD_ok eqsT_ok TabPOk.nil (TabHOk.cons qadd_ent qadd_ok (TabHOk.cons mn_ent mn_ok (TabHOk.cons mm_ent mm_ok TabHOk.nil))) TabLOk.nil TabDOk.nil
theorem cx116 : Ctx PR e116 [] (fun _ => none) 2000 116 := ctxB e116_ok mixed (by kernel_rfl)
theorem n116 : Enters PR 116 := entersB (by kernel_rfl)
noncomputable def g116 : List AV -> AH -> Nat -> Option (Bool × AV × AH) := deepC PR e116 5 2000 116 4096 true
theorem g116_ok : ActOk PR 4096 116 g116 := deepC_ok cx116 rfl rfl
noncomputable def e63 : Env := envD eqsT [] [(113, sumV)] [(115, (layP kMd 163 cFa 0 modS))] [(114, g114), (116, g116)] [] false [114, 116, 113]
theorem e63_ok : EnvOk PR e63 := envD_ok eqsT_ok TabPOk.nil (TabHOk.cons dsum_ent dsum_ok TabHOk.nil) (TabLOk.cons nw_ent newS_okL TabLOk.nil) (TabDOk.cons n114 g114_ok (TabDOk.cons n116 g116_ok TabDOk.nil))
theorem cx63 : Ctx PR e63 [] (fun _ => none) 2000 63 := ctxB e63_ok mixed (by kernel_rfl)
theorem n63 : Enters PR 63 := entersB (by kernel_rfl)
noncomputable def g63 : List AV -> AH -> Nat -> Option (Bool × AV × AH) := deepC PR e63 6 2000 63 4096 true
theorem g63_ok : ActOk PR 4096 63 g63 := deepC_ok cx63 rfl rfl
noncomputable def e117 : Env := envD eqsT [] [] [] [] [] false []
theorem e117_ok : EnvOk PR e117 := envD_ok eqsT_ok TabPOk.nil TabHOk.nil TabLOk.nil TabDOk.nil
theorem cx117 : Ctx PR e117 [] (fun _ => none) 2000 117 := ctxB e117_ok mixed (by kernel_rfl)
theorem n117 : Enters PR 117 := entersB (by kernel_rfl)
noncomputable def g117 : List AV -> Option (Bool × AV) := (inlineC PR e117 1 2000 117)
theorem g117_ok : CallOk PR 117 g117 := (.inl ⟨n117, inlineC_ok cx117 rfl rfl⟩)
noncomputable def e118 : Env := envD eqsT [(108, g108)] [] [] [] [] false []
theorem e118_ok : EnvOk PR e118 := envD_ok eqsT_ok (TabPOk.cons g108_ok TabPOk.nil) TabHOk.nil TabLOk.nil TabDOk.nil
theorem cx118 : Ctx PR e118 [] (fun _ => none) 2000 118 := ctxB e118_ok mixed (by kernel_rfl)
theorem n118 : Enters PR 118 := entersB (by kernel_rfl)
noncomputable def g118 : List AV -> Option (Bool × AV) := (inlineC PR e118 4 2000 118)
theorem g118_ok : CallOk PR 118 g118 := (.inl ⟨n118, inlineC_ok cx118 rfl rfl⟩)
noncomputable def e64 : Env := envD eqsT [(33, (fn1 kU c6.agg ofW)), (117, g117), (118, g118)] [] [] [] [] false []
theorem e64_ok : EnvOk PR e64 := envD_ok eqsT_ok (TabPOk.cons of_ok (TabPOk.cons g117_ok (TabPOk.cons g118_ok TabPOk.nil))) TabHOk.nil TabLOk.nil TabDOk.nil
theorem cx64 : Ctx PR e64 [] (fun _ => none) 2000 64 := ctxB e64_ok mixed (by kernel_rfl)
theorem n64 : Enters PR 64 := entersB (by kernel_rfl)
noncomputable def g64 : List AV -> Option (Bool × AV) := (inlineC PR e64 4 2000 64)
theorem g64_ok : CallOk PR 64 g64 := (.inl ⟨n64, inlineC_ok cx64 rfl rfl⟩)
noncomputable def e126 : Env := envD eqsT [(108, g108), (181, (fn2 kCv cLp.agg kBool onF))] [] [] [] [] false []
theorem e126_ok : EnvOk PR e126 := envD_ok eqsT_ok (TabPOk.cons g108_ok (TabPOk.cons lo_ok TabPOk.nil)) TabHOk.nil TabLOk.nil TabDOk.nil
theorem cx126 : Ctx PR e126 [] (fun _ => none) 2000 126 := ctxB e126_ok mixed (by kernel_rfl)
theorem n126 : Enters PR 126 := entersB (by kernel_rfl)
noncomputable def g126 : List AV -> AH -> Nat -> Option (Bool × AV × AH) := deepC PR e126 5 2000 126 4096 true
theorem g126_ok : ActOk PR 4096 126 g126 := deepC_ok cx126 rfl rfl
noncomputable def e120 : Env := envD eqsT [(173, (fn3 kCv kU kU kU lPow)), (174, (fn2 kCv kU kU lrF)), (175, (fn3 kCv kU kU kU lMul)), (176, (fn3 kCv kU kU kU lSub)), (177, (fn3 kCv kU kU kU lAdd))] [] [] [(126, g126)] [] false [126]
theorem e120_ok : EnvOk PR e120 := envD_ok eqsT_ok (TabPOk.cons pw_ok (TabPOk.cons lr_ok (TabPOk.cons lm_ok (TabPOk.cons ls_ok (TabPOk.cons la_ok TabPOk.nil))))) TabHOk.nil TabLOk.nil (TabDOk.cons n126 g126_ok TabDOk.nil)
theorem cx120 : Ctx PR e120 [] (fun _ => none) 2000 120 := ctxB e120_ok mixed (by kernel_rfl)
theorem n120 : Enters PR 120 := entersB (by kernel_rfl)
noncomputable def g120 : List AV -> Option (Bool × AV) := nrmG (inlineC PR e120 6 2000 120)
theorem g120_ok : CallOk PR 120 g120 := nrmG_ok (.inl ⟨n120, inlineC_ok cx120 rfl rfl⟩)
noncomputable def e121 : Env := envD eqsT [(127, (fn3 kCv cLp.agg kU cLp.agg lTimes))] [] [] [(126, g126)] [] false [126]
theorem e121_ok : EnvOk PR e121 := envD_ok eqsT_ok (TabPOk.cons tm_ok TabPOk.nil) TabHOk.nil TabLOk.nil (TabDOk.cons n126 g126_ok TabDOk.nil)
theorem cx121 : Ctx PR e121 [] (fun _ => none) 2000 121 := ctxB e121_ok mixed (by kernel_rfl)
theorem n121 : Enters PR 121 := entersB (by kernel_rfl)
noncomputable def g121 : List AV -> Option (Bool × AV) := (inlineC PR e121 5 2000 121)
theorem g121_ok : CallOk PR 121 g121 := (.inl ⟨n121, inlineC_ok cx121 rfl rfl⟩)
noncomputable def e66 : Env := envD eqsT [(64, g64), (120, g120), (121, g121)] [] [] [(63, g63)] [] false [63]
theorem e66_ok : EnvOk PR e66 := envD_ok eqsT_ok (TabPOk.cons g64_ok (TabPOk.cons g120_ok (TabPOk.cons g121_ok TabPOk.nil))) TabHOk.nil TabLOk.nil (TabDOk.cons n63 g63_ok TabDOk.nil)
theorem cx66 : Ctx PR e66 [] (fun _ => none) 2000 66 := ctxB e66_ok mixed (by kernel_rfl)
theorem n66 : Enters PR 66 := entersB (by kernel_rfl)
noncomputable def g66 : List AV -> AH -> Nat -> Option (Bool × AV × AH) := deepC PR e66 5 2000 66 4096 true
theorem g66_ok : ActOk PR 4096 66 g66 := deepC_ok cx66 rfl rfl
noncomputable def e31 : Env := envD eqsT [(60, g60), (64, g64)] [] [] [(61, g61), (63, g63), (66, g66)] [] false [61, 63, 66]
theorem e31_ok : EnvOk PR e31 := envD_ok eqsT_ok (TabPOk.cons g60_ok (TabPOk.cons g64_ok TabPOk.nil)) TabHOk.nil TabLOk.nil (TabDOk.cons n61 g61_ok (TabDOk.cons n63 g63_ok (TabDOk.cons n66 g66_ok TabDOk.nil)))
theorem cx31 : Ctx PR e31 [] (fun _ => none) 2000 31 := ctxB e31_ok mixed (by kernel_rfl)
theorem n31 : Enters PR 31 := entersB (by kernel_rfl)
noncomputable def g31 : List AV -> Option (Bool × AV) := (inlineC PR e31 6 2000 31)
theorem g31_ok : CallOk PR 31 g31 := (.inl ⟨n31, inlineC_ok cx31 rfl rfl⟩)
noncomputable def e91 : Env := envD eqsT [(108, g108), (148, (fn2 kCv cLp.agg kBool inF))] [] [] [] [] false []
theorem e91_ok : EnvOk PR e91 := envD_ok eqsT_ok (TabPOk.cons g108_ok (TabPOk.cons lin_ok TabPOk.nil)) TabHOk.nil TabLOk.nil TabDOk.nil
theorem cx91 : Ctx PR e91 [] (fun _ => none) 2000 91 := ctxB e91_ok mixed (by kernel_rfl)
theorem n91 : Enters PR 91 := entersB (by kernel_rfl)
noncomputable def g91 : List AV -> Option (Bool × AV) := (inlineC PR e91 5 2000 91)
theorem g91_ok : CallOk PR 91 g91 := (.inl ⟨n91, inlineC_ok cx91 rfl rfl⟩)
noncomputable def e48 : Env := envD eqsT [(91, g91)] [] [] [] [] false []
theorem e48_ok : EnvOk PR e48 := envD_ok eqsT_ok (TabPOk.cons g91_ok TabPOk.nil) TabHOk.nil TabLOk.nil TabDOk.nil
theorem cx48 : Ctx PR e48 [] (fun _ => none) 2000 48 := ctxB e48_ok mixed (by kernel_rfl)
theorem n48 : Enters PR 48 := entersB (by kernel_rfl)
noncomputable def g48 : List AV -> Option (Bool × AV) := (inlineC PR e48 5 2000 48)
theorem g48_ok : CallOk PR 48 g48 := (.inl ⟨n48, inlineC_ok cx48 rfl rfl⟩)
noncomputable def e137 : Env := envD eqsT [(108, g108)] [] [] [] [] false []
theorem e137_ok : EnvOk PR e137 := envD_ok eqsT_ok (TabPOk.cons g108_ok TabPOk.nil) TabHOk.nil TabLOk.nil TabDOk.nil
theorem cx137 : Ctx PR e137 [] (fun _ => none) 2000 137 := ctxB e137_ok mixed (by kernel_rfl)
theorem n137 : Enters PR 137 := entersB (by kernel_rfl)
noncomputable def g137 : List AV -> Option (Bool × AV) := (inlineC PR e137 4 2000 137)
theorem g137_ok : CallOk PR 137 g137 := (.inl ⟨n137, inlineC_ok cx137 rfl rfl⟩)
noncomputable def e87 : Env := envD eqsT [(33, (fn1 kU c6.agg ofW)), (137, g137)] [] [] [] [] false []
theorem e87_ok : EnvOk PR e87 := envD_ok eqsT_ok (TabPOk.cons of_ok (TabPOk.cons g137_ok TabPOk.nil)) TabHOk.nil TabLOk.nil TabDOk.nil
theorem cx87 : Ctx PR e87 [] (fun _ => none) 2000 87 := ctxB e87_ok mixed (by kernel_rfl)
theorem n87 : Enters PR 87 := entersB (by kernel_rfl)
noncomputable def g87 : List AV -> Option (Bool × AV) := (inlineC PR e87 4 2000 87)
theorem g87_ok : CallOk PR 87 g87 := (.inl ⟨n87, inlineC_ok cx87 rfl rfl⟩)
noncomputable def e72 : Env := envD eqsT [(48, g48), (86, (fn2 c6.agg c6.agg (kInt .i64) fun a b => chainV (cmpL a b) 0)), (87, g87)] [] [] [] [] false []
theorem e72_ok : EnvOk PR e72 := envD_ok eqsT_ok (TabPOk.cons g48_ok (TabPOk.cons cmp_ok (TabPOk.cons g87_ok TabPOk.nil))) TabHOk.nil TabLOk.nil TabDOk.nil
theorem cx72 : Ctx PR e72 [] (fun _ => none) 2000 72 := ctxB e72_ok mixed (by kernel_rfl)
theorem n72 : Enters PR 72 := entersB (by kernel_rfl)
noncomputable def g72 : List AV -> AH -> Nat -> Option (Bool × AV × AH) := deepC PR e72 6 2000 72 4096 true
theorem g72_ok : ActOk PR 4096 72 g72 := deepC_ok cx72 rfl rfl
noncomputable def e74 : Env := envD eqsT [(127, (fn3 kCv cLp.agg kU cLp.agg lTimes))] [] [] [(126, g126)] [] false [126]
theorem e74_ok : EnvOk PR e74 := envD_ok eqsT_ok (TabPOk.cons tm_ok TabPOk.nil) TabHOk.nil TabLOk.nil (TabDOk.cons n126 g126_ok TabDOk.nil)
theorem cx74 : Ctx PR e74 [] (fun _ => none) 2000 74 := ctxB e74_ok mixed (by kernel_rfl)
theorem n74 : Enters PR 74 := entersB (by kernel_rfl)
noncomputable def g74 : List AV -> Option (Bool × AV) := (inlineC PR e74 5 2000 74)
theorem g74_ok : CallOk PR 74 g74 := (.inl ⟨n74, inlineC_ok cx74 rfl rfl⟩)
noncomputable def e35 : Env := envD eqsT [(74, g74)] [] [] [(72, g72)] [] false [72]
theorem e35_ok : EnvOk PR e35 := envD_ok eqsT_ok (TabPOk.cons g74_ok TabPOk.nil) TabHOk.nil TabLOk.nil (TabDOk.cons n72 g72_ok TabDOk.nil)
theorem cx35 : Ctx PR e35 [] (fun _ => none) 2000 35 := ctxB e35_ok mixed (by kernel_rfl)
theorem n35 : Enters PR 35 := entersB (by kernel_rfl)
noncomputable def g35 : List AV -> Option (Bool × AV) := (inlineC PR e35 6 2000 35)
theorem g35_ok : CallOk PR 35 g35 := (.inl ⟨n35, inlineC_ok cx35 rfl rfl⟩)
noncomputable def e76 : Env := envD eqsT [(128, (fn3 kCv cLp.agg cLp.agg cLp.agg lSum))] [] [] [(126, g126)] [] false [126]
theorem e76_ok : EnvOk PR e76 := envD_ok eqsT_ok (TabPOk.cons lsm_ok TabPOk.nil) TabHOk.nil TabLOk.nil (TabDOk.cons n126 g126_ok TabDOk.nil)
theorem cx76 : Ctx PR e76 [] (fun _ => none) 2000 76 := ctxB e76_ok mixed (by kernel_rfl)
theorem n76 : Enters PR 76 := entersB (by kernel_rfl)
noncomputable def g76 : List AV -> Option (Bool × AV) := (inlineC PR e76 5 2000 76)
theorem g76_ok : CallOk PR 76 g76 := (.inl ⟨n76, inlineC_ok cx76 rfl rfl⟩)
noncomputable def e36 : Env := envD eqsT [(76, g76)] [] [] [(72, g72)] [] false [72]
theorem e36_ok : EnvOk PR e36 := envD_ok eqsT_ok (TabPOk.cons g76_ok TabPOk.nil) TabHOk.nil TabLOk.nil (TabDOk.cons n72 g72_ok TabDOk.nil)
theorem cx36 : Ctx PR e36 [] (fun _ => none) 2000 36 := ctxB e36_ok mixed (by kernel_rfl)
theorem n36 : Enters PR 36 := entersB (by kernel_rfl)
noncomputable def g36 : List AV -> Option (Bool × AV) := (inlineC PR e36 6 2000 36)
theorem g36_ok : CallOk PR 36 g36 := (.inl ⟨n36, inlineC_ok cx36 rfl rfl⟩)
noncomputable def e43 : Env := envD eqsT [(60, g60), (87, g87)] [] [] [] [] false []
theorem e43_ok : EnvOk PR e43 := envD_ok eqsT_ok (TabPOk.cons g60_ok (TabPOk.cons g87_ok TabPOk.nil)) TabHOk.nil TabLOk.nil TabDOk.nil
theorem cx43 : Ctx PR e43 [] (fun _ => none) 2000 43 := ctxB e43_ok mixed (by kernel_rfl)
theorem n43 : Enters PR 43 := entersB (by kernel_rfl)
noncomputable def g43 : List AV -> Option (Bool × AV) := (inlineC PR e43 4 2000 43)
theorem g43_ok : CallOk PR 43 g43 := (.inl ⟨n43, inlineC_ok cx43 rfl rfl⟩)
noncomputable def e41 : Env := envD eqsT [(30, g30), (31, g31), (35, g35), (36, g36), (43, g43), (86, (fn2 c6.agg c6.agg (kInt .i64) fun a b => chainV (cmpL a b) 0))] [] [] [] [] false []
theorem e41_ok : EnvOk PR e41 := envD_ok eqsT_ok (TabPOk.cons g30_ok (TabPOk.cons g31_ok (TabPOk.cons g35_ok (TabPOk.cons g36_ok (TabPOk.cons g43_ok (TabPOk.cons cmp_ok TabPOk.nil)))))) TabHOk.nil TabLOk.nil TabDOk.nil
theorem cx41 : Ctx PR e41 [] (fun _ => none) 2000 41 := ctxB e41_ok mixed (by kernel_rfl)
theorem n41 : Enters PR 41 := entersB (by kernel_rfl)
noncomputable def g41 : List AV -> Option (Bool × AV) := (inlineC PR e41 7 2000 41)
theorem g41_ok : CallOk PR 41 g41 := (.inl ⟨n41, inlineC_ok cx41 rfl rfl⟩)
noncomputable def e10 : Env := envD eqsT [(41, g41), (43, g43)] [] [] [] [] false []
theorem e10_ok : EnvOk PR e10 := envD_ok eqsT_ok (TabPOk.cons g41_ok (TabPOk.cons g43_ok TabPOk.nil)) TabHOk.nil TabLOk.nil TabDOk.nil
theorem cx10 : Ctx PR e10 [] (fun _ => none) 2000 10 := ctxB e10_ok mixed (by kernel_rfl)
theorem n10 : Enters PR 10 := entersB (by kernel_rfl)
noncomputable def g10 : List AV -> AH -> Nat -> Option (Bool × AV × AH) := deepC PR e10 7 2000 10 4096 true
theorem g10_ok : ActOk PR 4096 10 g10 := deepC_ok cx10 rfl rfl
noncomputable def e20 : Env := envD eqsT [(48, g48)] [] [] [] [] false []
theorem e20_ok : EnvOk PR e20 := envD_ok eqsT_ok (TabPOk.cons g48_ok TabPOk.nil) TabHOk.nil TabLOk.nil TabDOk.nil
theorem cx20 : Ctx PR e20 [] (fun _ => none) 2000 20 := ctxB e20_ok mixed (by kernel_rfl)
theorem n20 : Enters PR 20 := entersB (by kernel_rfl)
noncomputable def g20 : List AV -> AH -> Nat -> Option (Bool × AV × AH) := deepC PR e20 6 2000 20 4096 true
theorem g20_ok : ActOk PR 4096 20 g20 := deepC_ok cx20 rfl rfl
noncomputable def e47 : Env := envD eqsT [(33, (fn1 kU c6.agg ofW)), (35, g35), (36, g36)] [] [] [] [] false []
theorem e47_ok : EnvOk PR e47 := envD_ok eqsT_ok (TabPOk.cons of_ok (TabPOk.cons g35_ok (TabPOk.cons g36_ok TabPOk.nil))) TabHOk.nil TabLOk.nil TabDOk.nil
theorem cx47 : Ctx PR e47 [] (fun _ => none) 2000 47 := ctxB e47_ok mixed (by kernel_rfl)
theorem n47 : Enters PR 47 := entersB (by kernel_rfl)
noncomputable def g47 : List AV -> AH -> Nat -> Option (Bool × AV × AH) := deepC PR e47 6 2000 47 4096 true
theorem g47_ok : ActOk PR 4096 47 g47 := deepC_ok cx47 rfl rfl
noncomputable def e18 : Env := envD eqsT [] [] [] [(20, g20), (47, g47)] [] false [20, 47]
theorem e18_ok : EnvOk PR e18 := envD_ok eqsT_ok TabPOk.nil TabHOk.nil TabLOk.nil (TabDOk.cons n20 g20_ok (TabDOk.cons n47 g47_ok TabDOk.nil))
theorem cx18 : Ctx PR e18 [] (fun _ => none) 2000 18 := ctxB e18_ok mixed (by kernel_rfl)
theorem n18 : Enters PR 18 := entersB (by kernel_rfl)
noncomputable def g18 : List AV -> AH -> Nat -> Option (Bool × AV × AH) := deepC PR e18 5 2000 18 4096 true
theorem g18_ok : ActOk PR 4096 18 g18 := deepC_ok cx18 rfl rfl
noncomputable def e19 : Env := envD eqsT [(41, g41)] [] [] [(18, g18)] [] false [18]
theorem e19_ok : EnvOk PR e19 := envD_ok eqsT_ok (TabPOk.cons g41_ok TabPOk.nil) TabHOk.nil TabLOk.nil (TabDOk.cons n18 g18_ok TabDOk.nil)
theorem cx19 : Ctx PR e19 [] (fun _ => none) 2000 19 := ctxB e19_ok mixed (by kernel_rfl)
theorem n19 : Enters PR 19 := entersB (by kernel_rfl)
noncomputable def g19 : List AV -> AH -> Nat -> Option (Bool × AV × AH) := deepC PR e19 6 2000 19 4096 true
theorem g19_ok : ActOk PR 4096 19 g19 := deepC_ok cx19 rfl rfl
noncomputable def e56 : Env := envD eqsT [(33, (fn1 kU c6.agg ofW))] [] [] [] [] false []
theorem e56_ok : EnvOk PR e56 := envD_ok eqsT_ok (TabPOk.cons of_ok TabPOk.nil) TabHOk.nil TabLOk.nil TabDOk.nil
theorem cx56 : Ctx PR e56 [] (fun _ => none) 2000 56 := ctxB e56_ok mixed (by kernel_rfl)
theorem n56 : Enters PR 56 := entersB (by kernel_rfl)
noncomputable def g56 : List AV -> AH -> Nat -> Option (Bool × AV × AH) := deepC PR e56 4 2000 56 4096 true
theorem g56_ok : ActOk PR 4096 56 g56 := deepC_ok cx56 rfl rfl
noncomputable def e27 : Env := envD eqsT [(33, (fn1 kU c6.agg ofW))] [] [] [(10, g10), (19, g19), (56, g56)] [] false [10, 19, 56]
theorem e27_ok : EnvOk PR e27 := envD_ok eqsT_ok (TabPOk.cons of_ok TabPOk.nil) TabHOk.nil TabLOk.nil (TabDOk.cons n10 g10_ok (TabDOk.cons n19 g19_ok (TabDOk.cons n56 g56_ok TabDOk.nil)))
theorem cx27 : Ctx PR e27 [] (fun _ => none) 2000 27 := ctxB e27_ok mixed (by kernel_rfl)
theorem n27 : Enters PR 27 := entersB (by kernel_rfl)
noncomputable def g27 : List AV -> Option (Bool × AV) := (inlineC PR e27 6 2000 27)
theorem g27_ok : CallOk PR 27 g27 := (.inl ⟨n27, inlineC_ok cx27 rfl rfl⟩)
theorem call_true {P : Program} {f : FuncId} {g : List AV -> Option (Bool × AV)} (hg : CallOk P f g) (h : g [] = some (true, kBool.enc true)) : CallOk P f (fn0 kBool true) := by
 refine hg.weaken fun args r hx => ?_
 cases args with
 | nil =>
  have h2 : r = kBool.enc true := by
   have := Option.some.inj hx
   simp only [Prod.mk.injEq, true_and] at this
   exact this.symm
  rw [h2]; exact h
 | cons a t => cases hx
theorem intOf_is {k : IntKind} {a : AV} {n : Int} (h : intOf k a = some n) : a = .v (.int k n) := by
 unfold intOf at h
 split at h
 . rename_i k' m
   split at h
   . rename_i hk
     have hk := of_decide_eq_true hk
     simp only [Option.some.injEq] at h
     rw [hk, h]
   . cases h
 . cases h
theorem pure_at {P : Program} {f : Nat} {g : List AV -> Option (Bool × AV)} (hg : PureOk P f g) {β : Type} {B : Cod β} {i : Int} {y : β} {r : AV} (h : g [(kInt .i64).enc i] = some (true, r)) (hf : flat r = some (B.val y)) :
 PureOk P f (fnQ1 (kInt .i64) B (fun j => decide (j = i)) (fun _ => y)) := by
 intro ρ args xs r' hr hx w hw
 unfold fnQ1 at hr
 split at hr
 . rename_i a
   split at hr
   . rename_i j hj
     simp only [Option.some.injEq, Prod.mk.injEq] at hr
     obtain ⟨h1, rfl⟩ := hr
     have h1 := of_decide_eq_true h1
     subst h1
     have ha : a = (kInt .i64).enc j := intOf_is hj
     subst ha
     refine Calls.mono (hg ρ _ xs r h hx w hw) ?_
     rintro e w' ⟨v, rfl, hv, hb⟩
     have e := hv.flat_eq hf
     exact ⟨v, rfl, by rw [e]; exact .of_flat (B.h1 y), hb⟩
   . cases hr
 . cases hr
theorem aw_run : g27 [] = some (true, kBool.enc true) := by kernel_rfl
theorem aw_ok : CallOk PR 27 (fn0 kBool true) := call_true g27_ok aw_run
def hL : Kz := (1, zPx, (680769#64, 739834#64, false))
def bqL (i : Int) : Bool := decide (i = 1)
def bL (_ : Int) : Kz × Int := (hL, 0)
def ansO : Option (Bool × AV) -> Option Value
 | some (true, r) => flat r
 | _ => none
theorem ansO_is {o : Option (Bool × AV)} {v : Value} (h : ansO o = some v) : ∃ r, o = some (true, r) /\ flat r = some v := by
 unfold ansO at h
 split at h
 . rename_i r
   exact ⟨r, rfl, h⟩
 . cases h
theorem bL_run : ansO (g31 [(kInt .i64).enc 1]) = some (kKzE.val (hL, 0)) := by kernel_rfl
theorem bL_ok : CallOk PR 31 (fnQ1 (kInt .i64) kKzE bqL bL) := by
 obtain ⟨r, h1, h2⟩ := ansO_is bL_run
 exact .inl ⟨n31, pure_at (inlineC_ok cx31 rfl rfl) h1 h2⟩
set_option maxRecDepth 100000 in
theorem hL_may : KZ hL = true := by kernel_rfl
section
variable {K : Kz -> Bool} {O : Int -> W6 × Int} {M : ZM} {A : ZZ} {N : Kz -> Kz × Int} {s : Int} {r : Nat} {Q : Q3} {P : Int -> W6 -> Bool} {AD SB ML : S3} {IV : Int -> W6 -> W6 × Int}
variable {G : Type} {g : Gm G} {ι : G -> Kz}
theorem zW6_val : zW6.val = 0 := by decide
end
section
variable {K : Kz -> Bool} {O : Int -> W6 × Int} {M : ZM} {A : ZZ} {N : Kz -> Kz × Int} {s : Int} {r : Nat} {Q : Q3} {P : Int -> W6 -> Bool} {AD SB ML : S3} {IV : Int -> W6 -> W6 × Int}
variable {G : Type} {g : Gm G} {ι : G -> Kz}
end
theorem li_sg : Sg KZ MZ AZ NZ 1 (suRn .lit) (glG .lit) (glI .lit) := sg_lit .lit Sm.inX Sm.adX Sm.muX Sm.neX
theorem li_ar : Ar OZ q2Z q1Z adZ sbZ mlZ ivZ 1 (suRn .lit) := ar_su (m := .rl) rfl rfl
theorem li_gen : ∃ γ, glI .lit γ = (GZ 1).1 := by
 obtain ⟨φ, h1, h2, -⟩ := su_allR 1 (by decide) (by decide)
 rw [h2]
 exact li_sg.all _ (h1.sui 1) (h1.chk 1)
set_option maxRecDepth 100000 in
theorem iv_none : (ivZ 1 zW6).2 = 6 := by kernel_rfl
theorem iv_zero (x : W6) (h : x.val = 0) : (ivZ 1 x).2 ≠ 0 := by
 have e : x = zW6 := W6.val_inj (h.trans zW6_val.symm)
 rw [e, iv_none]; decide
theorem pb_li {h : Kz} (hs : h.1 = 1) (hk : KZ h = true) {w1 l0 l1 o less : W6} (h1 : w1.val = 1) (n : Nat) (q0 : l0.val < suRn .lit) (q1 : l1.val < suRn .lit) (ho : o.val < suRn .lit) (hl : less.val < suRn .lit)
 (hs' : (less.val + o.val) % suRn .lit = 0) {p : W6 × Kz} (hp : p = pbL (fun k => (adZ 1 k w1).1) (fun x => (AZ x (GZ 1).1).1) (MZ h o).1 n (zW6, (MZ (GZ 1).1 zW6).1)) (hm : p.2 = (MZ h o).1) :
 AZ (MZ (GZ 1).1 (adZ 1 l0 p.1).1).1 (MZ h (adZ 1 l1 less).1).1 = AZ (MZ (GZ 1).1 l0).1 (MZ h l1).1 /\
 ((ivZ 1 (sbZ 1 (adZ 1 l1 less).1 l1).1).2 = 0 -> MZ (GZ 1).1 (mlZ 1 (sbZ 1 l0 (adZ 1 l0 p.1).1).1 (ivZ 1 (sbZ 1 (adZ 1 l1 less).1 l1).1).1).1 = (h, 0)) := by
 obtain ⟨γ, hγ⟩ := li_gen
 obtain ⟨η, hη⟩ := li_sg.all h hs hk
 rw [<- hγ] at hp ⊢
 rw [<- hη] at hp hm ⊢
 have hr : 1 < suRn .lit := by decide
 have z0 : zW6.val < suRn .lit := by rw [zW6_val]; exact Nat.lt_trans (by decide) hr
 have e0 : (MZ (glI .lit γ) zW6).1 = glI .lit ((glG .lit).mul zW6.val γ) := by rw [li_sg.mul γ zW6 z0]
 obtain ⟨i1, i2⟩ := pbL_inv li_sg li_ar γ h1 hr (MZ (glI .lit η) o).1 n (zW6, (MZ (glI .lit γ) zW6).1) z0 e0
 rw [<- hp] at i1 i2
 exact pb_true li_sg li_ar hr γ η q0 q1 ho i1 hl hs' iv_zero (i2.symm.trans hm)
theorem pure4X {P : Program} {f : Nat} {α β γ δ ε : Type} {A : Cod α} {B : Cod β} {C : Cod γ} {D : Cod δ} {G : Cod ε} {F : α -> γ -> δ -> ε -> β} (h : ∀ x y z u, GivesX P f [A.enc x, C.enc y, D.enc z, G.enc u] (B.val (F x y z u))) : PureOk P f (fn4 A C D G B F) := by
 refine pure_coreX fun args r hg => ?_
 unfold fn4 at hg
 split at hg
 . rename_i a c d g
   split at hg
   . rename_i x y z u hx hy hz hu
     simp only [Option.some.injEq, Prod.mk.injEq, true_and] at hg
     subst hg
     refine ⟨[A.enc x, C.enc y, D.enc z, G.enc u], [A.val x, C.val y, D.val z, G.val u], fun ρ xs hxs => ?_, by simp [flatL, A.h1, C.h1, D.h1, G.h1], _, B.h1 _, h x y z u⟩
     obtain ⟨v1, l1, rfl, h1, k1⟩ := hxs.uncons
     obtain ⟨v2, l2, rfl, h2, k2⟩ := k1.uncons
     obtain ⟨v3, l3, rfl, h3, k3⟩ := k2.uncons
     obtain ⟨v4, l4, rfl, h4, k4⟩ := k3.uncons
     rw [k4.unnil, A.h2 ρ _ _ _ hx h1, C.h2 ρ _ _ _ hy h2, D.h2 ρ _ _ _ hz h3, G.h2 ρ _ _ _ hu h4]
   . cases hg
 . cases hg
noncomputable def poL : PO := ⟨OZ, cmpX, GZ, bqL, bL, MZ, AZ⟩
noncomputable def pbO : PT := ⟨OZ, divF, q2Z, q1Z, adZ, sbZ, mlZ, ivZ, ngZ, GZ, bqL, bL, MZ, AZ, KZ, oneQ poL, oneK poL⟩
theorem oneL_ok : CallOk PR 41 (oneV (oneQ poL) (oneK poL)) := one_ok (t := poL) OZ_ok cmp_ok GZ_ok bL_ok MZ_ok AZ_ok
theorem pbO_ok : EnvOk PR (pbE pbO) :=
 envD_ok eqsT_ok (TabPOk.cons aw_ok (TabPOk.cons GZ_ok (TabPOk.cons bL_ok (TabPOk.cons ngZ_ok (TabPOk.cons adZ_ok (TabPOk.cons sbZ_ok (TabPOk.cons mlZ_ok (TabPOk.cons ivZ_ok (TabPOk.cons MZ_ok (TabPOk.cons AZ_ok (TabPOk.cons of_ok (TabPOk.cons pk_ok TabPOk.nil))))))))))))
  TabHOk.nil TabLOk.nil (TabDOk.cons sc_ent scZ_ok (TabDOk.cons cm_ent (cm_ok OZ_ok oneL_ok) (TabDOk.cons ho_ent (ho_ok (chV_ok (kchZ_ok inX_ok)) MZ_ok AZ_ok oneL_ok) TabDOk.nil)))
theorem pbO_q : pbO.q = q2Z := by simp only [pbO]
theorem pbO_p : pbO.p = q1Z := by simp only [pbO]
theorem pbO_ml : pbO.ml = mlZ := by simp only [pbO]
theorem pbO_iv : pbO.iv = ivZ := by simp only [pbO]
theorem pbO_gn : pbO.gn = GZ := by simp only [pbO]
theorem pbO_b : pbO.b = bL := by simp only [pbO]
theorem pbO_m : pbO.m = MZ := by simp only [pbO]
theorem pbO_k : pbO.k = KZ := by simp only [pbO]
theorem pbO_oq : pbO.oq = oneQ poL := by simp only [pbO]
theorem pbO_kk : pbO.ok = oneK poL := by simp only [pbO]
theorem pick_in {n : Int} (h0 : 0 < n) (hn : n < 1000000) (x : Int) : 0 <= pick n x /\ pick n x < n := by
 unfold pick
 have h1 := Int.lt_tmod_of_pos x h0
 have h2 := Int.tmod_lt_of_pos x h0
 cases hd : decide (Int.tmod x n < 0) with
 | true =>
  have hd := of_decide_eq_true hd
  rw [cond_true, wrap_id (by omega) (by omega)]
  omega
 | false =>
  have hd := of_decide_eq_false hd
  rw [cond_false]
  omega
theorem pbW_lt (y : Int) : (pbW y).val < 200 := by
 obtain ⟨h0, h1⟩ := pick_in (n := 200) (by decide) (by decide) y
 unfold pbW
 rw [ofW_val, BitVec.toNat_ofInt]
 omega
theorem li_r : suRn .lit = 65521 := by decide +kernel
theorem li_cut (x : W6) : (divF x (OZ 1).1).2.1.val < suRn .lit := by
 obtain ⟨φ, -, -, h⟩ := su_allR 1 (by decide) (by decide)
 exact h x
theorem li_ge {x : W6} (h : x.val < suRn .lit) : geR OZ cmpX 1 x = false := by
 obtain ⟨φ, k, -, -⟩ := su_allR 1 (by decide) (by decide)
 unfold geR
 exact k.cmp x h
theorem li_h : ∃ η, glI .lit η = hL := li_sg.all hL rfl hL_may
theorem one_li {u v : W6} (hu : u.val < suRn .lit) (hv : v.val < suRn .lit) : oneQ poL 1 u v = true /\ KZ (oneK poL 1 u v) = true /\ (oneK poL 1 u v).1 = 1 /\ oneK poL 1 u v = (AZ (MZ (GZ 1).1 u).1 (MZ hL v).1).1 := by
 obtain ⟨γ, hγ⟩ := li_gen
 obtain ⟨η, hη⟩ := li_h
 have e1 : onR poL 1 u v = AZ (MZ (GZ 1).1 u).1 (MZ hL v).1 := by
  unfold onR poL bL
  rfl
 have e2 := one_is li_sg γ η hu hv
 rw [hγ, hη] at e2
 have e3 : oneK poL 1 u v = (AZ (MZ (GZ 1).1 u).1 (MZ hL v).1).1 := by
  unfold oneK
  rw [e1]
 refine ⟨?_, ?_, ?_, e3⟩
 . unfold oneQ
   rw [e1, e2]
   unfold onC
   have e4 : (poL.o 1).2 = 0 := li_ar.oz
   have e5 : geR poL.o poL.c 1 u = false := li_ge hu
   have e6 : geR poL.o poL.c 1 v = false := li_ge hv
   have e7 : poL.bq 1 = true := rfl
   rw [e4, e5, e6, e7]
   rfl
 . rw [e3, e2]; exact li_sg.may _
 . rw [e3, e2]; exact li_sg.sui _
theorem w6o_val : w6o.val = 1 := by decide +kernel
theorem w6z_eq : w6z = zW6 := rfl
theorem li_ng {x : W6} (h : x.val < suRn .lit) : (ngZ 1 x).1.val < suRn .lit /\ ((ngZ 1 x).1.val + x.val) % suRn .lit = 0 := by
 have e : (ngZ 1 x).1 = (sbZ 1 zW6 x).1 := rfl
 have z : zW6.val < suRn .lit := by rw [zW6_val, li_r]; decide
 have k := (li_ar.sb zW6 x z h).2
 rw [e, k, zW6_val, li_r]
 rw [li_r] at h
 refine ⟨Nat.mod_lt _ (by decide), ?_⟩
 omega
theorem pb_h (a b : W6) (x y : Int) : PbH pbO a b x y (pbF pbO y) := by
 have r0 : 1 < suRn .lit := by rw [li_r]; decide
 have o1 : (pbW y).val < suRn .lit := by rw [li_r]; exact Nat.lt_trans (pbW_lt y) (by decide)
 have a0 : (pbA0 pbO a).val < suRn .lit := li_cut a
 have b0 : (pbA0 pbO b).val < suRn .lit := li_cut b
 obtain ⟨l1, l2⟩ := li_ng o1
 have l1 : (pbLe pbO y).val < suRn .lit := l1
 have l2 : ((pbLe pbO y).val + (pbW y).val) % suRn .lit = 0 := l2
 obtain ⟨c1, c2, c3, c4⟩ := one_li a0 b0
 have ad_lt : ∀ u v : W6, u.val < suRn .lit -> v.val < suRn .lit -> (adZ 1 u v).1.val < suRn .lit := fun u v hu hv => by
  rw [(li_ar.ad u v hu hv).2]; exact Nat.mod_lt _ (by omega)
 have sb_lt : ∀ u v : W6, u.val < suRn .lit -> v.val < suRn .lit -> (sbZ 1 u v).1.val < suRn .lit := fun u v hu hv => by
  rw [(li_ar.sb u v hu hv).2]; exact Nat.mod_lt _ (by omega)
 have bl : (pbBl pbO b y).val < suRn .lit := ad_lt _ _ b0 l1
 have dn : (pbDo pbO b y).val < suRn .lit := sb_lt _ _ bl b0
 have qa : pbQa pbO b y = true := by unfold pbQa; rw [pbO_q]; exact li_ar.q _ _ b0 l1
 refine ⟨?_, rfl, li_ar.p _ o1, qa, fun he => ?_⟩
 . have e1 : (pbO.o 1).2 = 0 := li_ar.oz
   have e2 : pbO.oq 1 (pbA0 pbO a) (pbA0 pbO b) = true := by rw [pbO_oq]; exact c1
   unfold pbC5
   rw [e1, e2]
   rfl
 . have he : (pbF pbO y).2 = (MZ hL (pbW y)).1 := (eqKz_iff _ _).1 he
   obtain ⟨γ, hγ⟩ := li_gen
   have z0 : w6z.val < suRn .lit := by rw [w6z_eq, zW6_val]; omega
   have e0 : (MZ (glI .lit γ) w6z).1 = glI .lit ((glG .lit).mul w6z.val γ) := by rw [li_sg.mul γ w6z z0]
   obtain ⟨i1, -⟩ := pbL_inv li_sg li_ar γ w6o_val r0 (MZ hL (pbW y)).1 300 (w6z, (MZ (glI .lit γ) w6z).1) z0 e0
   rw [hγ] at i1
   have i1 : (pbF pbO y).1.val < suRn .lit := i1
   have ot : (pbOt pbO a (pbF pbO y)).val < suRn .lit := ad_lt _ _ a0 i1
   have di : (pbDi pbO a (pbF pbO y)).val < suRn .lit := sb_lt _ _ a0 ot
   obtain ⟨d1, d2, d3, d4⟩ := one_li ot bl
   have hp : pbF pbO y = pbL (fun k => (adZ 1 k w6o).1) (fun x => (AZ x (GZ 1).1).1) (MZ hL (pbW y)).1 300 (zW6, (MZ (GZ 1).1 zW6).1) := by kernel_rfl
   obtain ⟨m1, m2⟩ := pb_li rfl hL_may w6o_val 300 a0 b0 o1 l1 l2 hp he
   generalize hf : pbF pbO y = f at *
   have q1 : pbQb pbO a f = true := by unfold pbQb; rw [pbO_q]; exact li_ar.q _ _ a0 i1
   have q2 : pbQc pbO a f = true := by unfold pbQc; rw [pbO_q]; exact li_ar.q _ _ a0 ot
   have q3 : pbQd pbO b y = true := by unfold pbQd; rw [pbO_q]; exact li_ar.q _ _ bl b0
   have q4 : pbO.p 1 (pbDo pbO b y) = true := by rw [pbO_p]; exact li_ar.p _ dn
   refine ⟨q1, ?_, q2, q3, q4, ?_, fun hi => ⟨?_, ?_⟩⟩
   . have k1 : pbO.k (pbK pbO a b) = true := by rw [pbO_k]; unfold pbK; rw [pbO_kk]; exact c2
     have k2 : (pbK pbO a b).1 = 1 := by unfold pbK; rw [pbO_kk]; exact c3
     have k3 : pbO.oq 1 (pbOt pbO a f) (pbBl pbO b y) = true := by rw [pbO_oq]; exact d1
     obtain ⟨p0, p1⟩ := pick_in (n := 41) (by decide) (by decide) x
     have k4 : decide (pick 41 x < 0) = false := decide_eq_false (by omega)
     have k5 : decide (pick 41 x > 1000) = false := decide_eq_false (by omega)
     unfold pbHq hoC atC chC
     rw [k1, k2, k3, k4, k5]
     rfl
   . have k2 : (pbK pbO a b).1 = 1 := by unfold pbK; rw [pbO_kk]; exact c3
     have k3 : pbK pbO a b = oneK poL 1 (pbA0 pbO a) (pbA0 pbO b) := by unfold pbK; rw [pbO_kk]
     unfold pbHv
     rw [k2, k3, pbO_kk]
     refine (eqKz_iff _ _).2 ?_
     rw [c4, d4]
     exact congrArg Prod.fst m1
   . rw [pbO_iv] at hi
     have nz : (pbDo pbO b y).val ≠ 0 := fun e => iv_zero _ e hi
     unfold pbQe
     rw [pbO_q, pbO_iv]
     exact li_ar.q _ _ di (li_ar.iv _ dn nz).2.1
   . rw [pbO_iv] at hi
     have m3 := m2 hi
     unfold pbFv
     rw [pbO_m, pbO_gn, pbO_ml, pbO_iv, pbO_b]
     refine (eqKz_iff _ _).2 ?_
     exact congrArg Prod.fst m3
theorem pb_q (k : W6) (h : k.val < suRn .lit) : pbO.q 1 k w6o = true /\ (pbO.ad 1 k w6o).1.val < suRn .lit := by
 have o : w6o.val < suRn .lit := by rw [w6o_val, li_r]; decide
 exact ⟨li_ar.q _ _ h o, by show (adZ 1 k w6o).1.val < _; rw [(li_ar.ad _ _ h o).2]; exact Nat.mod_lt _ (by rw [li_r]; decide)⟩
theorem law_pure : PureOk PR 5 (fn4 c6.agg c6.agg (kInt .i64) (kInt .i64) kBool (fun _ _ _ _ => true)) :=
 pure4X fun a b x y => .of (pb_ctx pbO_ok a b x y (G := fun k => k.val < suRn .lit) pb_q (by show w6z.val < _; rw [w6z_eq, zW6_val, li_r]; decide)) (pb_gives (pb_h a b x y))
end Go.Rq.Cl

namespace Go.Rq.LwB
open Go Go.Proofs Go.Rq Go.Rq.Sm
theorem law_pure : PureOk PR 5 (fn4 c6.agg c6.agg (kInt .i64) (kInt .i64) kBool (fun _ _ _ _ => true)) := Cl.law_pure
theorem law_fn (x0 x1 : W6) (x2 x3 : Int) : fn4 c6.agg c6.agg (kInt .i64) (kInt .i64) kBool (fun _ _ _ _ => true) [c6.agg.enc x0, c6.agg.enc x1, (kInt .i64).enc x2, (kInt .i64).enc x3] = some (true, kBool.enc true) := by kernel_rfl
theorem law_rvs (x0 x1 : W6) (x2 x3 : Int) (ρ : Ren) : Rvs ρ [c6.agg.enc x0, c6.agg.enc x1, (kInt .i64).enc x2, (kInt .i64).enc x3] [c6.agg.val x0, c6.agg.val x1, (kInt .i64).val x2, (kInt .i64).val x3] :=
 Rvs.of_flatL (by simp [flatL, (kInt .i64).h1, c6.agg.h1])
end Go.Rq.LwB

namespace Go.Rq.Cl
open Go Go.Proofs Go.Rq Go.Rq.Sm
theorem row_told {P : Program} {w : World} {base : Nat} {sp : Nat -> Bool} {held : Bool} {fuel : Nat} {t e : TypeId} {cs : List Value} {p : List MemPlace} {vals : List Int} (ht : P.underlying t = some (.array vals.length e)) (he : P.underlying e = some (.int .u32)) (h1 : P.cellsOf e = 1) (ht1 : P.cellsOf t = vals.length)
 (h : DataW.trod (fun _ => ()) P w base sp held fuel t cs = some (.agg (vals.map fun n => .lit (.int .u32 n)), p)) : cs = vals.map fun n => .int .u32 n := by
 obtain ⟨xs, m, -, hx, hl, hn, hel⟩ := DataW.trod_array ht h
 simp only [Prod.mk.injEq, DataW.agg.injEq] at hx
 obtain ⟨hx, -⟩ := hx
 rw [ht1] at hl
 apply List.ext_getElem?
 intro i
 by_cases hi : i < vals.length
 . have hi2 := hel i hi
   rw [h1, Nat.mul_one, List.getElem?_eq_getElem (by rw [hn]; exact hi)] at hi2
   obtain ⟨n, e1, e2, -⟩ := DataW.trod_int he hi2
   have e3 : (vals.map fun n => (DataW.lit (.int .u32 n) : DataW Unit))[i]? = some (xs[i]'(by rw [hn]; exact hi)).1 := by
    rw [hx, List.getElem?_map, List.getElem?_eq_getElem (by rw [hn]; exact hi)]
    rfl
   rw [e2, List.getElem?_map, List.getElem?_eq_getElem hi] at e3
   simp only [Option.map_some, Option.some.injEq, DataW.lit.injEq, Lit.int.injEq, true_and] at e3
   have e4 : cs[i]? = some (.int .u32 n) := by
    have := congrArg (fun l => l[0]?) e1
    simpa [List.getElem?_take, List.getElem?_drop] using this
   rw [e4, List.getElem?_map, List.getElem?_eq_getElem hi, <- e3]
   rfl
 . rw [List.getElem?_eq_none (by omega), List.getElem?_eq_none (by rw [List.length_map]; omega)]
theorem shaK_vals : shaK = shaKI.map fun n => .int .u32 n := by kernel_rfl
theorem k_type : (Tryz.prog.globals[0]?).map (·.type) = some 255 := by kernel_rfl
theorem k_laid : (YtedplhdabefnkaaGreatDoor.Rows.laid_reliquary_digest_k : DataW Unit) = .agg (shaKI.map fun n => .lit (.int .u32 n)) := by kernel_rfl
theorem gw_of_laid {W : World} {nm : String} (h : laidMetH Tryz.prog [(nm, YtedplhdabefnkaaGreatDoor.Rows.laid_reliquary_digest_k)] W) (k_glob : Tryz.prog.globalNamed nm = some 0) : GW W := by
 rw [MakeChecks.laidMetH_plain _ _ _ (by kernel_rfl)] at h
 obtain ⟨ps, ⟨g0, t0, cs0, f0, p0, q0, hg0, ht0, hv0, hd0, _, _⟩, _⟩ := h
 obtain rfl := Option.some.inj (k_glob.symm.trans hg0)
 obtain rfl := Option.some.inj (k_type.symm.trans ht0)
 rw [k_laid] at hd0
 have hcs := row_told (vals := shaKI) (e := 236) (by kernel_rfl) (by kernel_rfl) (by kernel_rfl) (by kernel_rfl) hd0
 intro g cs hg
 have hg : g = 0 /\ cs = shaK := by
  unfold gTab at hg
  split at hg
  . exact ⟨rfl, by simpa using hg.symm⟩
  . cases hg
 obtain ⟨rfl, rfl⟩ := hg
 simp only [World.var?, k_glob, Option.bind_some] at hv0
 split at hv0
 . rename_i c ty fr hh
   simp only [Option.some.injEq] at hv0
   subst hv0
   exact ⟨_, ty, fr, hh, by rw [hcs, shaK_vals]⟩
 . cases hv0
end Go.Rq.Cl
