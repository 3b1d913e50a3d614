/- ChannelNil: the law's function comes to true. -/
import Derived.Test.YtjalgmofcibknaaGreatDoorProg
import Derived.Test.YtjalgmofcibknaaGreatDoorRqX
namespace Go.Rq
open Go Go.Proofs

noncomputable def PC : Program := Tryz.prog
theorem cMixed : PC.follows .mixedOrders = true := by kernel_rfl
noncomputable def cE0 : Env := envH [] [] []
theorem cE0_ok : EnvOk PC cE0 := envH_ok EqsOk.nil TabPOk.nil TabHOk.nil
theorem c17 : Ctx PC cE0 [] (fun _ => none) 40 17 := ctx_of cE0_ok cMixed (fn := Tryz.f17) (by kernel_rfl) (by kernel_rfl) (by kernel_rfl) (tabOk_none _)
noncomputable def cH1 : HeapTab := [(17, viewG PC cE0 [] 40 17)]
theorem cH1_ok : TabHOk PC cH1 := TabHOk.cons (enters_of (fn := Tryz.f17) (by kernel_rfl) (by kernel_rfl) (by kernel_rfl)) (view_ok c17) TabHOk.nil
noncomputable def cE1 : Env := envH [] [] cH1
theorem cE1_ok : EnvOk PC cE1 := envH_ok EqsOk.nil TabPOk.nil cH1_ok
theorem c4 : Ctx PC cE1 [] (fun _ => none) 40 4 := ctx_of cE1_ok cMixed (fn := Tryz.f4) (by kernel_rfl) (by kernel_rfl) (by kernel_rfl) (tabOk_none _)
theorem c5 : Ctx PC cE1 [] (fun _ => none) 40 5 := ctx_of cE1_ok cMixed (fn := Tryz.f5) (by kernel_rfl) (by kernel_rfl) (by kernel_rfl) (tabOk_none _)
theorem c6x : Ctx PC cE1 [] (fun _ => none) 40 6 := ctx_of cE1_ok cMixed (fn := Tryz.f6) (by kernel_rfl) (by kernel_rfl) (by kernel_rfl) (tabOk_none _)
theorem c7 : Ctx PC cE1 [] (fun _ => none) 40 7 := ctx_of cE1_ok cMixed (fn := Tryz.f7) (by kernel_rfl) (by kernel_rfl) (by kernel_rfl) (tabOk_none _)
theorem c8 : Ctx PC cE1 [] (fun _ => none) 40 8 := ctx_of cE1_ok cMixed (fn := Tryz.f8) (by kernel_rfl) (by kernel_rfl) (by kernel_rfl) (tabOk_none _)
noncomputable def cH2 : HeapTab := [(4, viewG PC cE1 [] 40 4), (5, viewG PC cE1 [] 40 5), (6, viewG PC cE1 [] 40 6), (7, viewG PC cE1 [] 40 7), (8, viewG PC cE1 [] 40 8)]
theorem cH2_ok : TabHOk PC cH2 :=
  TabHOk.cons (enters_of (fn := Tryz.f4) (by kernel_rfl) (by kernel_rfl) (by kernel_rfl)) (view_ok c4) (TabHOk.cons (enters_of (fn := Tryz.f5) (by kernel_rfl) (by kernel_rfl) (by kernel_rfl)) (view_ok c5)
  (TabHOk.cons (enters_of (fn := Tryz.f6) (by kernel_rfl) (by kernel_rfl) (by kernel_rfl)) (view_ok c6x) (TabHOk.cons (enters_of (fn := Tryz.f7) (by kernel_rfl) (by kernel_rfl) (by kernel_rfl)) (view_ok c7)
  (TabHOk.cons (enters_of (fn := Tryz.f8) (by kernel_rfl) (by kernel_rfl) (by kernel_rfl)) (view_ok c8) TabHOk.nil))))
noncomputable def cE2 : Env := envH [] [] cH2
theorem cE2_ok : EnvOk PC cE2 := envH_ok EqsOk.nil TabPOk.nil cH2_ok
theorem c3 : Ctx PC cE2 [] (fun _ => none) 40 3 := ctx_of cE2_ok cMixed (fn := Tryz.f3) (by kernel_rfl) (by kernel_rfl) (by kernel_rfl) (tabOk_none _)
set_option maxRecDepth 100000 in
theorem c3_run : (afunR PC cE2 [] (fun _ => none) 40 3 [.any, .any]).strict = .leaf (.lit true) := by kernel_rfl
end Go.Rq
