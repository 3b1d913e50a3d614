import Derived.Test.YtbamkkbefjgeoaaGreatDoorRq43
import Derived.Test.YtbamkkbefjgeoaaGreatDoorRq05
namespace Go.Rq.Cl
open Go Go.Proofs Go.Rq Go.Rq.Sm
def md28_0 : MemD := ⟨[.agg [.v (.int .i64 (.ofNat 1)), .u (BitVec.ofNat 64 0), .u (BitVec.ofNat 64 0), .u (BitVec.ofNat 64 0), .u (BitVec.ofNat 64 0), .u (BitVec.ofNat 64 0), .u (BitVec.ofNat 64 0), .u (BitVec.ofNat 64 0), .u (BitVec.ofNat 64 0), .u (BitVec.ofNat 64 0), .u (BitVec.ofNat 64 0), .u (BitVec.ofNat 64 0), .u (BitVec.ofNat 64 0), .v (.bool false), .u (BitVec.ofNat 64 9723), .u (BitVec.ofNat 64 164643), .v (.bool false)], .agg [.u (BitVec.ofNat 64 5), .u (BitVec.ofNat 64 0), .u (BitVec.ofNat 64 0), .u (BitVec.ofNat 64 0), .u (BitVec.ofNat 64 0), .u (BitVec.ofNat 64 0)], .agg [.u (BitVec.ofNat 64 7), .u (BitVec.ofNat 64 0), .u (BitVec.ofNat 64 0), .u (BitVec.ofNat 64 0), .u (BitVec.ofNat 64 0), .u (BitVec.ofNat 64 0)], .slc 0 0 5 5], [(0, some ⟨false, 5, [.v (.int .u8 119), .v (.int .u8 111), .v (.int .u8 114), .v (.int .u8 100), .v (.int .u8 115)]⟩)], .tup [.agg [.v (.int .i64 (.ofNat 1)), .u (BitVec.ofNat 64 0), .u (BitVec.ofNat 64 0), .u (BitVec.ofNat 64 0), .u (BitVec.ofNat 64 0), .u (BitVec.ofNat 64 0), .u (BitVec.ofNat 64 0), .u (BitVec.ofNat 64 0), .u (BitVec.ofNat 64 0), .u (BitVec.ofNat 64 0), .u (BitVec.ofNat 64 0), .u (BitVec.ofNat 64 0), .u (BitVec.ofNat 64 0), .v (.bool false), .u (BitVec.ofNat 64 489674), .u (BitVec.ofNat 64 271737), .v (.bool false), .u (BitVec.ofNat 64 15465), .u (BitVec.ofNat 64 0), .u (BitVec.ofNat 64 0), .u (BitVec.ofNat 64 0), .u (BitVec.ofNat 64 0), .u (BitVec.ofNat 64 0)], .v (.int .i64 (.ofNat 0))]⟩
set_option maxRecDepth 1000000 in
theorem mf28_0 : outC2 (outC (crunF PR e28 6 2000 28 md28_0.as md28_0.h md28_0.h.length)) = some md28_0.r := by kernel_rfl
def mt28 : List MemD := [md28_0]
theorem mt28_ok : MemOk PR e28 6 2000 28 mt28 := (MemOk.cons mf28_0 MemOk.nil)
noncomputable def g28 : List AV -> AH -> Nat -> Option (Bool × AV × AH) := canG (memoD mt28 (deepC2 PR e28 6 2000 28 4096 true))
theorem g28_ok : ActOk PR 4096 28 g28 := memoD_ok cx28 rfl rfl mt28_ok (by kernel_rfl)
noncomputable def e95 : Env := envD eqsT [(126, (fn3 kCv cLp.agg cLp.agg cLp.agg lSum))] [] [] [(81, g81)] [9] false [81]
theorem e95_ok : EnvOk PR e95 := envD_ok eqsT_ok (TabPOk.cons lsm_ok TabPOk.nil) TabHOk.nil TabLOk.nil (TabDOk.cons n81 g81_ok TabDOk.nil)
theorem cx95 : Ctx PR e95 [] (fun _ => none) 2000 95 := ctxB e95_ok mixed (by kernel_rfl)
theorem n95 : Enters PR 95 := entersB (by kernel_rfl)
noncomputable def g95 : List AV -> Option (Bool × AV) := (inlineC PR e95 5 2000 95)
theorem g95_ok : CallOk PR 95 g95 := (.inl ⟨n95, inlineC_ok cx95 rfl rfl⟩)
noncomputable def e50 : Env := envD eqsT [(95, g95)] [] [] [(35, g35)] [9] false [35]
theorem e50_ok : EnvOk PR e50 := envD_ok eqsT_ok (TabPOk.cons g95_ok TabPOk.nil) TabHOk.nil TabLOk.nil (TabDOk.cons n35 g35_ok TabDOk.nil)
theorem cx50 : Ctx PR e50 [] (fun _ => none) 2000 50 := ctxB e50_ok mixed (by kernel_rfl)
theorem n50 : Enters PR 50 := entersB (by kernel_rfl)
noncomputable def g50 : List AV -> Option (Bool × AV) := (inlineC PR e50 6 2000 50)
theorem g50_ok : CallOk PR 50 g50 := (.inl ⟨n50, inlineC_ok cx50 rfl rfl⟩)
noncomputable def e44 : Env := envD eqsT [(49, g49), (50, g50)] [] [] [] [9] false []
theorem e44_ok : EnvOk PR e44 := envD_ok eqsT_ok (TabPOk.cons g49_ok (TabPOk.cons g50_ok TabPOk.nil)) TabHOk.nil TabLOk.nil TabDOk.nil
theorem cx44 : Ctx PR e44 [] (fun _ => none) 2000 44 := ctxB e44_ok mixed (by kernel_rfl)
theorem n44 : Enters PR 44 := entersB (by kernel_rfl)
noncomputable def g44 : List AV -> Option (Bool × AV) := (inlineC PR e44 5 2000 44)
theorem g44_ok : CallOk PR 44 g44 := (.inl ⟨n44, inlineC_ok cx44 rfl rfl⟩)
noncomputable def e30 : Env := envD eqsT [(44, g44)] [] [] [(43, g43), (70, g70)] [9] false [43, 70]
theorem e30_ok : EnvOk PR e30 := envD_ok eqsT_ok (TabPOk.cons g44_ok TabPOk.nil) TabHOk.nil TabLOk.nil (TabDOk.cons n43 g43_ok (TabDOk.cons n70 g70_ok TabDOk.nil))
theorem cx30 : Ctx PR e30 [] (fun _ => none) 2000 30 := ctxB e30_ok mixed (by kernel_rfl)
theorem n30 : Enters PR 30 := entersB (by kernel_rfl)
end Go.Rq.Cl
