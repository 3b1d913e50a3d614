/- Contracts of functions, by the abstract machine. Written by a program of ours. -/
import Derived.Test.YtbamkkbefjgeoaaGreatDoorProg
import Derived.Test.YtbamkkbefjgeoaaGreatDoorRq06
namespace Go.Rq
open Go Go.Proofs

noncomputable def PR : Program := Tryz.prog

theorem mixed : PR.follows .mixedOrders = true := by kernel_rfl

/-- Types whose values are equal cell by cell. -/
def eqsT : List (TypeId × List Nat) := [(174, [1, 1, 1, 1, 1, 1]), (25, [1, 1, 1, 1, 1, 1]), (30, [1, 1, 1, 1, 1, 1, 1, 1, 1, 1, 1, 1, 0]), (32, [1, 1, 0]), (34, [1, 1, 1, 1, 1, 1, 1, 1, 1, 1, 1, 1, 1, 0, 1, 1, 0])]
theorem eqsT_ok : EqsOk PR eqsT := (EqsOk.cons (by kernel_rfl) (by kernel_rfl) (by kernel_rfl) (EqsOk.cons (by kernel_rfl) (by kernel_rfl) (by kernel_rfl) (EqsOk.cons (by kernel_rfl) (by kernel_rfl) (by kernel_rfl) (EqsOk.cons (by kernel_rfl) (by kernel_rfl) (by kernel_rfl) (EqsOk.cons (by kernel_rfl) (by kernel_rfl) (by kernel_rfl) EqsOk.nil)))))

def T0 : PureTab := []
theorem T0_ok : TabPOk PR T0 := TabPOk.nil

def kUU : Cod (BitVec 64 × BitVec 64) := kTup kU kU (fun _ => rfl) (fun _ => rfl)

theorem add64_ok : CallOk PR 129 (fn3 kU kU kBit kUB add64) :=
  .inr (ext3 (fn := Tryz.f129) (by kernel_rfl) (by kernel_rfl) (by kernel_rfl) (by kernel_rfl) (r := add64Row) (by kernel_rfl) add64_run)
def T_add64 : PureTab := (129, fn3 kU kU kBit kUB add64) :: T0
theorem T_add64_ok : TabPOk PR T_add64 := TabPOk.cons add64_ok T0_ok

theorem sub64_ok : CallOk PR 118 (fn3 kU kU kBit kUB sub64) :=
  .inr (ext3 (fn := Tryz.f118) (by kernel_rfl) (by kernel_rfl) (by kernel_rfl) (by kernel_rfl) (r := sub64Row) (by kernel_rfl) sub64_run)
def T_sub64 : PureTab := (118, fn3 kU kU kBit kUB sub64) :: T_add64
theorem T_sub64_ok : TabPOk PR T_sub64 := TabPOk.cons sub64_ok T_add64_ok

theorem mul64_ctx : Ctx PR (envOf eqsT T_sub64) [] (fun _ => none) 400 128 :=
  ctx_of (envOf_ok eqsT_ok T_sub64_ok) mixed (fn := Tryz.f128) (by kernel_rfl) (by kernel_rfl) (by kernel_rfl) (tabOk_none _)
theorem mul64_run (x y : BitVec 64) : (afunR PR (envOf eqsT T_sub64) [] (fun _ => none) 400 128 [kU.enc x, kU.enc y]).strict = .leaf (kUU.enc (mulGo x y)) := by kernel_rfl
theorem mul64_ok : CallOk PR 128 (fn2 kU kU kUU mul64) :=
  .inl ⟨enters_of (fn := Tryz.f128) (by kernel_rfl) (by kernel_rfl) (by kernel_rfl), pure2 mul64_ctx (fun x y => leafVal (B := kUU) (y := mul64 x y) (by rw [mul64_run x y, mulGo_eq]))⟩
end Go.Rq
