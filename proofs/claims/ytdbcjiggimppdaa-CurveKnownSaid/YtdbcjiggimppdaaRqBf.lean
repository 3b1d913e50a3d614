/- The curves' functions: contracts. Written by a program of ours. -/
import Derived.Test.YtdbcjiggimppdaaRqBe
namespace Go.Rq
open Go Go.Proofs

theorem twW_ctx : Ctx PR (envOf eqsT (T1 fW)) [] (fun _ => none) 40 176 :=
  ctx_of (envOf_ok eqsT_ok T1_ok) mixed (fn := Try.f176) (by kernel_rfl) (by kernel_rfl) (by kernel_rfl) (tabOk_none _)
theorem twW_ok : CallOk PR 176 (fn2 flW.agg jW.agg jW.agg (fun _ p => twiceJ fW p)) :=
  .inl ⟨enters_of (fn := Try.f176) (by kernel_rfl) (by kernel_rfl) (by kernel_rfl), pure2 twW_ctx (fun f p => leafVal (B := jW.agg) (y := twiceJ fW p) (twW_run fW f p))⟩

theorem raW_ctx : Ctx PR (envOf eqsT (T1 fW)) [6] (fun _ => none) 40 139 :=
  ctx_of (envOf_ok eqsT_ok T1_ok) mixed (fn := Try.f139) (by kernel_rfl) (by kernel_rfl) (by kernel_rfl) (tabOk_none _)
theorem raW_ok : CallOk PR 139 (fn2 flW.agg aW.agg jW.agg (raiseJ fW)) :=
  .inl ⟨enters_of (fn := Try.f139) (by kernel_rfl) (by kernel_rfl) (by kernel_rfl), pure2 raW_ctx (fun f p => givesOf (raW_run fW f p) (holds_br (B := jW.agg) (holds_leaf (jW.agg.h1 _)) (holds_leaf (jW.agg.h1 _))))⟩

theorem loW_ctx : Ctx PR (envOf eqsT (T1 fW)) [11] (fun _ => none) 40 137 :=
  ctx_of (envOf_ok eqsT_ok T1_ok) mixed (fn := Try.f137) (by kernel_rfl) (by kernel_rfl) (by kernel_rfl) (tabOk_none _)
theorem loW_ok : CallOk PR 137 (fn2 flW.agg jW.agg aW.agg (fun _ p => lowerE fW eqW p)) :=
  .inl ⟨enters_of (fn := Try.f137) (by kernel_rfl) (by kernel_rfl) (by kernel_rfl), pure2 loW_ctx (fun f p => givesOf (loW_run fW f p) (holds_br (B := aW.agg) (holds_leaf (apFlatW _ _ _)) (holds_leaf (apFlatW _ _ _))))⟩

theorem neW_ctx : Ctx PR (envOf eqsT (T1 fW)) [] (fun _ => none) 40 92 :=
  ctx_of (envOf_ok eqsT_ok T1_ok) mixed (fn := Try.f92) (by kernel_rfl) (by kernel_rfl) (by kernel_rfl) (tabOk_none _)
theorem neW_ok : CallOk PR 92 (fn2 flW.agg aW.agg aW.agg (fun _ p => negE fW p)) :=
  .inl ⟨enters_of (fn := Try.f92) (by kernel_rfl) (by kernel_rfl) (by kernel_rfl), pure2 neW_ctx (fun f p => leafVal (B := aW.agg) (y := negE fW p) (neW_run fW f p))⟩

theorem onW_ctx : Ctx PR (envOf eqsT (T1 fW)) [7, 12] (fun _ => none) 40 86 :=
  ctx_of (envOf_ok eqsT_ok T1_ok) mixed (fn := Try.f86) (by kernel_rfl) (by kernel_rfl) (by kernel_rfl) (tabOk_none _)
theorem onW_ok : CallOk PR 86 (fn2 flW.agg aW.agg kBool (onE fW eqW)) :=
  .inl ⟨enters_of (fn := Try.f86) (by kernel_rfl) (by kernel_rfl) (by kernel_rfl), pure2 onW_ctx (fun f p => givesOf (onW_run fW f p) (holds_br (B := kBool) (holds_br (B := kBool) (holds_leaf (kBool.h1 _)) (holds_leaf (a := .lit false) (v := kBool.val false) rfl)) (holds_leaf (kBool.h1 _))))⟩

def twTW : PureTab := (176, fn2 flW.agg jW.agg jW.agg (fun _ p => twiceJ fW p)) :: T1 fW
theorem twTW_ok : TabPOk PR twTW := TabPOk.cons twW_ok T1_ok
theorem suW_ctx : Ctx PR (envOf eqsT (twTW)) [23, 28, 90, 93] (fun _ => none) 40 161 :=
  ctx_of (envOf_ok eqsT_ok twTW_ok) mixed (fn := Try.f161) (by kernel_rfl) (by kernel_rfl) (by kernel_rfl) (tabOk_none _)
theorem suW_ok : CallOk PR 161 (fn3 flW.agg jW.agg jW.agg jW.agg (sumE fW eqW)) :=
  .inl ⟨enters_of (fn := Try.f161) (by kernel_rfl) (by kernel_rfl) (by kernel_rfl), pure3 suW_ctx (fun f p q => givesOf (suW_run fW f (fun _ p => twiceJ fW p) p q) (holds_br (B := jW.agg) (holds_leaf (jW.agg.h1 _)) (holds_br (B := jW.agg) (holds_leaf (jW.agg.h1 _)) (holds_br (B := jW.agg) (holds_br (B := jW.agg) (holds_leaf (jW.agg.h1 _)) (holds_leaf (jW.agg.h1 _))) (holds_leaf (jW.agg.h1 _))))))⟩

theorem twD_ctx : Ctx PR (envOf eqsT (T2 fD)) [] (fun _ => none) 40 186 :=
  ctx_of (envOf_ok eqsT_ok T2_ok) mixed (fn := Try.f186) (by kernel_rfl) (by kernel_rfl) (by kernel_rfl) (tabOk_none _)
theorem twD_ok : CallOk PR 186 (fn2 flD.agg jD.agg jD.agg (fun _ p => twiceJ fD p)) :=
  .inl ⟨enters_of (fn := Try.f186) (by kernel_rfl) (by kernel_rfl) (by kernel_rfl), pure2 twD_ctx (fun f p => leafVal (B := jD.agg) (y := twiceJ fD p) (twD_run fD f p))⟩

theorem raD_ctx : Ctx PR (envOf eqsT (T2 fD)) [6] (fun _ => none) 40 158 :=
  ctx_of (envOf_ok eqsT_ok T2_ok) mixed (fn := Try.f158) (by kernel_rfl) (by kernel_rfl) (by kernel_rfl) (tabOk_none _)
theorem raD_ok : CallOk PR 158 (fn2 flD.agg aD.agg jD.agg (raiseJ fD)) :=
  .inl ⟨enters_of (fn := Try.f158) (by kernel_rfl) (by kernel_rfl) (by kernel_rfl), pure2 raD_ctx (fun f p => givesOf (raD_run fD f p) (holds_br (B := jD.agg) (holds_leaf (jD.agg.h1 _)) (holds_leaf (jD.agg.h1 _))))⟩

theorem loD_ctx : Ctx PR (envOf eqsT (T2 fD)) [11] (fun _ => none) 40 156 :=
  ctx_of (envOf_ok eqsT_ok T2_ok) mixed (fn := Try.f156) (by kernel_rfl) (by kernel_rfl) (by kernel_rfl) (tabOk_none _)
theorem loD_ok : CallOk PR 156 (fn2 flD.agg jD.agg aD.agg (fun _ p => lowerE fD eqD p)) :=
  .inl ⟨enters_of (fn := Try.f156) (by kernel_rfl) (by kernel_rfl) (by kernel_rfl), pure2 loD_ctx (fun f p => givesOf (loD_run fD f p) (holds_br (B := aD.agg) (holds_leaf (apFlatD _ _ _)) (holds_leaf (apFlatD _ _ _))))⟩

theorem neD_ctx : Ctx PR (envOf eqsT (T2 fD)) [] (fun _ => none) 40 107 :=
  ctx_of (envOf_ok eqsT_ok T2_ok) mixed (fn := Try.f107) (by kernel_rfl) (by kernel_rfl) (by kernel_rfl) (tabOk_none _)
theorem neD_ok : CallOk PR 107 (fn2 flD.agg aD.agg aD.agg (fun _ p => negE fD p)) :=
  .inl ⟨enters_of (fn := Try.f107) (by kernel_rfl) (by kernel_rfl) (by kernel_rfl), pure2 neD_ctx (fun f p => leafVal (B := aD.agg) (y := negE fD p) (neD_run fD f p))⟩

theorem onD_ctx : Ctx PR (envOf eqsT (T2 fD)) [7, 12] (fun _ => none) 40 103 :=
  ctx_of (envOf_ok eqsT_ok T2_ok) mixed (fn := Try.f103) (by kernel_rfl) (by kernel_rfl) (by kernel_rfl) (tabOk_none _)
theorem onD_ok : CallOk PR 103 (fn2 flD.agg aD.agg kBool (onE fD eqD)) :=
  .inl ⟨enters_of (fn := Try.f103) (by kernel_rfl) (by kernel_rfl) (by kernel_rfl), pure2 onD_ctx (fun f p => givesOf (onD_run fD f p) (holds_br (B := kBool) (holds_br (B := kBool) (holds_leaf (kBool.h1 _)) (holds_leaf (a := .lit false) (v := kBool.val false) rfl)) (holds_leaf (kBool.h1 _))))⟩

def twTD : PureTab := (186, fn2 flD.agg jD.agg jD.agg (fun _ p => twiceJ fD p)) :: T2 fD
theorem twTD_ok : TabPOk PR twTD := TabPOk.cons twD_ok T2_ok
theorem suD_ctx : Ctx PR (envOf eqsT (twTD)) [23, 28, 90, 93] (fun _ => none) 40 162 :=
  ctx_of (envOf_ok eqsT_ok twTD_ok) mixed (fn := Try.f162) (by kernel_rfl) (by kernel_rfl) (by kernel_rfl) (tabOk_none _)
theorem suD_ok : CallOk PR 162 (fn3 flD.agg jD.agg jD.agg jD.agg (sumE fD eqD)) :=
  .inl ⟨enters_of (fn := Try.f162) (by kernel_rfl) (by kernel_rfl) (by kernel_rfl), pure3 suD_ctx (fun f p q => givesOf (suD_run fD f (fun _ p => twiceJ fD p) p q) (holds_br (B := jD.agg) (holds_leaf (jD.agg.h1 _)) (holds_br (B := jD.agg) (holds_leaf (jD.agg.h1 _)) (holds_br (B := jD.agg) (holds_br (B := jD.agg) (holds_leaf (jD.agg.h1 _)) (holds_leaf (jD.agg.h1 _))) (holds_leaf (jD.agg.h1 _))))))⟩

end Go.Rq
