/- Numbers out of text: gone through where they are called. -/
import Derived.Test.YtdbcjiggimppdaaRqBl
namespace Go.Rq
open Go Go.Proofs

theorem ibs_ok : CallOk PR 197 (fn2 kStr (kInt .u8) (kInt .i64) idxByte) :=
  .inr (ext2 (fn := Try.f197) (by kernel_rfl) (by kernel_rfl) (by kernel_rfl) (by kernel_rfl) (r := Extern.BytealgIndexByte.indexByte) (by kernel_rfl) idxByte_run)
def ibT (X : ByteArray → Int → Int) : PureTab := [(197, fn2 kStr (kInt .u8) (kInt .i64) X), (192, fn2 kStr (kInt .u8) (kInt .i64) X)]
theorem ib1_run (X : ByteArray → Int → Int) (s : ByteArray) (b : Int) : (afunR PR (envOf eqsT [(197, fn2 kStr (kInt .u8) (kInt .i64) X)]) [] (fun _ => none) 40 192 [kStr.enc s, (kInt .u8).enc b]).strict = .leaf ((kInt .i64).enc (X s b)) := by kernel_rfl
theorem ib2_run (X : ByteArray → Int → Int) (s : ByteArray) (b : Int) : (afunR PR (envOf eqsT [(192, fn2 kStr (kInt .u8) (kInt .i64) X)]) [] (fun _ => none) 40 178 [kStr.enc s, (kInt .u8).enc b]).strict = .leaf ((kInt .i64).enc (X s b)) := by kernel_rfl
def ib1T : PureTab := [(197, fn2 kStr (kInt .u8) (kInt .i64) idxByte)]
theorem ib1T_ok : TabPOk PR ib1T := TabPOk.cons ibs_ok TabPOk.nil
theorem ib1_ctx : Ctx PR (envOf eqsT ib1T) [] (fun _ => none) 40 192 :=
  ctx_of (envOf_ok eqsT_ok ib1T_ok) mixed (fn := Try.f192) (by kernel_rfl) (by kernel_rfl) (by kernel_rfl) (tabOk_none _)
theorem ib1_ok : CallOk PR 192 (fn2 kStr (kInt .u8) (kInt .i64) idxByte) :=
  .inl ⟨enters_of (fn := Try.f192) (by kernel_rfl) (by kernel_rfl) (by kernel_rfl), pure2 ib1_ctx (fun s b => leafVal (B := kInt .i64) (y := idxByte s b) (ib1_run idxByte s b))⟩
def ib2T : PureTab := [(192, fn2 kStr (kInt .u8) (kInt .i64) idxByte)]
theorem ib2T_ok : TabPOk PR ib2T := TabPOk.cons ib1_ok TabPOk.nil
theorem ib2_ctx : Ctx PR (envOf eqsT ib2T) [] (fun _ => none) 40 178 :=
  ctx_of (envOf_ok eqsT_ok ib2T_ok) mixed (fn := Try.f178) (by kernel_rfl) (by kernel_rfl) (by kernel_rfl) (tabOk_none _)
theorem ib2_ok : CallOk PR 178 (fn2 kStr (kInt .u8) (kInt .i64) idxByte) :=
  .inl ⟨enters_of (fn := Try.f178) (by kernel_rfl) (by kernel_rfl) (by kernel_rfl), pure2 ib2_ctx (fun s b => leafVal (B := kInt .i64) (y := idxByte s b) (ib2_run idxByte s b))⟩
end Go.Rq
