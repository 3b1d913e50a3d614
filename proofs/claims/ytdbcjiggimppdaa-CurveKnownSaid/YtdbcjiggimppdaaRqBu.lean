/- The law on the chapter's examples: what its function comes to. -/
import Derived.Test.YtdbcjiggimppdaaRqBt
namespace Go.Rq
open Go Go.Proofs

set_option maxRecDepth 1000000 in
theorem aw_run : (afunR PR awE [] (fun _ => none) 10 55 []).strict = .leaf (.v (.bool true)) := by kernel_rfl
theorem aw_ok : CallOk PR 55 (fn0 kBool true) :=
  .inl ⟨enters_of (fn := Try.f55) (by kernel_rfl) (by kernel_rfl) (by kernel_rfl), pure0 aw_ctx (givesOf aw_run (holds_leaf (v := kBool.val true) rfl))⟩

def knT : PureTab := (55, fn0 kBool true) :: knT0
theorem knT_ok : TabPOk PR knT := TabPOk.cons aw_ok knT0_ok
noncomputable def knE : Env := envH eqsT knT [(56, viewG PR suV [] 10 56)]
theorem knE_ok : EnvOk PR knE := envH_ok eqsT_ok knT_ok (TabHOk.cons su_entW (view_ok suV_ctx) TabHOk.nil)
theorem kn_ctx : Ctx PR knE [] (fun _ => none) 10 10 :=
  ctx_of knE_ok mixed (fn := Try.f10) (by kernel_rfl) (by kernel_rfl) (by kernel_rfl) (tabOk_none _)
set_option maxRecDepth 1000000 in
theorem kn_run : (afunR PR knE [] (fun _ => none) 10 10 []).strict = .leaf (.v (.bool true)) := by kernel_rfl
end Go.Rq
