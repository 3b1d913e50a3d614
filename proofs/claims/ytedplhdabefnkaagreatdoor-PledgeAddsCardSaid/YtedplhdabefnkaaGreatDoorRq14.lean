import Derived.Test.YtedplhdabefnkaaGreatDoorRq04
import Derived.Test.YtedplhdabefnkaaGreatDoorRq12
import Derived.Test.YtedplhdabefnkaaGreatDoorRq06
import Derived.Test.YtedplhdabefnkaaGreatDoorRq05
import Derived.Test.YtedplhdabefnkaaGreatDoorRq07
namespace Go.Rq.Sm
open Go Go.Proofs Go.Rq
def lzI (x:BitVec 64):Int:=IntKind.i64.wrap (64 - ((bl x.toNat:Nat):Int))
theorem lz_run (L:BitVec 64->Int) (x:BitVec 64):(afunR PR (envOf eqsT (lenT L)) [] (fun _=>none) 40 253 [kU.enc x]).strict=.leaf ((kInt .i64).enc (IntKind.i64.wrap (64 - L x))):=by kernel_rfl
theorem lz_ctx:Ctx PR (envOf eqsT (lenT fun x=>((bl x.toNat:Nat):Int))) [] (fun _=>none) 40 253 :=
 ctxB (envOf_ok eqsT_ok lenT_ok) mixed (by kernel_rfl)
theorem lz_ok:CallOk PR 253 (fn1 kU (kInt .i64) lzI) :=
 .inl ⟨entersB (by kernel_rfl),pure1 lz_ctx (fun x=>leafVal (B:=kInt .i64) (y:=lzI x) (lz_run _ x))⟩
def dvT:PureTab:=[(253,fn1 kU (kInt .i64) lzI)]
theorem dvT_ok:TabPOk PR dvT:=TabPOk.cons lz_ok TabPOk.nil
def suTree (s:Su) (hi lo:BitVec 64):Tree AV:=match s with
 | .lit=>dvTG kUU.enc 786251#64 13831873869608124416#64 3220484096#64 0#64 44 20 hi lo
 | .mid=>dvTG kUU.enc 1152921504606846223#64 18446744073709539568#64 4294967295#64 4294955248#64 4 60 hi lo
set_option maxRecDepth 1000000 in
theorem dv_runL (hi lo:BitVec 64):(afunR PR (envOf eqsT dvT) [24,27,69,78,85,104,113,120] (fun _=>none) 2 241 [kU.enc hi,kU.enc lo,kU.enc (suB .lit)]).strict=suTree .lit hi lo:=by kernel_rfl
set_option maxRecDepth 1000000 in
theorem dv_runM (hi lo:BitVec 64):(afunR PR (envOf eqsT dvT) [24,27,69,78,85,104,113,120] (fun _=>none) 2 241 [kU.enc hi,kU.enc lo,kU.enc (suB .mid)]).strict=suTree .mid hi lo:=by kernel_rfl
end Go.Rq.Sm
