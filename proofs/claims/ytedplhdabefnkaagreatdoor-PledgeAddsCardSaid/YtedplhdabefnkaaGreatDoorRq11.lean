import Derived.Test.YtedplhdabefnkaaGreatDoorRq04
import Derived.Test.YtedplhdabefnkaaGreatDoorProg
namespace Go.Rq
open Go Go.Proofs
noncomputable def PR:Program:=Tryz.prog
theorem mixed:PR.follows .mixedOrders=true:=by kernel_rfl
def eqsT:List (TypeId × List Nat):=[(174,[1,1,1,1,1,1]),(38,[1,1,1,1,1,1]),(41,[1,1,1,1,1,1,1,1,1,1,1,1,0]),(43,[1,1,0]),(45,[1,1,1,1,1,1,1,1,1,1,1,1,1,0,1,1,0])]
theorem eqsT_ok:EqsOk PR eqsT:=(EqsOk.cons (by kernel_rfl) (by kernel_rfl) (by kernel_rfl) (EqsOk.cons (by kernel_rfl) (by kernel_rfl) (by kernel_rfl) (EqsOk.cons (by kernel_rfl) (by kernel_rfl) (by kernel_rfl) (EqsOk.cons (by kernel_rfl) (by kernel_rfl) (by kernel_rfl) (EqsOk.cons (by kernel_rfl) (by kernel_rfl) (by kernel_rfl) EqsOk.nil)))))
def T0:PureTab:=[]
theorem T0_ok:TabPOk PR T0:=TabPOk.nil
def kUU:Cod (BitVec 64 × BitVec 64):=kTup kU kU (fun _=>rfl) (fun _=>rfl)
theorem add64_ok:CallOk PR 178 (fn3 kU kU kBit kUB add64) :=
 .inr (ext3 (fn:=Tryz.f178) (by kernel_rfl) (by kernel_rfl) (by kernel_rfl) (by kernel_rfl) (r:=add64Row) (by kernel_rfl) add64_run)
def T_add64:PureTab:=(178,fn3 kU kU kBit kUB add64) :: T0
theorem T_add64_ok:TabPOk PR T_add64:=TabPOk.cons add64_ok T0_ok
theorem sub64_ok:CallOk PR 167 (fn3 kU kU kBit kUB sub64) :=
 .inr (ext3 (fn:=Tryz.f167) (by kernel_rfl) (by kernel_rfl) (by kernel_rfl) (by kernel_rfl) (r:=sub64Row) (by kernel_rfl) sub64_run)
def T_sub64:PureTab:=(167,fn3 kU kU kBit kUB sub64) :: T_add64
theorem T_sub64_ok:TabPOk PR T_sub64:=TabPOk.cons sub64_ok T_add64_ok
theorem mul64_ctx:Ctx PR (envOf eqsT T_sub64) [] (fun _=>none) 400 183 :=
 ctxB (envOf_ok eqsT_ok T_sub64_ok) mixed (by kernel_rfl)
theorem mul64_run (x y:BitVec 64):(afunR PR (envOf eqsT T_sub64) [] (fun _=>none) 400 183 [kU.enc x,kU.enc y]).strict=.leaf (kUU.enc (mulGo x y)):=by kernel_rfl
theorem mul64_ok:CallOk PR 183 (fn2 kU kU kUU mul64) :=
 .inl ⟨entersB (by kernel_rfl),pure2 mul64_ctx (fun x y=>leafVal (B:=kUU) (y:=mul64 x y) (by rw [mul64_run x y,mulGo_eq]))⟩
def T_mul64:PureTab:=(183,fn2 kU kU kUU mul64) :: T_sub64
theorem T_mul64_ok:TabPOk PR T_mul64:=TabPOk.cons mul64_ok T_sub64_ok
theorem prime_ctx:Ctx PR (envOf eqsT T_mul64) [] (fun _=>none) 400 237 :=
 ctxB (envOf_ok eqsT_ok T_mul64_ok) mixed (by kernel_rfl)
set_option maxRecDepth 100000 in
theorem prime_run :(afunR PR (envOf eqsT T_mul64) [] (fun _=>none) 400 237 []).strict=.leaf (c6.agg.enc primeW):=by kernel_rfl
theorem prime_ok:CallOk PR 237 (fn0  c6.agg primeW) :=
 .inl ⟨entersB (by kernel_rfl),pure0 prime_ctx (leafVal (B:=c6.agg) (y:=primeW) (prime_run ))⟩
def T_prime:PureTab:=(237,fn0  c6.agg primeW) :: T_mul64
theorem T_prime_ok:TabPOk PR T_prime:=TabPOk.cons prime_ok T_mul64_ok
theorem one_ctx:Ctx PR (envOf eqsT T_prime) [] (fun _=>none) 400 202 :=
 ctxB (envOf_ok eqsT_ok T_prime_ok) mixed (by kernel_rfl)
set_option maxRecDepth 100000 in
theorem one_run :(afunR PR (envOf eqsT T_prime) [] (fun _=>none) 400 202 []).strict=.leaf (c6.agg.enc oneW):=by kernel_rfl
theorem one_ok:CallOk PR 202 (fn0  c6.agg oneW) :=
 .inl ⟨entersB (by kernel_rfl),pure0 one_ctx (leafVal (B:=c6.agg) (y:=oneW) (one_run ))⟩
def T_one:PureTab:=(202,fn0  c6.agg oneW) :: T_prime
theorem T_one_ok:TabPOk PR T_one:=TabPOk.cons one_ok T_prime_ok
theorem wide_ctx:Ctx PR (envOf eqsT T_one) [] (fun _=>none) 400 239 :=
 ctxB (envOf_ok eqsT_ok T_one_ok) mixed (by kernel_rfl)
set_option maxRecDepth 100000 in
theorem wide_run :(afunR PR (envOf eqsT T_one) [] (fun _=>none) 400 239 []).strict=.leaf (c6.agg.enc wideW):=by kernel_rfl
theorem wide_ok:CallOk PR 239 (fn0  c6.agg wideW) :=
 .inl ⟨entersB (by kernel_rfl),pure0 wide_ctx (leafVal (B:=c6.agg) (y:=wideW) (wide_run ))⟩
def T_wide:PureTab:=(239,fn0  c6.agg wideW) :: T_one
theorem T_wide_ok:TabPOk PR T_wide:=TabPOk.cons wide_ok T_one_ok
theorem less_ctx:Ctx PR (envOf eqsT T_wide) [26] (fun _=>none) 400 236 :=
 ctxB (envOf_ok eqsT_ok T_wide_ok) mixed (by kernel_rfl)
set_option maxRecDepth 100000 in
theorem less_run (a:W6):(afunR PR (envOf eqsT T_wide) [26] (fun _=>none) 400 236 [c6.agg.enc a]).strict=.br ((subs a primeW).2 == true) (.leaf (c6.agg.enc a)) (.leaf (c6.agg.enc (subs a primeW).1)):=by kernel_rfl
theorem less_ok:CallOk PR 236 (fn1 c6.agg c6.agg lessW) :=
 .inl ⟨entersB (by kernel_rfl),pure1 less_ctx (fun a=>brVal (B:=c6.agg) (y:=(lessW a)) (less_run a) (fun h=>by simp at h;simp [lessW,h]) (fun h=>by simp at h;simp [lessW,h]))⟩
def T_less:PureTab:=(236,fn1 c6.agg c6.agg lessW) :: T_wide
theorem T_less_ok:TabPOk PR T_less:=TabPOk.cons less_ok T_wide_ok
theorem madd_ctx:Ctx PR (envOf eqsT T_less) [] (fun _=>none) 400 198 :=
 ctxB (envOf_ok eqsT_ok T_less_ok) mixed (by kernel_rfl)
set_option maxRecDepth 100000 in
theorem madd_run (a:W6) (b:W6):(afunR PR (envOf eqsT T_less) [] (fun _=>none) 400 198 [c6.agg.enc a,c6.agg.enc b]).strict=.leaf (c6.agg.enc (addW a b)):=by kernel_rfl
theorem madd_ok:CallOk PR 198 (fn2 c6.agg c6.agg c6.agg addW) :=
 .inl ⟨entersB (by kernel_rfl),pure2 madd_ctx (fun a b=>leafVal (B:=c6.agg) (y:=(addW a b)) (madd_run a b))⟩
def T_madd:PureTab:=(198,fn2 c6.agg c6.agg c6.agg addW) :: T_less
theorem T_madd_ok:TabPOk PR T_madd:=TabPOk.cons madd_ok T_less_ok
theorem msub_ctx:Ctx PR (envOf eqsT T_madd) [29] (fun _=>none) 400 199 :=
 ctxB (envOf_ok eqsT_ok T_madd_ok) mixed (by kernel_rfl)
set_option maxRecDepth 100000 in
theorem msub_run (a:W6) (b:W6):(afunR PR (envOf eqsT T_madd) [29] (fun _=>none) 400 199 [c6.agg.enc a,c6.agg.enc b]).strict=.br ((subs a b).2 == true) (.leaf (c6.agg.enc (adds (subs a b).1 primeW).1)) (.leaf (c6.agg.enc (subs a b).1)):=by kernel_rfl
theorem msub_ok:CallOk PR 199 (fn2 c6.agg c6.agg c6.agg subW) :=
 .inl ⟨entersB (by kernel_rfl),pure2 msub_ctx (fun a b=>brVal (B:=c6.agg) (y:=(subW a b)) (msub_run a b) (fun h=>by simp at h;simp [subW,h]) (fun h=>by simp at h;simp [subW,h]))⟩
def T_msub:PureTab:=(199,fn2 c6.agg c6.agg c6.agg subW) :: T_madd
theorem T_msub_ok:TabPOk PR T_msub:=TabPOk.cons msub_ok T_madd_ok
theorem mmul_ctx:Ctx PR (envOf eqsT T_msub) [] (fun _=>none) 400 200 :=
 ctxB (envOf_ok eqsT_ok T_msub_ok) mixed (by kernel_rfl)
set_option maxRecDepth 100000 in
theorem mmul_run (a:W6) (b:W6):(afunR PR (envOf eqsT T_msub) [] (fun _=>none) 400 200 [c6.agg.enc a,c6.agg.enc b]).strict=.leaf (c6.agg.enc (mulW a b)):=by kernel_rfl
theorem mmul_ok:CallOk PR 200 (fn2 c6.agg c6.agg c6.agg mulW) :=
 .inl ⟨entersB (by kernel_rfl),pure2 mmul_ctx (fun a b=>leafVal (B:=c6.agg) (y:=(mulW a b)) (mmul_run a b))⟩
def T_mmul:PureTab:=(200,fn2 c6.agg c6.agg c6.agg mulW) :: T_msub
theorem T_mmul_ok:TabPOk PR T_mmul:=TabPOk.cons mmul_ok T_msub_ok
def T_mneg:PureTab:=T_mmul
theorem T_mneg_ok:TabPOk PR T_mneg:=T_mmul_ok
theorem mto_ctx:Ctx PR (envOf eqsT T_mneg) [] (fun _=>none) 400 203 :=
 ctxB (envOf_ok eqsT_ok T_mneg_ok) mixed (by kernel_rfl)
set_option maxRecDepth 100000 in
theorem mto_run (a:W6):(afunR PR (envOf eqsT T_mneg) [] (fun _=>none) 400 203 [c6.agg.enc a]).strict=.leaf (c6.agg.enc (toW a)):=by kernel_rfl
theorem mto_ok:CallOk PR 203 (fn1 c6.agg c6.agg toW) :=
 .inl ⟨entersB (by kernel_rfl),pure1 mto_ctx (fun a=>leafVal (B:=c6.agg) (y:=(toW a)) (mto_run a))⟩
def T_mto:PureTab:=(203,fn1 c6.agg c6.agg toW) :: T_mneg
theorem T_mto_ok:TabPOk PR T_mto:=TabPOk.cons mto_ok T_mneg_ok
theorem mfrom_ctx:Ctx PR (envOf eqsT T_mto) [] (fun _=>none) 400 227 :=
 ctxB (envOf_ok eqsT_ok T_mto_ok) mixed (by kernel_rfl)
set_option maxRecDepth 100000 in
theorem mfrom_run (a:W6):(afunR PR (envOf eqsT T_mto) [] (fun _=>none) 400 227 [c6.agg.enc a]).strict=.leaf (c6.agg.enc (fromW a)):=by kernel_rfl
theorem mfrom_ok:CallOk PR 227 (fn1 c6.agg c6.agg fromW) :=
 .inl ⟨entersB (by kernel_rfl),pure1 mfrom_ctx (fun a=>leafVal (B:=c6.agg) (y:=(fromW a)) (mfrom_run a))⟩
end Go.Rq
