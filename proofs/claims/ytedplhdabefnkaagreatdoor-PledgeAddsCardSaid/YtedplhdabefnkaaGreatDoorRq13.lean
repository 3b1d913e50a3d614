import Derived.Test.YtedplhdabefnkaaGreatDoorRq04
import Derived.Test.YtedplhdabefnkaaGreatDoorRq12
import Derived.Test.YtedplhdabefnkaaGreatDoorRq06
import Derived.Test.YtedplhdabefnkaaGreatDoorRq05
namespace Go.Rq.Cl
open Go Go.Proofs Go.Rq Go.Rq.Sm
abbrev W8:Type:=W6 × BitVec 64 × BitVec 64
def cFa:CC (W6 × BitVec 64 × W6):=CC.prod c6 (CC.prod cU c6)
def zero8:W8:=(⟨0#64,0#64,0#64,0#64,0#64,0#64⟩,0#64,0#64)
def cmW (a b:W6):Int:=chainV (cmpL a b) 0
def rowT (M:BitVec 64->BitVec 64->BitVec 64 × BitVec 64) (S:BitVec 64->BitVec 64->Bool->BitVec 64 × Bool):PureTab:=[(183,fn2 kU kU kUU M),(178,fn3 kU kU kBit kUB S)]
def wAddW (a b:W6):W6 × Bool:=((adds a b).1,(adds a b).2 == true)
def wAddT:PureTab:=[(178,fn3 kU kU kBit kUB add64)]
theorem wAddT_ok:TabPOk PR wAddT:=TabPOk.cons add64_ok TabPOk.nil
theorem wadd_ctx:Ctx PR (envOf eqsT wAddT) [] (fun _=>none) 40 123 :=
 ctxB (envOf_ok eqsT_ok wAddT_ok) mixed (by kernel_rfl)
set_option maxRecDepth 100000 in
theorem wadd_run (a b:W6):(afunR PR (envOf eqsT wAddT) [] (fun _=>none) 40 123 [c6.agg.enc a,c6.agg.enc b]).strict=.leaf (kWB.enc (wAddW a b)):=by kernel_rfl
theorem wadd_ok:CallOk PR 123 (fn2 c6.agg c6.agg kWB wAddW) :=
 .inl ⟨entersB (by kernel_rfl),pure2 wadd_ctx (fun a b=>leafVal (B:=kWB) (y:=wAddW a b) (wadd_run a b))⟩
def kAt (k:IntKind) (n:Int):Cod Unit where
 enc _:=.v (.int k n)
 dec a:=match a with
  | .v (.int k' m)=>match decide (k'=k /\ m=n) with
   | true=>some ()
   | false=>none
  | _=>none
 val _:=.int k n
 h1 _:=rfl
 h2 ρ a v x h r:=by
  split at h
  . rename_i k' m
    split at h
    . rename_i e
      obtain ⟨rfl,rfl⟩:=of_decide_eq_true e
      cases r
      rfl
    . cases h
  . cases h
theorem shift_ctx:Ctx PR (envOf eqsT []) [] (fun _=>none) 40 104 :=
 ctxB (envOf_ok eqsT_ok TabPOk.nil) mixed (by kernel_rfl)
def shl1 (a:W6):W6:=⟨a.w0 <<< 1,a.w1 <<< 1 ||| a.w0 >>> 63,a.w2 <<< 1 ||| a.w1 >>> 63,a.w3 <<< 1 ||| a.w2 >>> 63,a.w4 <<< 1 ||| a.w3 >>> 63,a.w5 <<< 1 ||| a.w4 >>> 63⟩
set_option maxRecDepth 100000 in
theorem shl1_run (a:W6):(afunR PR (envOf eqsT []) [] (fun _=>none) 40 104 [c6.agg.enc a,(kInt .i64).enc 1]).strict=.leaf (c6.agg.enc (shl1 a)):=by kernel_rfl
theorem shl1_ok:CallOk PR 104 (fn2 c6.agg (kAt .i64 1) c6.agg (fun a _=>shl1 a)) :=
 .inl ⟨entersB (by kernel_rfl),pure2 (C:=kAt .i64 1) shift_ctx (fun a _=>leafVal (B:=c6.agg) (y:=shl1 a) (shl1_run a))⟩
abbrev Mo:Type:=W6 × BitVec 64 × W6
def afunP (P:Program) (E:Env) (sym:List Tmp) (lf f:Nat) (t:TypeId) (x:Mo) (args:List AV):Tree AV:=(afun P E sym (fun _=>none) lf f (.ptr 0 0 :: args) (oneAH cFa t x) 1).bind fun q=>.leaf q.1
theorem givesP {P:Program} {E:Env} {sym:List Tmp} {lf f:Nat} {t:TypeId} {x:Mo} {args:List AV} {u:Tree AV} {v:Value} (e:(afunP P E sym lf f t x args).strict=u) (hu:u.holds (fun q=>flat q=some v)) :
 GivesH (afun P E sym (fun _=>none) lf f (.ptr 0 0 :: args) (oneAH cFa t x) 1) v:=⟨Tree.holds_bind (Tree.holds_strict (by rw [show ((afun P E sym (fun _=>none) lf f (.ptr 0 0 :: args) (oneAH cFa t x) 1).bind fun q=>Tree.leaf q.1).strict=u from e];exact hu))⟩
def moNone (m:Mo):Bool:=m.2.1 == 0#64
noncomputable def mnE:Env:=envH eqsT [] []
theorem mnE_ok:EnvOk PR mnE:=envH_ok eqsT_ok TabPOk.nil TabHOk.nil
theorem mn_run (m:Mo):(afunP PR mnE [] 10 122 163 m []).strict=.leaf (kBool.enc (moNone m)):=by kernel_rfl
theorem mn_ent:Enters PR 122:=entersB (by kernel_rfl)
theorem mn_ok:HeapOk PR 122 (rdp 163 cFa mc0 kBool (fun m _=>moNone m)) :=
 rdp_ok (E:=mnE) (sym:=[]) (lf:=10) mnE_ok mixed (fn:=Tryz.f122) (c:=bodyOf PR 122) (by kernel_rfl) (by kernel_rfl) (by kernel_rfl) (fun m z=>givesP (mn_run m) (holds_leaf (kBool.h1 _)))
noncomputable def mlE0 (sb:W6->W6->W6 × Bool):Env:=envH eqsT [(106,fn2 c6.agg c6.agg kWB sb)] []
theorem ml_run (sb:W6->W6->W6 × Bool) (m:Mo) (x:W6):(afunP PR (mlE0 sb) [17] 10 124 163 m [c6.agg.enc x]).strict =
 .br (!(sb x m.1).2) (.leaf (c6.agg.enc (sb x m.1).1)) (.leaf (c6.agg.enc x)):=by kernel_rfl
def moLess (sb:W6->W6->W6 × Bool) (m:Mo) (x:W6):W6:=bif !(sb x m.1).2 then (sb x m.1).1 else x
def mcG (M:BitVec 64->BitVec 64->BitVec 64 × BitVec 64) (S:BitVec 64->BitVec 64->Bool->BitVec 64 × Bool) (a y u c:BitVec 64):BitVec 64 × BitVec 64 :=
 let p:=M a y;let s:=S p.2 u false;let h:=p.1+bitW s.2;let r:=S s.1 c false;(r.1,h+bitW r.2)
def moRound (M:BitVec 64->BitVec 64->BitVec 64 × BitVec 64) (S:BitVec 64->BitVec 64->Bool->BitVec 64 × Bool) (m:Mo) (b:W6) (x:BitVec 64) (t:W8):W8 :=
 let r0:=mcG M S x b.w0 t.1.w0 (bitW false)
 let r1:=mcG M S x b.w1 t.1.w1 r0.2
 let r2:=mcG M S x b.w2 t.1.w2 r1.2
 let r3:=mcG M S x b.w3 t.1.w3 r2.2
 let r4:=mcG M S x b.w4 t.1.w4 r3.2
 let r5:=mcG M S x b.w5 t.1.w5 r4.2
 let u6:=S t.2.1 r5.2 false
 let q:=r0.1*m.2.1
 let mm:=M q m.1.w0
 let s0:=S mm.2 r0.1 false
 let s1:=mcG M S q m.1.w1 r1.1 (mm.1+bitW s0.2)
 let s2:=mcG M S q m.1.w2 r2.1 s1.2
 let s3:=mcG M S q m.1.w3 r3.1 s2.2
 let s4:=mcG M S q m.1.w4 r4.1 s3.2
 let s5:=mcG M S q m.1.w5 r5.1 s4.2
 let s6:=S u6.1 s5.2 false
 (⟨s1.1,s2.1,s3.1,s4.1,s5.1,s6.1⟩,bitW u6.2+bitW s6.2,bitW u6.2)
def moRaw (M:BitVec 64->BitVec 64->BitVec 64 × BitVec 64) (S:BitVec 64->BitVec 64->Bool->BitVec 64 × Bool) (m:Mo) (a b:W6):W8 :=
 moRound M S m b a.w5 (moRound M S m b a.w4 (moRound M S m b a.w3 (moRound M S m b a.w2 (moRound M S m b a.w1 (moRound M S m b a.w0 zero8)))))
noncomputable def mmE0 (M:BitVec 64->BitVec 64->BitVec 64 × BitVec 64) (S:BitVec 64->BitVec 64->Bool->BitVec 64 × Bool) (L:Mo->W6->W6):Env:=envH eqsT (rowT M S) [(124,rdp 163 cFa (mc1 c6.agg) c6.agg L)]
set_option maxRecDepth 1000000 in
theorem mm_run (M:BitVec 64->BitVec 64->BitVec 64 × BitVec 64) (S:BitVec 64->BitVec 64->Bool->BitVec 64 × Bool) (L:Mo->W6->W6) (m:Mo) (a b:W6):(afunP PR (mmE0 M S L) [] 20 130 163 m [c6.agg.enc a,c6.agg.enc b]).strict =
 .leaf (c6.agg.enc (L m (moRaw M S m a b).1)):=by kernel_rfl
noncomputable def mrE0 (N:Mo->Bool) (cm:W6->W6->Int) (O:BitVec 64->W6) (T:Mo->W6->W6->W6):Env:=envH eqsT [(86,fn2 c6.agg c6.agg (kInt .i64) cm),(33,fn1 kU c6.agg O)]
 [(122,rdp 163 cFa mc0 kBool (fun m _=>N m)),(130,rdp 163 cFa (mc2 c6.agg c6.agg) c6.agg (fun m x=>T m x.1 x.2))]
theorem mred_run (N:Mo->Bool) (cm:W6->W6->Int) (O:BitVec 64->W6) (T:Mo->W6->W6->W6) (m:Mo) (a:W6):(afunP PR (mrE0 N cm O T) [6,14] 10 111 163 m [c6.agg.enc a]).strict =
 .br (N m) (.leaf (c6.agg.enc zeroW)) (.br (decide (cm a m.1 < 0)) (.leaf (c6.agg.enc a)) (.leaf (c6.agg.enc (T m (T m a m.2.2) (O (bitW true)))))):=by kernel_rfl
def wSubW (a b:W6):W6 × Bool:=((subs a b).1,(subs a b).2 == true)
def wSubT:PureTab:=[(167,fn3 kU kU kBit kUB sub64)]
theorem wSubT_ok:TabPOk PR wSubT:=TabPOk.cons sub64_ok TabPOk.nil
theorem wsub_ctx:Ctx PR (envOf eqsT wSubT) [] (fun _=>none) 40 106 :=
 ctxB (envOf_ok eqsT_ok wSubT_ok) mixed (by kernel_rfl)
set_option maxRecDepth 100000 in
theorem wsub_run (a b:W6):(afunR PR (envOf eqsT wSubT) [] (fun _=>none) 40 106 [c6.agg.enc a,c6.agg.enc b]).strict=.leaf (kWB.enc (wSubW a b)):=by kernel_rfl
theorem wsub_ok:CallOk PR 106 (fn2 c6.agg c6.agg kWB wSubW) :=
 .inl ⟨entersB (by kernel_rfl),pure2 wsub_ctx (fun a b=>leafVal (B:=kWB) (y:=wSubW a b) (wsub_run a b))⟩
def moLessW:Mo->W6->W6:=moLess wSubW
theorem ml_gives (sb:W6->W6->W6 × Bool) (m:Mo) (x:W6):GivesH (afun PR (mlE0 sb) [17] (fun _=>none) 10 124 (.ptr 0 0 :: [c6.agg.enc x]) (oneAH cFa 163 m) 1) (c6.agg.val (moLess sb m x)) :=
 givesP (ml_run sb m x) (holds_br (B:=c6.agg) (holds_leaf (c6.agg.h1 _)) (holds_leaf (c6.agg.h1 _)))
theorem mlE0_ok:EnvOk PR (mlE0 wSubW):=envH_ok eqsT_ok (TabPOk.cons wsub_ok TabPOk.nil) TabHOk.nil
theorem ml_ent:Enters PR 124:=entersB (by kernel_rfl)
theorem ml_ok:HeapOk PR 124 (rdp 163 cFa (mc1 c6.agg) c6.agg moLessW) :=
 rdp_ok (E:=mlE0 wSubW) (sym:=[17]) (lf:=10) mlE0_ok mixed (fn:=Tryz.f124) (c:=bodyOf PR 124) (by kernel_rfl) (by kernel_rfl) (by kernel_rfl) (fun m z=>ml_gives wSubW m z)
def moMontW (m:Mo) (a b:W6):W6:=moLessW m (moRaw mul64 add64 m a b).1
theorem mmE0_ok:EnvOk PR (mmE0 mul64 add64 moLessW):=envH_ok eqsT_ok (TabPOk.cons mul64_ok (TabPOk.cons add64_ok TabPOk.nil)) (TabHOk.cons ml_ent ml_ok TabHOk.nil)
theorem mm_ent:Enters PR 130:=entersB (by kernel_rfl)
theorem mm_ok:HeapOk PR 130 (rdp 163 cFa (mc2 c6.agg c6.agg) c6.agg (fun m x=>moMontW m x.1 x.2)) :=
 rdp_ok (E:=mmE0 mul64 add64 moLessW) (sym:=[]) (lf:=20) mmE0_ok mixed (fn:=Tryz.f130) (c:=bodyOf PR 130) (by kernel_rfl) (by kernel_rfl) (by kernel_rfl) (fun m z=>givesP (mm_run mul64 add64 moLessW m z.1 z.2) (holds_leaf (c6.agg.h1 _)))
def moRedG (N:Mo->Bool) (cm:W6->W6->Int) (O:BitVec 64->W6) (T:Mo->W6->W6->W6) (m:Mo) (a:W6):W6:=bif N m then zeroW else bif decide (cm a m.1 < 0) then a else T m (T m a m.2.2) (O (bitW true))
def moRedW:Mo->W6->W6:=moRedG moNone cmW ofW moMontW
theorem mred_gives (N:Mo->Bool) (cm:W6->W6->Int) (O:BitVec 64->W6) (T:Mo->W6->W6->W6) (m:Mo) (a:W6):GivesH (afun PR (mrE0 N cm O T) [6,14] (fun _=>none) 10 111 (.ptr 0 0 :: [c6.agg.enc a]) (oneAH cFa 163 m) 1) (c6.agg.val (moRedG N cm O T m a)) :=
 givesP (mred_run N cm O T m a) (holds_br (B:=c6.agg) (holds_leaf (c6.agg.h1 _)) (holds_br (B:=c6.agg) (holds_leaf (c6.agg.h1 _)) (holds_leaf (c6.agg.h1 _))))
theorem mrE0_ok:EnvOk PR (mrE0 moNone cmW ofW moMontW):=envH_ok eqsT_ok (TabPOk.cons cmp_ok (TabPOk.cons of_ok TabPOk.nil)) (TabHOk.cons mn_ent mn_ok (TabHOk.cons mm_ent mm_ok TabHOk.nil))
theorem mred_ent:Enters PR 111:=entersB (by kernel_rfl)
theorem mred_ok:HeapOk PR 111 (rdp 163 cFa (mc1 c6.agg) c6.agg moRedW) :=
 rdp_ok (E:=mrE0 moNone cmW ofW moMontW) (sym:=[6,14]) (lf:=10) mrE0_ok mixed (fn:=Tryz.f111) (c:=bodyOf PR 111) (by kernel_rfl) (by kernel_rfl) (by kernel_rfl) (fun m z=>mred_gives moNone cmW ofW moMontW m z)
structure MQ where
 no:Mo->Bool
 mm:Mo->W6->W6->W6
 ls:Mo->W6->W6
 rd:Mo->W6->W6
 ad:W6->W6->W6 × Bool
 sb:W6->W6->W6 × Bool
def mqT (t:MQ):PureTab:=[(123,fn2 c6.agg c6.agg kWB t.ad),(106,fn2 c6.agg c6.agg kWB t.sb)]
noncomputable def mqH (t:MQ):HeapTab:=[(122,rdp 163 cFa mc0 kBool (fun m _=>t.no m)),(130,rdp 163 cFa (mc2 c6.agg c6.agg) c6.agg (fun m x=>t.mm m x.1 x.2)),
 (124,rdp 163 cFa (mc1 c6.agg) c6.agg t.ls),(111,rdp 163 cFa (mc1 c6.agg) c6.agg t.rd)]
def mqRo:List FuncId:=[122,130,124,111]
noncomputable def mqE (t:MQ):Env:=envA eqsT (mqT t) (mqH t) [] [] [] [] true mqRo
def mqO:MQ:=⟨moNone,moMontW,moLessW,moRedW,wAddW,wSubW⟩
theorem mqE_ok:EnvOk PR (mqE mqO):=envA_ok eqsT_ok (TabPOk.cons wadd_ok (TabPOk.cons wsub_ok TabPOk.nil)) (TabHOk.cons mn_ent mn_ok (TabHOk.cons mm_ent mm_ok (TabHOk.cons ml_ent ml_ok (TabHOk.cons mred_ent mred_ok TabHOk.nil)))) TabLOk.nil TabAOk.nil
theorem qmul_run (t:MQ) (m:Mo) (a b:W6):(afunP PR (mqE t) [8] 10 82 163 m [c6.agg.enc a,c6.agg.enc b]).strict =
 .br (t.no m) (.leaf (c6.agg.enc zeroW)) (.leaf (c6.agg.enc (t.mm m (t.mm m a m.2.2) b))):=by kernel_rfl
def qmulG (t:MQ) (m:Mo) (a b:W6):W6:=bif t.no m then zeroW else t.mm m (t.mm m a m.2.2) b
def qmulW:Mo->W6->W6->W6:=qmulG mqO
theorem qmul_ent:Enters PR 82:=entersB (by kernel_rfl)
theorem qmul_ok:HeapOk PR 82 (rdp 163 cFa (mc2 c6.agg c6.agg) c6.agg (fun m x=>qmulW m x.1 x.2)) :=
 rdp_ok (E:=mqE mqO) (sym:=[8]) (lf:=10) mqE_ok mixed (fn:=Tryz.f82) (c:=bodyOf PR 82) (by kernel_rfl) (by kernel_rfl) (by kernel_rfl)
  (fun m x=>givesP (qmul_run mqO m x.1 x.2) (holds_br (B:=c6.agg) (holds_leaf (c6.agg.h1 _)) (holds_leaf (c6.agg.h1 _))))
theorem qadd_run (t:MQ) (m:Mo) (a b:W6):(afunP PR (mqE t) [10] 10 71 163 m [c6.agg.enc a,c6.agg.enc b]).strict =
 .br (t.no m) (.leaf (c6.agg.enc zeroW)) (.leaf (c6.agg.enc (t.ls m (t.ad (t.rd m a) (t.rd m b)).1))):=by kernel_rfl
def qaddG (t:MQ) (m:Mo) (a b:W6):W6:=bif t.no m then zeroW else t.ls m (t.ad (t.rd m a) (t.rd m b)).1
def qaddW:Mo->W6->W6->W6:=qaddG mqO
theorem qadd_ent:Enters PR 71:=entersB (by kernel_rfl)
theorem qadd_ok:HeapOk PR 71 (rdp 163 cFa (mc2 c6.agg c6.agg) c6.agg (fun m x=>qaddW m x.1 x.2)) :=
 rdp_ok (E:=mqE mqO) (sym:=[10]) (lf:=10) mqE_ok mixed (fn:=Tryz.f71) (c:=bodyOf PR 71) (by kernel_rfl) (by kernel_rfl) (by kernel_rfl)
  (fun m x=>givesP (qadd_run mqO m x.1 x.2) (holds_br (B:=c6.agg) (holds_leaf (c6.agg.h1 _)) (holds_leaf (c6.agg.h1 _))))
theorem qsub_run (t:MQ) (m:Mo) (a b:W6):(afunP PR (mqE t) [10,22] 10 78 163 m [c6.agg.enc a,c6.agg.enc b]).strict =
 .br (t.no m) (.leaf (c6.agg.enc zeroW)) (.br (t.sb (t.rd m a) (t.rd m b)).2 (.leaf (c6.agg.enc (t.ad (t.sb (t.rd m a) (t.rd m b)).1 m.1).1)) (.leaf (c6.agg.enc (t.sb (t.rd m a) (t.rd m b)).1))):=by kernel_rfl
def qsubG (t:MQ) (m:Mo) (a b:W6):W6:=bif t.no m then zeroW else bif (t.sb (t.rd m a) (t.rd m b)).2 then (t.ad (t.sb (t.rd m a) (t.rd m b)).1 m.1).1 else (t.sb (t.rd m a) (t.rd m b)).1
def qsubW:Mo->W6->W6->W6:=qsubG mqO
theorem qsub_ent:Enters PR 78:=entersB (by kernel_rfl)
theorem qsub_ok:HeapOk PR 78 (rdp 163 cFa (mc2 c6.agg c6.agg) c6.agg (fun m x=>qsubW m x.1 x.2)) :=
 rdp_ok (E:=mqE mqO) (sym:=[10,22]) (lf:=10) mqE_ok mixed (fn:=Tryz.f78) (c:=bodyOf PR 78) (by kernel_rfl) (by kernel_rfl) (by kernel_rfl)
  (fun m x=>givesP (qsub_run mqO m x.1 x.2) (holds_br (B:=c6.agg) (holds_leaf (c6.agg.h1 _)) (holds_br (B:=c6.agg) (holds_leaf (c6.agg.h1 _)) (holds_leaf (c6.agg.h1 _)))))
noncomputable def qngE (S:Mo->W6->W6->W6):Env:=envA eqsT [] [(78,rdp 163 cFa (mc2 c6.agg c6.agg) c6.agg (fun m x=>S m x.1 x.2))] [] [] [] [] true [78]
theorem qneg_run (S:Mo->W6->W6->W6) (m:Mo) (a:W6):(afunP PR (qngE S) [] 10 69 163 m [c6.agg.enc a]).strict=.leaf (c6.agg.enc (S m zeroW a)):=by kernel_rfl
theorem qngE_ok:EnvOk PR (qngE qsubW):=envA_ok eqsT_ok TabPOk.nil (TabHOk.cons qsub_ent qsub_ok TabHOk.nil) TabLOk.nil TabAOk.nil
theorem qneg_ent:Enters PR 69:=entersB (by kernel_rfl)
theorem qneg_ok:HeapOk PR 69 (rdp 163 cFa (mc1 c6.agg) c6.agg (fun m x=>qsubW m zeroW x)) :=
 rdp_ok (E:=qngE qsubW) (sym:=[]) (lf:=10) qngE_ok mixed (fn:=Tryz.f69) (c:=bodyOf PR 69) (by kernel_rfl) (by kernel_rfl) (by kernel_rfl)
  (fun m x=>givesP (qneg_run qsubW m x) (holds_leaf (c6.agg.h1 _)))
end Go.Rq.Cl
