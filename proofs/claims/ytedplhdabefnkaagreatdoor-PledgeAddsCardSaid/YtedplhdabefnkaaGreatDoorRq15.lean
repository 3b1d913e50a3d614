import Derived.Test.YtedplhdabefnkaaGreatDoorRq04
import Derived.Test.YtedplhdabefnkaaGreatDoorRq14
import Derived.Test.YtedplhdabefnkaaGreatDoorRq07
import Derived.Test.YtedplhdabefnkaaGreatDoorRq06
namespace Go.Rq.Sm
open Go Go.Proofs Go.Rq
def dvN (hi lo:BitVec 64):Nat:=Nat.add (Nat.mul hi.toNat 18446744073709551616) lo.toNat
def dvF (s:Su) (hi lo:BitVec 64):BitVec 64 × BitVec 64:=(BitVec.ofNat 64 (Nat.div (dvN hi lo) (suP s)),BitVec.ofNat 64 (Nat.mod (dvN hi lo) (suP s)))
theorem su_holds {s:Su} {hi lo:BitVec 64} (h:hi.toNat < suP s):(suTree s hi lo).holds (fun q=>flat q=some (kUU.val (dvF s hi lo))):=by
 cases s with
 | lit=>exact dvTG_holds (p:=786251) (Yn:=13831873869608124416) (V1:=3220484096) (V0:=0) rfl rfl rfl rfl rfl (by decide +kernel) (by decide +kernel) (by decide +kernel) (by decide +kernel) (by decide +kernel) h (kUU.h1 _)
 | mid=>exact dvTG_holds (p:=1152921504606846223) (Yn:=18446744073709539568) (V1:=4294967295) (V0:=4294955248) rfl rfl rfl rfl rfl (by decide +kernel) (by decide +kernel) (by decide +kernel) (by decide +kernel) (by decide +kernel) h (kUU.h1 _)
def kEmb {α β:Type} (A:Cod α) (v:β->α) (d:α->Option β) (hd:∀ a b,d a=some b->v b=a):Cod β where
 enc b:=A.enc (v b)
 dec a:=match A.dec a with
  | some x=>d x
  | none=>none
 val b:=A.val (v b)
 h1 b:=A.h1 _
 h2 ρ a x b h r:=by
  split at h
  . rename_i y hy
    rw [A.h2 ρ a x y hy r,hd y b h]
  . cases h
def suOfP (x:BitVec 64):Option Su:=bif x == 786251#64 then some .lit else bif x == 1152921504606846223#64 then some .mid else none
theorem suOfP_ok (x:BitVec 64) (s:Su) (h:suOfP x=some s):suB s=x:=by
 unfold suOfP at h
 cases h1:x == 786251#64 with
 | true=>rw [h1,cond_true] at h;cases h;exact (eq_of_beq h1).symm
 | false =>
  rw [h1,cond_false] at h
  cases h2:x == 1152921504606846223#64 with
  | true=>rw [h2,cond_true] at h;cases h;exact (eq_of_beq h2).symm
  | false=>rw [h2,cond_false] at h;cases h
def kPr:Cod Su:=kEmb kU suB suOfP suOfP_ok
def fnDv (F:Su->BitVec 64->BitVec 64->BitVec 64 × BitVec 64):List AV->Option (Bool × AV)
 | [a,c,d]=>match toU a,toU c,kPr.dec d with
  | some x,some y,some s=>some (Nat.blt x.toNat (suP s),kUU.enc (F s x y))
  | _,_,_=>none
 | _=>none
theorem dv_ctx:Ctx PR (envOf eqsT dvT) [24,27,69,78,85,104,113,120] (fun _=>none) 2 241 :=
 ctxB (envOf_ok eqsT_ok dvT_ok) mixed (by kernel_rfl)
theorem dv_gives {s:Su} {hi lo:BitVec 64} (h:hi.toNat < suP s):Gives (afunR PR (envOf eqsT dvT) [24,27,69,78,85,104,113,120] (fun _=>none) 2 241 [kU.enc hi,kU.enc lo,kU.enc (suB s)]) (kUU.val (dvF s hi lo)):=by
 cases s with
 | lit=>exact givesOf (dv_runL hi lo) (su_holds h)
 | mid=>exact givesOf (dv_runM hi lo) (su_holds h)
theorem dv_ok:CallOk PR 241 (fnDv dvF):=by
 refine .inl ⟨entersB (by kernel_rfl),pure_core dv_ctx fun args r hg=>?_⟩
 unfold fnDv at hg
 split at hg
 . rename_i a c d
   split at hg
   . rename_i x y s hx hy hs
     simp only [Option.some.injEq,Prod.mk.injEq] at hg
     obtain ⟨hb,rfl⟩:=hg
     refine ⟨[kU.enc x,kU.enc y,kU.enc (suB s)],[kU.val x,kU.val y,kU.val (suB s)],fun ρ xs hxs=>?_,by simp [flatL,kU.h1],_,kUU.h1 _,(dv_gives (Nat.le_of_ble_eq_true hb)).out⟩
     obtain ⟨v,ys,rfl,h1,h2⟩:=hxs.uncons
     obtain ⟨u,zs,rfl,h3,h4⟩:=h2.uncons
     obtain ⟨t,us,rfl,h5,h6⟩:=h4.uncons
     rw [h6.unnil,h1.toU hx,h3.toU hy,kPr.h2 ρ _ _ _ hs h5]
     rfl
   . cases hg
 . cases hg
def rmT (D:Su->BitVec 64->BitVec 64->BitVec 64 × BitVec 64):PureTab:=[(241,fnDv D)]
theorem rmT_ok:TabPOk PR (rmT dvF):=TabPOk.cons dv_ok TabPOk.nil
theorem rm_run (D:Su->BitVec 64->BitVec 64->BitVec 64 × BitVec 64) (s:Su) (hi lo:BitVec 64):Tree.but [1] 0 (afunR PR (envOf eqsT (rmT D)) [] (fun _=>none) 10 214 [kU.enc hi,kU.enc lo,kPr.enc s]) =
 .need (Nat.blt (hi % suB s).toNat (suP s) && true) (.leaf (kU.enc (D s (hi % suB s) lo).2)):=by cases s <;> kernel_rfl
def rmF (s:Su) (hi lo:BitVec 64):BitVec 64:=BitVec.ofNat 64 (Nat.mod (dvN hi lo) (suP s))
theorem rm_eq (s:Su) (hi lo:BitVec 64):(dvF s (hi % suB s) lo).2=rmF s hi lo:=by
 unfold dvF rmF
 have h:dvN (hi % suB s) lo % suP s=dvN hi lo % suP s:=by
  show (((hi % suB s).toNat*18446744073709551616)+lo.toNat) % suP s=((hi.toNat*18446744073709551616)+lo.toNat) % suP s
  rw [BitVec.toNat_umod,suB_nat,Nat.add_mod,Nat.mod_mul_mod,<- Nat.add_mod]
 exact congrArg (BitVec.ofNat 64) h
theorem rm_ctx:Ctx PR (envOf eqsT (rmT dvF)) [] (fun _=>none) 10 214 :=
 ctxB (envOf_ok eqsT_ok rmT_ok) mixed (by kernel_rfl)
theorem rm_ok:CallOk PR 214 (fn3 kU kU kPr kU fun x y s=>rmF s x y):=by
 refine .inl ⟨entersB (by kernel_rfl),pure3 rm_ctx fun hi lo s=>⟨Tree.holds_but (l:=[1]) (i:=0) ?_⟩⟩
 rw [rm_run]
 refine ⟨?_,?_⟩
 . have:(hi % suB s).toNat < suP s:=by
    rw [BitVec.toNat_umod,suB_nat];exact Nat.mod_lt _ (suP_pos s)
   rw [show Nat.blt (hi % suB s).toNat (suP s)=true from Nat.ble_eq_true_of_le this];rfl
 . rw [rm_eq];exact kU.h1 _
abbrev Cv6:Type:=BitVec 64 × BitVec 64 × BitVec 64 × BitVec 64 × BitVec 64 × Bool
def cCv:CC Cv6:=CC.prod cU (CC.prod cU (CC.prod cU (CC.prod cU (CC.prod cU cBool))))
def suV (s:Su):Cv6:=(suB s,suR s,suC s,suX s,suY s,false)
def beqU (a b:BitVec 64):Bool:=a == b
theorem beqU_ok (a b:BitVec 64) (h:beqU a b=true):a=b:=eq_of_beq h
def beqB (a b:Bool):Bool:=a == b
theorem beqB_ok (a b:Bool) (h:beqB a b=true):a=b:=eq_of_beq h
def eqCv:Cv6->Cv6->Bool:=pairB beqU (pairB beqU (pairB beqU (pairB beqU (pairB beqU beqB))))
theorem eqCv_ok (a b:Cv6) (h:eqCv a b=true):a=b:=pairB_eq beqU_ok (pairB_eq beqU_ok (pairB_eq beqU_ok (pairB_eq beqU_ok (pairB_eq beqU_ok beqB_ok)))) a b h
def suOfV (x:Cv6):Option Su:=bif eqCv (suV .lit) x then some .lit else bif eqCv (suV .mid) x then some .mid else none
theorem suOfV_ok (x:Cv6) (s:Su) (h:suOfV x=some s):suV s=x:=by
 unfold suOfV at h
 cases h1:eqCv (suV .lit) x with
 | true=>rw [h1,cond_true] at h;cases h;exact eqCv_ok _ _ h1
 | false =>
  rw [h1,cond_false] at h
  cases h2:eqCv (suV .mid) x with
  | true=>rw [h2,cond_true] at h;cases h;exact eqCv_ok _ _ h2
  | false=>rw [h2,cond_false] at h;cases h
def kCv:Cod Su:=kEmb cCv.agg suV suOfV suOfV_ok
def cLp:CC Lp:=CC.prod cU (CC.prod cU cBool)
def lmT (M:BitVec 64->BitVec 64->BitVec 64 × BitVec 64) (R:Op2):PureTab:=[(183,fn2 kU kU kUU M),(214,fn3 kU kU kPr kU fun x y s=>R s x y)]
theorem lmT_ok:TabPOk PR (lmT mul64 rmF):=TabPOk.cons mul64_ok (TabPOk.cons rm_ok TabPOk.nil)
theorem lm_run (M:BitVec 64->BitVec 64->BitVec 64 × BitVec 64) (R:Op2) (s:Su) (a b:BitVec 64):(afunR PR (envOf eqsT (lmT M R)) [] (fun _=>none) 10 175 [kCv.enc s,kU.enc a,kU.enc b]).strict=.leaf (kU.enc (R s (M a b).1 (M a b).2)):=by cases s <;> kernel_rfl
theorem lm_eq (s:Su) (a b:BitVec 64):rmF s (mul64 a b).1 (mul64 a b).2=lMul s a b:=by
 unfold rmF lMul
 have h:=mul64_nat a b
 have e:dvN (mul64 a b).1 (mul64 a b).2=a.toNat*b.toNat:=by
  show (mul64 a b).1.toNat*18446744073709551616+(mul64 a b).2.toNat=_
  rw [<- h,Nat.add_comm,Nat.mul_comm]
 rw [e];rfl
theorem lm_ctx:Ctx PR (envOf eqsT (lmT mul64 rmF)) [] (fun _=>none) 10 175 :=
 ctxB (envOf_ok eqsT_ok lmT_ok) mixed (by kernel_rfl)
theorem lm_ok:CallOk PR 175 (fn3 kCv kU kU kU lMul) :=
 .inl ⟨entersB (by kernel_rfl),pure3 lm_ctx fun s a b=>leafVal (B:=kU) (y:=lMul s a b) (by rw [lm_run,lm_eq])⟩
theorem la_run (s:Su) (a b:BitVec 64):(afunR PR (envOf eqsT []) [] (fun _=>none) 10 177 [kCv.enc s,kU.enc a,kU.enc b]).strict=.leaf (kU.enc (lAdd s a b)):=by cases s <;> kernel_rfl
theorem ls_run (s:Su) (a b:BitVec 64):(afunR PR (envOf eqsT []) [] (fun _=>none) 10 176 [kCv.enc s,kU.enc a,kU.enc b]).strict=.leaf (kU.enc (lSub s a b)):=by cases s <;> kernel_rfl
theorem la_ctx:Ctx PR (envOf eqsT []) [] (fun _=>none) 10 177 :=
 ctxB (envOf_ok eqsT_ok TabPOk.nil) mixed (by kernel_rfl)
theorem ls_ctx:Ctx PR (envOf eqsT []) [] (fun _=>none) 10 176 :=
 ctxB (envOf_ok eqsT_ok TabPOk.nil) mixed (by kernel_rfl)
theorem la_ok:CallOk PR 177 (fn3 kCv kU kU kU lAdd) :=
 .inl ⟨entersB (by kernel_rfl),pure3 la_ctx fun s a b=>leafVal (B:=kU) (y:=lAdd s a b) (la_run s a b)⟩
theorem ls_ok:CallOk PR 176 (fn3 kCv kU kU kU lSub) :=
 .inl ⟨entersB (by kernel_rfl),pure3 ls_ctx fun s a b=>leafVal (B:=kU) (y:=lSub s a b) (ls_run s a b)⟩
structure LQ where
 mul:Op2
 add:Op2
 sub:Op2
 right:Op1
 inv:Op1
 slope:Su->Lp->Lp->BitVec 64 × Bool
 sum:Su->Lp->Lp->Lp
def kUb:Cod (BitVec 64 × Bool):=kTup kU kBool (fun _=>rfl) (fun _=>rfl)
def tMulL (t:LQ):FuncId × (List AV->Option (Bool × AV)):=(175,fn3 kCv kU kU kU t.mul)
def tAddL (t:LQ):FuncId × (List AV->Option (Bool × AV)):=(177,fn3 kCv kU kU kU t.add)
def tSubL (t:LQ):FuncId × (List AV->Option (Bool × AV)):=(176,fn3 kCv kU kU kU t.sub)
def tRightL (t:LQ):FuncId × (List AV->Option (Bool × AV)):=(174,fn2 kCv kU kU t.right)
def tInvL (t:LQ):FuncId × (List AV->Option (Bool × AV)):=(228,fn2 kCv kU kU t.inv)
def tSlopeL (t:LQ):FuncId × (List AV->Option (Bool × AV)):=(182,fn3 kCv cLp.agg cLp.agg kUb t.slope)
def lrT (t:LQ):PureTab:=[tMulL t,tAddL t]
theorem lr_run (t:LQ) (s:Su) (x:BitVec 64):(afunR PR (envOf eqsT (lrT t)) [] (fun _=>none) 10 174 [kCv.enc s,kU.enc x]).strict=.leaf (kU.enc (t.add s (t.mul s (t.mul s x x) x) x)):=by cases s <;> kernel_rfl
def onG (t:LQ) (s:Su) (p:Lp):Bool:=bif p.2.2 then (bif p.1 == 0#64 then p.2.1 == 0#64 else false) else
 bif BitVec.ult p.1 (suB s) then (bif BitVec.ult p.2.1 (suB s) then t.mul s p.2.1 p.2.1 == t.right s p.1 else false) else false
def loT (t:LQ):PureTab:=[tMulL t,tRightL t]
theorem lo_run (t:LQ) (s:Su) (p:Lp):(afunR PR (envOf eqsT (loT t)) [6,10,20,27] (fun _=>none) 10 181 [kCv.enc s,cLp.agg.enc p]).strict =
 .br p.2.2 (.br (p.1 == bitW false) (.leaf (.v (.bool (p.2.1 == bitW false)))) (.leaf (.lit false)))
  (.br (BitVec.ult p.1 (suB s)) (.br (BitVec.ult p.2.1 (suB s)) (.leaf (.v (.bool (t.mul s p.2.1 p.2.1 == t.right s p.1)))) (.leaf (.lit false))) (.leaf (.lit false))):=by cases s <;> kernel_rfl
theorem lo_gives (t:LQ) (s:Su) (p:Lp):Gives (afunR PR (envOf eqsT (loT t)) [6,10,20,27] (fun _=>none) 10 181 [kCv.enc s,cLp.agg.enc p]) (kBool.val (onG t s p)) :=
 givesOf (lo_run t s p) (holds_br (B:=kBool) (holds_br (B:=kBool) (holds_leaf rfl) (holds_leaf rfl)) (holds_br (B:=kBool) (holds_br (B:=kBool) (holds_leaf rfl) (holds_leaf rfl)) (holds_leaf rfl)))
theorem lr_ctx:Ctx PR (envOf eqsT (lrT ⟨lMul,lAdd,lSub,lrF,lrF,fun _ _ _=>(0#64,false),fun _ p _=>p⟩)) [] (fun _=>none) 10 174 :=
 ctxB (envOf_ok eqsT_ok (TabPOk.cons lm_ok (TabPOk.cons la_ok TabPOk.nil))) mixed (by kernel_rfl)
theorem lr_ok:CallOk PR 174 (fn2 kCv kU kU lrF) :=
 .inl ⟨entersB (by kernel_rfl),pure2 lr_ctx fun s x=>leafVal (B:=kU) (y:=lrF s x) (lr_run _ s x)⟩
theorem lo_ctx:Ctx PR (envOf eqsT (loT ⟨lMul,lAdd,lSub,lrF,lrF,fun _ _ _=>(0#64,false),fun _ p _=>p⟩)) [6,10,20,27] (fun _=>none) 10 181 :=
 ctxB (envOf_ok eqsT_ok (TabPOk.cons lm_ok (TabPOk.cons lr_ok TabPOk.nil))) mixed (by kernel_rfl)
theorem lo_ok:CallOk PR 181 (fn2 kCv cLp.agg kBool onF) :=
 .inl ⟨entersB (by kernel_rfl),pure2 lo_ctx fun s p=>lo_gives _ s p⟩
def lvT (P:Op2):PureTab:=[(173,fn3 kCv kU kU kU P)]
theorem lv_run (P:Op2) (s:Su) (x:BitVec 64):(afunR PR (envOf eqsT (lvT P)) [] (fun _=>none) 10 228 [kCv.enc s,kU.enc x]).strict=.leaf (kU.enc (P s x (suB s - 2#64))):=by cases s <;> kernel_rfl
def slopeG (t:LQ) (s:Su) (p q:Lp):BitVec 64 × Bool:=bif p.1 != q.1 then (t.mul s (t.sub s q.2.1 p.2.1) (t.inv s (t.sub s q.1 p.1)),true) else
 bif p.2.1 != q.2.1 then (0#64,false) else bif p.2.1 == 0#64 then (0#64,false) else
 (t.mul s (t.add s (t.add s (t.add s (t.mul s p.1 p.1) (t.mul s p.1 p.1)) (t.mul s p.1 p.1)) 1#64) (t.inv s (t.add s p.2.1 p.2.1)),true)
def lsT (t:LQ):PureTab:=[tMulL t,tAddL t,tSubL t,tInvL t]
def slL0:AV:=.tup [.bit false,.lit false]
theorem slL0_flat:flat slL0=some (kUb.val (0#64,false)):=rfl
def slL (x:BitVec 64) (b:Bool):AV:=.tup [.u x,.lit b]
theorem slL_flat (x:BitVec 64) (b:Bool):flat (slL x b)=some (kUb.val (x,b)):=rfl
theorem lsl_run (t:LQ) (s:Su) (p q:Lp):(afunR PR (envOf eqsT (lsT t)) [13,35,39] (fun _=>none) 10 182 [kCv.enc s,cLp.agg.enc p,cLp.agg.enc q]).strict =
 .br (p.1 != q.1) (.leaf (slL (t.mul s (t.sub s q.2.1 p.2.1) (t.inv s (t.sub s q.1 p.1))) true))
  (.br (p.2.1 != q.2.1) (.leaf slL0) (.br (p.2.1 == 0#64) (.leaf slL0)
   (.leaf (slL (t.mul s (t.add s (t.add s (t.add s (t.mul s p.1 p.1) (t.mul s p.1 p.1)) (t.mul s p.1 p.1)) 1#64) (t.inv s (t.add s p.2.1 p.2.1))) true)))):=by cases s <;> kernel_rfl
theorem lsl_gives (t:LQ) (s:Su) (p q:Lp):Gives (afunR PR (envOf eqsT (lsT t)) [13,35,39] (fun _=>none) 10 182 [kCv.enc s,cLp.agg.enc p,cLp.agg.enc q]) (kUb.val (slopeG t s p q)) :=
 givesOf (lsl_run t s p q) (holds_br (B:=kUb) (holds_leaf (slL_flat _ _)) (holds_br (B:=kUb) (holds_leaf slL0_flat) (holds_br (B:=kUb) (holds_leaf slL0_flat) (holds_leaf (slL_flat _ _)))))
def sumG (t:LQ) (s:Su) (p q:Lp):Lp:=bif p.2.2 then q else bif q.2.2 then p else bif !(t.slope s p q).2 then (0#64,0#64,true) else
 (t.sub s (t.sub s (t.mul s (t.slope s p q).1 (t.slope s p q).1) p.1) q.1,
  t.sub s (t.mul s (t.slope s p q).1 (t.sub s p.1 (t.sub s (t.sub s (t.mul s (t.slope s p q).1 (t.slope s p q).1) p.1) q.1))) p.2.1,false)
def lsmT (t:LQ):PureTab:=[tMulL t,tSubL t,tSlopeL t]
def lpL (x y:BitVec 64) (b:Bool):AV:=.agg [.u x,.u y,.lit b]
theorem lpL_flat (x y:BitVec 64) (b:Bool):flat (lpL x y b)=some (cLp.agg.val (x,y,b)):=rfl
theorem lsm_run (t:LQ) (s:Su) (p q:Lp):(afunR PR (envOf eqsT (lsmT t)) [10,14,26] (fun _=>none) 10 128 [kCv.enc s,cLp.agg.enc p,cLp.agg.enc q]).strict =
 .br p.2.2 (.leaf (cLp.agg.enc q)) (.br q.2.2 (.leaf (cLp.agg.enc p)) (.br (!(t.slope s p q).2) (.leaf (lpL 0#64 0#64 true))
  (.leaf (lpL (t.sub s (t.sub s (t.mul s (t.slope s p q).1 (t.slope s p q).1) p.1) q.1)
   (t.sub s (t.mul s (t.slope s p q).1 (t.sub s p.1 (t.sub s (t.sub s (t.mul s (t.slope s p q).1 (t.slope s p q).1) p.1) q.1))) p.2.1) false)))):=by cases s <;> kernel_rfl
theorem lsm_gives (t:LQ) (s:Su) (p q:Lp):Gives (afunR PR (envOf eqsT (lsmT t)) [10,14,26] (fun _=>none) 10 128 [kCv.enc s,cLp.agg.enc p,cLp.agg.enc q]) (cLp.agg.val (sumG t s p q)) :=
 givesOf (lsm_run t s p q) (holds_br (B:=cLp.agg) (holds_leaf (cLp.agg.h1 _)) (holds_br (B:=cLp.agg) (holds_leaf (cLp.agg.h1 _)) (holds_br (B:=cLp.agg) (holds_leaf (lpL_flat _ _ _)) (holds_leaf (lpL_flat _ _ _)))))
end Go.Rq.Sm

namespace Go.Rq.Cl
open Go Go.Proofs Go.Rq Go.Rq.Sm
abbrev kW:Cod Int:=kInt .u32
def wAdd (x y:Int):Int:=IntKind.u32.wrap (x+y)
def wXor (x y:Int):Int:=IntKind.u32.wrap ((BitVec.ofInt 32 x ^^^ BitVec.ofInt 32 y).toNat:Int)
def wAnd (x y:Int):Int:=IntKind.u32.wrap ((BitVec.ofInt 32 x &&& BitVec.ofInt 32 y).toNat:Int)
def wOr (x y:Int):Int:=IntKind.u32.wrap ((BitVec.ofInt 32 x ||| BitVec.ofInt 32 y).toNat:Int)
def wShl (x:Int) (n:Nat):Int:=IntKind.u32.wrap (x*2 ^ n)
def wShr (x:Int) (n:Nat):Int:=x.fdiv (2 ^ n)
def wNot (x:Int):Int:=wXor IntKind.u32.max x
def rolG (x k:Int):Int:=wOr (wShl x (min (Int.ofNat (BitVec.ofInt 64 k &&& BitVec.ofInt 64 31).toNat).toNat 32)) (wShr x (min (Int.ofNat (BitVec.ofInt 64 32 - (BitVec.ofInt 64 k &&& BitVec.ofInt 64 31)).toNat).toNat 32))
theorem rol_run (x k:Int):(afunR PR (envOf eqsT []) [] (fun _=>none) 10 258 [kW.enc x,(kInt .i64).enc k]).strict=.leaf (kW.enc (rolG x k)):=by kernel_rfl
theorem rol_ctx:Ctx PR (envOf eqsT []) [] (fun _=>none) 10 258 :=
 ctxB (envOf_ok eqsT_ok TabPOk.nil) mixed (by kernel_rfl)
theorem rol_ok:CallOk PR 258 (fn2 kW (kInt .i64) kW rolG) :=
 .inl ⟨entersB (by kernel_rfl),pure2 rol_ctx fun x k=>leafVal (B:=kW) (y:=rolG x k) (rol_run x k)⟩
def rgT (R:Int->Int->Int):PureTab:=[(258,fn2 kW (kInt .i64) kW R)]
def rgG (R:Int->Int->Int) (x n:Int):Int:=R x (IntKind.i64.wrap (0 - n))
theorem rg_run (R:Int->Int->Int) (x n:Int):(afunR PR (envOf eqsT (rgT R)) [] (fun _=>none) 10 248 [kW.enc x,(kInt .i64).enc n]).strict=.leaf (kW.enc (rgG R x n)):=by kernel_rfl
def rgF:Int->Int->Int:=rgG rolG
theorem rg_ctx:Ctx PR (envOf eqsT (rgT rolG)) [] (fun _=>none) 10 248 :=
 ctxB (envOf_ok eqsT_ok (TabPOk.cons rol_ok TabPOk.nil)) mixed (by kernel_rfl)
theorem rg_ok:CallOk PR 248 (fn2 kW (kInt .i64) kW rgF) :=
 .inl ⟨entersB (by kernel_rfl),pure2 rg_ctx fun x n=>leafVal (B:=kW) (y:=rgF x n) (rg_run rolG x n)⟩
def u32L (s:Nat->Int):Nat->Nat->List AV
 | _,0=>[]
 | i,n+1=>.v (.int .u32 (s i)) :: u32L s (i+1) n
def bkT (R:Int->Int->Int):PureTab:=[(248,fn2 kW (kInt .i64) kW R)]
noncomputable def bkE (R:Int->Int->Int):Env:=envA eqsT (bkT R) [] [] [] [] [] true []
theorem bkE_ok:EnvOk PR (bkE rgF):=envA_ok eqsT_ok (TabPOk.cons rg_ok TabPOk.nil) TabHOk.nil TabLOk.nil TabAOk.nil
inductive BP where
 | hash (n:Int) (md:Bool)
 | row (wb:Bool)
 | low (wb:Bool) (q:Nat->Int)
 | high (wb:Bool) (q:Nat->Int)
def bpArgs:BP->List AV
 | .hash _ _=>[.ptr 0 0,.slc 0 8 64 64]
 | .row _=>[.ptr 0 0,.own 1 1 0 64]
 | .low _ _=>[.ptr 0 0,.own 1 1 0 64]
 | .high _ _=>[.ptr 0 0,.own 1 1 64 64]
def bpHeap (s b:Nat->Int):BP->AH
 | .hash n md=>[(0,some ⟨true,242,u32L s 0 8 ++ (bytL b 0 64 ++ [.v (.int .i64 n),.lit md])⟩)]
 | .row wb=>[(0,some ⟨true,238,u32L s 0 8⟩),(1,some ⟨wb,5,bytL b 0 64⟩)]
 | .low wb q=>[(0,some ⟨true,238,u32L s 0 8⟩),(1,some ⟨wb,5,bytL b 0 64 ++ bytL q 0 64⟩)]
 | .high wb q=>[(0,some ⟨true,238,u32L s 0 8⟩),(1,some ⟨wb,5,bytL q 0 64 ++ bytL b 0 64⟩)]
def bpN:BP->Nat
 | .hash _ _=>1
 | _=>2
def bpIds:BP->List Nat
 | .hash _ _=>[0]
 | _=>[0,1]
def upd (w:Nat->Int) (t:Nat) (v:Int):Nat->Int:=fun k=>bif Nat.beq k t then v else w k
def wv (R:Int->Int->Int) (b w:Nat->Int) (t:Nat):Int:=bif Nat.blt t 16 then
 wOr (wOr (wOr (wShl (IntKind.u32.wrap (b (4*t))) 24) (wShl (IntKind.u32.wrap (b (4*t+1))) 16)) (wShl (IntKind.u32.wrap (b (4*t+2))) 8)) (IntKind.u32.wrap (b (4*t+3)))
 else wAdd (wAdd (wAdd (wXor (wXor (R (w (t - 2)) 17) (R (w (t - 2)) 19)) (wShr (w (t - 2)) 10)) (w (t - 7))) (wXor (wXor (R (w (t - 15)) 7) (R (w (t - 15)) 18)) (wShr (w (t - 15)) 3))) (w (t - 16))
def b1K (p:BP):Keep:=⟨[0,1,4,15],bpN p :: bpIds p,bpN p+2⟩
@[irreducible] noncomputable def b1X (R:Int->Int->Int) (s b:Nat->Int) (p:BP):XS:=entryOf PR (bkE R) [] (fun _=>none) 10 225 (bpArgs p) (bpHeap s b p) (bpN p) 0 (b1K p)
@[irreducible] noncomputable def b1C:Code:=roundOf PR 225 0
@[irreducible] noncomputable def b1I (R:Int->Int->Int) (s b:Nat->Int) (p:BP) (d:Nat × (Nat->Int)):XS:=((b1X R s b p).setT 15 (.v (.int .i64 (Int.ofNat d.1)))).setB (bpN p) (u32L d.2 0 64)
def shaKI:List Int:=shaK.map fun v=>match v with
 | .int _ n=>n
 | _=>0
def shaAt (t:Nat):Int:=match shaKI[t]? with
 | some n=>n
 | none=>0
def rvP (R:Int->Int->Int) (w v:Nat->Int) (t:Nat):Int :=
 wAdd (wAdd (wAdd (wAdd (v 7) (wXor (wXor (R (v 4) 6) (R (v 4) 11)) (R (v 4) 25))) (wXor (wAnd (v 4) (v 5)) (wAnd (wNot (v 4)) (v 6)))) (shaAt t)) (w t)
def rvQ (R:Int->Int->Int) (v:Nat->Int):Int:=wAdd (wXor (wXor (R (v 0) 2) (R (v 0) 13)) (R (v 0) 22)) (wXor (wXor (wAnd (v 0) (v 1)) (wAnd (v 0) (v 2))) (wAnd (v 1) (v 2)))
def rv (R:Int->Int->Int) (w v:Nat->Int) (t:Nat):Nat->Int:=fun i=>bif Nat.beq i 0 then wAdd (rvP R w v t) (rvQ R v) else bif Nat.beq i 4 then wAdd (v 3) (rvP R w v t) else v (i - 1)
@[irreducible] noncomputable def b1B (R:Int->Int->Int) (s b:Nat->Int) (p:BP) (w:Nat->Int):BEnt:=⟨(b1K p).tm,(b1K p).ids,(b1K p).n,b1X R s b p,.leaf (.normal,b1I R s b p (64,w))⟩
def b2K (p:BP):Keep:=⟨[0,4,8,96],(bpN p+5) :: bpN p :: bpIds p,bpN p+8⟩
@[irreducible] noncomputable def b2X (R:Int->Int->Int) (s b:Nat->Int) (p:BP) (w:Nat->Int):XS:=entryB PR (bkE R) [] (tabOf [(0,b1B R s b p w)]) 10 225 (bpArgs p) (bpHeap s b p) (bpN p) 2 (b2K p)
@[irreducible] noncomputable def b2C:Code:=roundOf PR 225 2
@[irreducible] noncomputable def b2I (R:Int->Int->Int) (s b:Nat->Int) (p:BP) (w:Nat->Int) (d:Nat × (Nat->Int)):XS:=((b2X R s b p w).setT 96 (.v (.int .i64 (Int.ofNat d.1)))).setB (bpN p+5) (u32L d.2 0 8)
@[irreducible] noncomputable def b2B (R:Int->Int->Int) (s b:Nat->Int) (p:BP) (w v:Nat->Int):BEnt:=⟨(b2K p).tm,(b2K p).ids,(b2K p).n,b2X R s b p w,.leaf (.normal,b2I R s b p w (64,v))⟩
def b3K (p:BP):Keep:=⟨[0,8,178],(bpN p+5) :: bpIds p,bpN p+9⟩
@[irreducible] noncomputable def b3X (R:Int->Int->Int) (s b:Nat->Int) (p:BP) (w v:Nat->Int):XS:=entryB PR (bkE R) [] (tabOf [(0,b1B R s b p w),(2,b2B R s b p w v)]) 10 225 (bpArgs p) (bpHeap s b p) (bpN p) 4 (b3K p)
@[irreducible] noncomputable def b3C:Code:=roundOf PR 225 4
def bpSet (z b:Nat->Int):BP->List AV
 | .hash n md=>u32L z 0 8 ++ (bytL b 0 64 ++ [.v (.int .i64 n),.lit md])
 | _=>u32L z 0 8
@[irreducible] noncomputable def b3I (R:Int->Int->Int) (s b:Nat->Int) (p:BP) (w v:Nat->Int) (d:Nat × (Nat->Int)):XS:=((b3X R s b p w v).setT 178 (.v (.int .i64 (Int.ofNat d.1)))).setB 0 (bpSet d.2 b p)
@[irreducible] noncomputable def b3B (R:Int->Int->Int) (s b:Nat->Int) (p:BP) (w v z:Nat->Int):BEnt:=⟨(b3K p).tm,(b3K p).ids,(b3K p).n,b3X R s b p w v,.leaf (.normal,b3I R s b p w v (8,z))⟩
def zv (v z:Nat->Int) (t:Nat):Nat->Int:=upd z t (wAdd (z t) (v t))
def bpHeap2 (z b:Nat->Int):BP->AH
 | .hash n md=>[(0,some ⟨true,242,u32L z 0 8 ++ (bytL b 0 64 ++ [.v (.int .i64 n),.lit md])⟩)]
 | .row wb=>[(0,some ⟨true,238,u32L z 0 8⟩),(1,some ⟨wb,5,bytL b 0 64⟩)]
 | .low wb q=>[(0,some ⟨true,238,u32L z 0 8⟩),(1,some ⟨wb,5,bytL b 0 64 ++ bytL q 0 64⟩)]
 | .high wb q=>[(0,some ⟨true,238,u32L z 0 8⟩),(1,some ⟨wb,5,bytL q 0 64 ++ bytL b 0 64⟩)]
def bkOut1:Option Blk->AV
 | some B=>.tup [.v (.bool B.wr),.v (.int .i64 (Int.ofNat B.ty)),.agg B.cs]
 | none=>.any
def bkOut (h:AH):AV:=.tup [bkOut1 (h.get 0),bkOut1 (h.get 1)]
end Go.Rq.Cl
