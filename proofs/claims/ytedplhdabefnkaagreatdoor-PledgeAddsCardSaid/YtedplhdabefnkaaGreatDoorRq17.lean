import Derived.Test.YtedplhdabefnkaaGreatDoorRq12
import Derived.Test.YtedplhdabefnkaaGreatDoorRq06
import Derived.Test.YtedplhdabefnkaaGreatDoorRq04
import Derived.Test.YtedplhdabefnkaaGreatDoorRq05
import Derived.Test.YtedplhdabefnkaaGreatDoorRq07
namespace Go.Rq
open Go Go.Proofs
def flW:CC (Fl W6):=cFl 198 199 200 201 c6
def jW:CC (Jp W6):=cJp c6
def aW:CC (Ap W6):=cAp c6
set_option maxRecDepth 100000 in
theorem twW_run (o:FO W6) (f:Fl W6) (p:Jp W6):(afunR PR (envOf eqsT (T1 o)) [] (fun _=>none) 40 240 [flW.agg.enc f,jW.agg.enc p]).strict=.leaf (jW.agg.enc (twiceJ o p)):=by kernel_rfl
set_option maxRecDepth 100000 in
theorem raW_run (o:FO W6) (f:Fl W6) (p:Ap W6):(afunR PR (envOf eqsT (T1 o)) [6] (fun _=>none) 40 207 [flW.agg.enc f,aW.agg.enc p]).strict=.br p.zero (.leaf (jW.agg.enc ⟨f.one,f.one,zeroW⟩)) (.leaf (jW.agg.enc ⟨p.x,p.y,f.one⟩)):=by kernel_rfl
set_option maxRecDepth 100000 in
theorem loW_run (o:FO W6) (f:Fl W6) (p:Jp W6):(afunR PR (envOf eqsT (T1 o)) [11] (fun _=>none) 40 205 [flW.agg.enc f,jW.agg.enc p]).strict=.br (eqW p.z zeroW) (.leaf (.agg (c6.enc zeroW ++ (c6.enc zeroW ++ [.lit true])))) (.leaf (.agg (c6.enc (lowerJ o p).x ++ (c6.enc (lowerJ o p).y ++ [.lit false])))):=by kernel_rfl
set_option maxRecDepth 100000 in
theorem onW_run (o:FO W6) (f:Fl W6) (p:Ap W6):(afunR PR (envOf eqsT (T1 o)) [7,12] (fun _=>none) 40 204 [flW.agg.enc f,aW.agg.enc p]).strict=.br p.zero (.br (eqW p.x zeroW) (.leaf (kBool.enc (eqW p.y zeroW))) (.leaf (.lit false))) (.leaf (kBool.enc (eqW (o.mul p.y p.y) (o.add (o.mul (o.mul p.x p.x) p.x) f.b)))):=by kernel_rfl
set_option maxRecDepth 100000 in
theorem suW_run (o:FO W6) (f:Fl W6) (tw:Fl W6->Jp W6->Jp W6) (p q:Jp W6):(afunR PR (envOf eqsT ((240,fn2 flW.agg jW.agg jW.agg tw) :: T1 o)) [23,28,90,93] (fun _=>none) 40 226 [flW.agg.enc f,jW.agg.enc p,jW.agg.enc q]).strict=.br (eqW p.z zeroW) (.leaf (jW.agg.enc q)) (.br (eqW q.z zeroW) (.leaf (jW.agg.enc p)) (.br (eqW (hJ o p q) zeroW) (.br (eqW (rJ o p q) zeroW) (.leaf (jW.agg.enc (tw f p))) (.leaf (jW.agg.enc ⟨f.one,f.one,zeroW⟩))) (.leaf (jW.agg.enc (sumJ o p q))))):=by kernel_rfl
theorem twW_ctx:Ctx PR (envOf eqsT (T1 fW)) [] (fun _=>none) 40 240 :=
 ctxB (envOf_ok eqsT_ok T1_ok) mixed (by kernel_rfl)
theorem twW_ok:CallOk PR 240 (fn2 flW.agg jW.agg jW.agg (fun _ p=>twiceJ fW p)) :=
 .inl ⟨entersB (by kernel_rfl),pure2 twW_ctx (fun f p=>leafVal (B:=jW.agg) (y:=twiceJ fW p) (twW_run fW f p))⟩
theorem raW_ctx:Ctx PR (envOf eqsT (T1 fW)) [6] (fun _=>none) 40 207 :=
 ctxB (envOf_ok eqsT_ok T1_ok) mixed (by kernel_rfl)
theorem raW_ok:CallOk PR 207 (fn2 flW.agg aW.agg jW.agg (raiseJ fW)) :=
 .inl ⟨entersB (by kernel_rfl),pure2 raW_ctx (fun f p=>givesOf (raW_run fW f p) (holds_br (B:=jW.agg) (holds_leaf (jW.agg.h1 _)) (holds_leaf (jW.agg.h1 _))))⟩
theorem loW_ctx:Ctx PR (envOf eqsT (T1 fW)) [11] (fun _=>none) 40 205 :=
 ctxB (envOf_ok eqsT_ok T1_ok) mixed (by kernel_rfl)
theorem loW_ok:CallOk PR 205 (fn2 flW.agg jW.agg aW.agg (fun _ p=>lowerE fW eqW p)) :=
 .inl ⟨entersB (by kernel_rfl),pure2 loW_ctx (fun f p=>givesOf (loW_run fW f p) (holds_br (B:=aW.agg) (holds_leaf (apFlatW _ _ _)) (holds_leaf (apFlatW _ _ _))))⟩
theorem onW_ctx:Ctx PR (envOf eqsT (T1 fW)) [7,12] (fun _=>none) 40 204 :=
 ctxB (envOf_ok eqsT_ok T1_ok) mixed (by kernel_rfl)
theorem onW_ok:CallOk PR 204 (fn2 flW.agg aW.agg kBool (onE fW eqW)) :=
 .inl ⟨entersB (by kernel_rfl),pure2 onW_ctx (fun f p=>givesOf (onW_run fW f p) (holds_br (B:=kBool) (holds_br (B:=kBool) (holds_leaf (kBool.h1 _)) (holds_leaf (a:=.lit false) (v:=kBool.val false) rfl)) (holds_leaf (kBool.h1 _))))⟩
def twTW:PureTab:=(240,fn2 flW.agg jW.agg jW.agg (fun _ p=>twiceJ fW p)) :: T1 fW
theorem twTW_ok:TabPOk PR twTW:=TabPOk.cons twW_ok T1_ok
theorem suW_ctx:Ctx PR (envOf eqsT (twTW)) [23,28,90,93] (fun _=>none) 40 226 :=
 ctxB (envOf_ok eqsT_ok twTW_ok) mixed (by kernel_rfl)
theorem suW_ok:CallOk PR 226 (fn3 flW.agg jW.agg jW.agg jW.agg (sumE fW eqW)) :=
 .inl ⟨entersB (by kernel_rfl),pure3 suW_ctx (fun f p q=>givesOf (suW_run fW f (fun _ p=>twiceJ fW p) p q) (holds_br (B:=jW.agg) (holds_leaf (jW.agg.h1 _)) (holds_br (B:=jW.agg) (holds_leaf (jW.agg.h1 _)) (holds_br (B:=jW.agg) (holds_br (B:=jW.agg) (holds_leaf (jW.agg.h1 _)) (holds_leaf (jW.agg.h1 _))) (holds_leaf (jW.agg.h1 _))))))⟩
structure TO (K:Type) where
 tw:Fl K->Jp K->Jp K
 su:Fl K->Jp K->Jp K->Jp K
 ln:W6->Int
 bt:W6->Int->Int
def timesG {K:Type} (t:TO K) (f:Fl K) (p:Jp K) (n:W6):Nat->Jp K->Jp K
 | 0,out=>out
 | k+1,out=>timesG t f p n k (bif t.bt n (k:Int) == 1 then t.su f (t.tw f out) p else t.tw f out)
def tmTW (t:TO W6):PureTab:=[(240,fn2 flW.agg jW.agg jW.agg t.tw),(226,fn3 flW.agg jW.agg jW.agg jW.agg t.su),
 (103,fn1 c6.agg (kInt .i64) t.ln),(105,fn2 c6.agg (kInt .i64) (kInt .i64) t.bt)]
noncomputable def tmEW (t:TO W6):Env:=envOf eqsT (tmTW t)
def tmKW:Keep:=⟨[3,4,5,6,7,8],[0,1,2,3,9],15⟩
@[irreducible] noncomputable def tmXW (t:TO W6) (f:Fl W6) (p:Jp W6) (n:W6):XS:=entryOf PR (tmEW t) [18,27] (fun _=>none) 10 206 [flW.agg.enc f,jW.agg.enc p,c6.agg.enc n] [] 0 0 tmKW
@[irreducible] noncomputable def tmIW (t:TO W6) (f:Fl W6) (p:Jp W6) (n:W6) (d:Int × Jp W6):XS:=((tmXW t f p n).setT 8 (.v (.int .i64 d.1))).setB 9 (jW.enc d.2)
@[irreducible] noncomputable def tmCW:Code:=roundOf PR 206 0
set_option maxRecDepth 100000 in
theorem tm_roundW (t:TO W6) (f:Fl W6) (p:Jp W6) (n:W6) (z:Int) (out:Jp W6):(roundT PR (tmEW t) [18,27] (fun _=>none) 10 tmKW tmKW tmKW tmCW (tmIW t f p n (z,out))).strict =
 .br (decide (z >= 0))
  (.br (t.bt n z == 1)
   (.leaf (.normal,tmIW t f p n (IntKind.i64.wrap (z - 1),t.su f (t.tw f out) p)))
   (.leaf (.normal,tmIW t f p n (IntKind.i64.wrap (z - 1),t.tw f out))))
  (.leaf (.exit 0,tmIW t f p n (z,out))):=by kernel_rfl
theorem tm_law {K:Type} (t:TO K) (f:Fl K) (p:Jp K) (n:W6) (rt:XS->Tree (AExit × XS)) (I:Int × Jp K->XS) (hr:∀ (z:Int) (out:Jp K),(rt (I (z,out))).strict =
 .br (decide (z >= 0))
  (.br (t.bt n z == 1)
   (.leaf (.normal,I (IntKind.i64.wrap (z - 1),t.su f (t.tw f out) p)))
   (.leaf (.normal,I (IntKind.i64.wrap (z - 1),t.tw f out))))
  (.leaf (.exit 0,I (z,out)))) {R:Jp K} {Q:AExit->XS->Prop} (hK:Q .normal (I (-1,R))) :
 ∀ d:Int × Jp K,(-1 <= d.1 /\ d.1 <= 383 /\ timesG t f p n (d.1+1).toNat d.2=R)->(rt (I d)).holds (fun r=>match r.1 with
  | .normal=>∃ j:Int × Jp K,(-1 <= j.1 /\ j.1 <= 383 /\ timesG t f p n (j.1+1).toNat j.2=R) /\ (j.1+1).toNat < (d.1+1).toNat /\ r.2=I j
  | .exit q=>if q=0 then Q .normal r.2 else Q (.exit q) r.2
  | .ret=>Q .ret r.2):=by
 rintro ⟨z,out⟩ ⟨h0,h1,h2⟩
 apply Tree.holds_strict
 rw [hr]
 refine ⟨fun hz=>?_,fun hz=>?_⟩
 . have hz:0 <= z:=by simpa using hz
   have hw:IntKind.i64.wrap (z - 1)=z - 1:=wrap_id (by omega) (by omega)
   have hk:(z+1).toNat=z.toNat+1:=by omega
   simp only at h2
   rw [hk] at h2
   simp only [timesG] at h2
   rw [show ((z.toNat:Nat):Int)=z by omega] at h2
   have hk':(z - 1+1).toNat=z.toNat:=by omega
   refine ⟨fun hb=>⟨⟨z - 1,t.su f (t.tw f out) p⟩,⟨by simp only;omega,by simp only;omega,?_⟩,?_,?_⟩,fun hb=>⟨⟨z - 1,t.tw f out⟩,⟨by simp only;omega,by simp only;omega,?_⟩,?_,?_⟩⟩
   . rw [hb] at h2
     simp only [hk']
     exact h2
   . show (z - 1+1).toNat < (z+1).toNat
     omega
   . rw [hw]
   . rw [hb] at h2
     simp only [hk']
     exact h2
   . show (z - 1+1).toNat < (z+1).toNat
     omega
   . rw [hw]
 . have hz:z=-1:=by
    have:¬ 0 <= z:=by simpa using hz
    omega
   subst hz
   have h2:out=R:=h2
   show (if (0:Nat)=0 then Q .normal (I (-1,out)) else Q (.exit 0) (I (-1,out)))
   rw [if_pos rfl,h2]
   exact hK
theorem chainV_mem {β:Type} {l:List (Bool × β)} {y:β} {Q:β->Prop} (h:∀ c x,(c,x) ∈ l->Q x) (hy:Q y):Q (chainV l y):=by
 induction l with
 | nil=>exact hy
 | cons p t ih =>
  obtain ⟨c,x⟩:=p
  simp only [chainV]
  cases c with
  | true=>exact h true x (List.mem_cons_self ..)
  | false=>exact ih fun c x hm=>h c x (List.mem_cons_of_mem _ hm)
theorem lenI_le (a:W6):0 <= lenI a /\ lenI a <= 384:=by
 have b:∀ x:BitVec 64,bl x.toNat <= 64:=fun x=>bl_spec.2 x.isLt
 have g:∀ (k:Int) (x:BitVec 64),0 <= k->k <= 320->0 <= IntKind.i64.wrap (k+((bl x.toNat:Nat):Int)) /\ IntKind.i64.wrap (k+((bl x.toNat:Nat):Int)) <= 384:=by
  intro k x h1 h2
  have:=b x
  rw [wrap_id (by omega) (by omega)]
  omega
 unfold lenI lenL
 refine chainV_mem (Q:=fun x=>0 <= x /\ x <= 384) (fun c x h=>?_) (by omega)
 simp only [List.mem_cons,Prod.mk.injEq,List.not_mem_nil,or_false] at h
 rcases h with ⟨-,rfl⟩ | ⟨-,rfl⟩ | ⟨-,rfl⟩ | ⟨-,rfl⟩ | ⟨-,rfl⟩ | ⟨-,rfl⟩ <;> exact g _ _ (by omega) (by omega)
@[irreducible] noncomputable def tmBW (t:TO W6) (f:Fl W6) (p:Jp W6) (n:W6) (r:Jp W6):BEnt:=⟨tmKW.tm,tmKW.ids,tmKW.n,tmXW t f p n,.leaf (.normal,tmIW t f p n (-1,r))⟩
set_option maxRecDepth 100000 in
theorem tm_runW (t:TO W6) (f:Fl W6) (p:Jp W6) (n:W6) (r:Jp W6):(afunR PR (tmEW t) [18,27] (tabOf [(0,tmBW t f p n r)]) 10 206 [flW.agg.enc f,jW.agg.enc p,c6.agg.enc n]).strict =
 .same (tmXW t f p n) (tmXW t f p n) (.leaf (jW.agg.enc r)):=by kernel_rfl
set_option maxRecDepth 100000 in
theorem tm_headW (t:TO W6) (f:Fl W6) (p:Jp W6) (n:W6):tmXW t f p n=tmIW t f p n (IntKind.i64.wrap (t.ln n - 1),⟨f.one,f.one,zeroW⟩):=by kernel_rfl
theorem tm_blkW:blkAll 0 (bodyOf PR 206)=[.loop tmCW]:=by kernel_rfl
def tmOW:TO W6:=⟨fun _ p=>twiceJ fW p,sumE fW eqW,lenI,bitI⟩
theorem tmT_eqW:[(240,fn2 flW.agg jW.agg jW.agg (fun _ p=>twiceJ fW p)),(226,fn3 flW.agg jW.agg jW.agg jW.agg (sumE fW eqW)),
 (103,fn1 c6.agg (kInt .i64) lenI),(105,fn2 c6.agg (kInt .i64) (kInt .i64) bitI)]=tmTW tmOW:=by kernel_rfl
theorem tmT_okW:TabPOk PR (tmTW tmOW):=Eq.subst (motive:=TabPOk PR) tmT_eqW (TabPOk.cons twW_ok (TabPOk.cons suW_ok (TabPOk.cons len_ok (TabPOk.cons bit_ok TabPOk.nil))))
theorem tmE_okW:EnvOk PR (tmEW tmOW):=envOf_ok eqsT_ok tmT_okW
theorem tm_codeOkW:codeOk (tmEW tmOW) tmCW=true:=by kernel_rfl
def timesW (f:Fl W6) (p:Jp W6) (n:W6):Jp W6:=timesG tmOW f p n (lenI n).toNat ⟨f.one,f.one,zeroW⟩
theorem tm_startW (f:Fl W6) (p:Jp W6) (n:W6):∀ d:Int × Jp W6,d=(IntKind.i64.wrap (tmOW.ln n - 1),⟨f.one,f.one,zeroW⟩)->-1 <= d.1 /\ d.1 <= 383 /\ timesG tmOW f p n (d.1+1).toNat d.2=timesW f p n:=by
 rintro d rfl
 have hl:=lenI_le n
 have hw:IntKind.i64.wrap (tmOW.ln n - 1)=lenI n - 1:=wrap_id (n:=lenI n - 1) (by omega) (by omega)
 rw [hw]
 refine ⟨?_,?_,?_⟩
 . show -1 <= lenI n - 1
   omega
 . show lenI n - 1 <= 383
   omega
 . show timesG tmOW f p n (lenI n - 1+1).toNat _=timesG tmOW f p n (lenI n).toNat _
   rw [show lenI n - 1+1=lenI n by omega]
theorem tm_loopW (f:Fl W6) (p:Jp W6) (n:W6) {Fr0:Fr} {ds:List Deferred} {Q:AExit->XS->Prop} (hK:Q .normal (tmIW tmOW f p n (-1,timesW f p n))) :
 Tri PR Fr0 ds 0 (.block 0 (.loop tmCW)) (tmXW tmOW f p n) Q :=
 Eq.subst (motive:=fun y=>Tri PR Fr0 ds 0 (.block 0 (.loop tmCW)) y Q) (tm_headW tmOW f p n).symm <| blockLoop (m:=0) tmE_okW mixed (sym:=[18,27]) (tab:=fun _=>none) (lf:=10) (k:=tmKW) (kx:=tmKW) (kr:=tmKW) (Nat.zero_le _) (Nat.zero_le _) (Nat.zero_le _) tm_codeOkW (tabOk_none _)
  (tmIW tmOW f p n) (fun d=>-1 <= d.1 /\ d.1 <= 383 /\ timesG tmOW f p n (d.1+1).toNat d.2=timesW f p n) (fun d=>(d.1+1).toNat) _ (tm_startW f p n _ rfl)
  (tm_law tmOW f p n _ (tmIW tmOW f p n) (tm_roundW tmOW f p n) hK)
theorem tmB_nW (t:TO W6) (f:Fl W6) (p:Jp W6) (n:W6) (r:Jp W6):(tmBW t f p n r).n=15 /\ (tmBW t f p n r).pre=tmXW t f p n /\ (tmBW t f p n r).post=.leaf (.normal,tmIW t f p n (-1,r)):=by
 unfold tmBW
 exact ⟨rfl,rfl,rfl⟩
theorem tm_ctxW (f:Fl W6) (p:Jp W6) (n:W6):Ctx PR (tmEW tmOW) [18,27] (tabOf [(0,tmBW tmOW f p n (timesW f p n))]) 10 206 :=
 ctx_of tmE_okW mixed (fn:=Tryz.f206) (by kernel_rfl) (by kernel_rfl) (by kernel_rfl)
  (tabOk_one (Nat.zero_le _) tm_blkW fun Fr0 ds Q h=>by
   obtain ⟨-,h2,h3⟩:=tmB_nW tmOW f p n (timesW f p n)
   rw [h3] at h
   rw [h2]
   exact tm_loopW f p n h)
theorem tm_okW:CallOk PR 206 (fn3 flW.agg jW.agg c6.agg jW.agg timesW) :=
 .inl ⟨entersB (by kernel_rfl),
  pure3X fun f p n=>.of (tm_ctxW f p n) (sameVal (tm_runW tmOW f p n (timesW f p n)))⟩
set_option maxRecDepth 100000 in
theorem below_run (C:W6->W6->Int) (b:W6) (a:W6):(afunR PR (envOf eqsT [(86,fn2 c6.agg c6.agg (kInt .i64) C),(117,fn0 c6.agg b)]) [] (fun _=>none) 40 197 [c6.agg.enc a]).strict =
 .leaf (kBool.enc (decide (C a b < 0))):=by kernel_rfl
set_option maxRecDepth 100000 in
theorem first_run (to:W6->W6) (one:W6) (of:BitVec 64->W6):(afunR PR (envOf eqsT [(202,fn0 c6.agg one),(203,fn1 c6.agg c6.agg to),(33,fn1 kU c6.agg of)]) [] (fun _=>none) 40 145 []).strict =
 .leaf (flW.agg.enc ⟨one,to (of 4#64)⟩):=by kernel_rfl
set_option maxRecDepth 100000 in
theorem in1_run (to:W6->W6) (p:Ap W6):(afunR PR (envOf eqsT [(203,fn1 c6.agg c6.agg to)]) [] (fun _=>none) 40 147 [aW.agg.enc p]).strict =
 .leaf (aW.agg.enc ⟨to p.x,to p.y,p.zero⟩):=by kernel_rfl
set_option maxRecDepth 100000 in
theorem out1_run (fr:W6->W6) (p:Ap W6):(afunR PR (envOf eqsT [(227,fn1 c6.agg c6.agg fr)]) [] (fun _=>none) 40 180 [aW.agg.enc p]).strict =
 .leaf (aW.agg.enc ⟨fr p.x,fr p.y,p.zero⟩):=by kernel_rfl
set_option maxRecDepth 100000 in
theorem below1_run (l:W6->Bool) (p:Ap W6):(afunR PR (envOf eqsT [(197,fn1 c6.agg kBool l)]) [6] (fun _=>none) 40 144 [aW.agg.enc p]).strict =
 .br (l p.x) (.leaf (kBool.enc (l p.y))) (.leaf (.lit false)):=by kernel_rfl
set_option maxRecDepth 100000 in
theorem isW_run (on:Fl W6->Ap W6->Bool) (ra:Fl W6->Ap W6->Jp W6) (od:W6) (tm:Fl W6->Jp W6->W6->Jp W6) (lo:Fl W6->Jp W6->Ap W6) (f:Fl W6) (p:Ap W6) :
 (afunR PR (envOf eqsT [(204,fn2 flW.agg aW.agg kBool on),(207,fn2 flW.agg aW.agg jW.agg ra),(136,fn0 c6.agg od),
  (206,fn3 flW.agg jW.agg c6.agg jW.agg tm),(205,fn2 flW.agg jW.agg aW.agg lo)]) [8] (fun _=>none) 40 146 [flW.agg.enc f,aW.agg.enc p]).strict =
 .br (on f p) (.leaf (kBool.enc (lo f (tm f (ra f p) od)).zero)) (.leaf (.lit false)):=by kernel_rfl
set_option maxRecDepth 100000 in
theorem isin1_run (l:Ap W6->Bool) (fi:Fl W6) (inn:Ap W6->Ap W6) (on:Fl W6->Ap W6->Bool) (p:Ap W6) :
 (afunR PR (envOf eqsT [(144,fn1 aW.agg kBool l),(145,fn0 flW.agg fi),(147,fn1 aW.agg aW.agg inn),(146,fn2 flW.agg aW.agg kBool on)]) [5] (fun _=>none) 40 90 [aW.agg.enc p]).strict =
 .br (l p) (.leaf (kBool.enc (on fi (inn p)))) (.leaf (.lit false)):=by kernel_rfl
def belowI (a:W6):Bool:=decide (chainV (cmpL a primeW) 0 < 0)
def fld1:Fl W6:=⟨oneW,toW (ofW 4#64)⟩
def inP1 (p:Ap W6):Ap W6:=⟨toW p.x,toW p.y,p.zero⟩
def outP1 (p:Ap W6):Ap W6:=⟨fromW p.x,fromW p.y,p.zero⟩
def tt_below:PureTab:=[(86,fn2 c6.agg c6.agg (kInt .i64) fun a b=>chainV (cmpL a b) 0),(117,fn0 c6.agg primeW)]
theorem tt_below_ok:TabPOk PR tt_below:=TabPOk.cons cmp_ok (TabPOk.cons base_ok (TabPOk.nil))
theorem below_ctx:Ctx PR (envOf eqsT tt_below) [] (fun _=>none) 40 197 :=
 ctxB (envOf_ok eqsT_ok tt_below_ok) mixed (by kernel_rfl)
theorem below_ok:CallOk PR 197 (fn1 c6.agg kBool belowI) :=
 .inl ⟨entersB (by kernel_rfl),pure1 below_ctx (fun a=>leafVal (B:=kBool) (y:=belowI a) (below_run (fun a b=>chainV (cmpL a b) 0) primeW a))⟩
def tt_first:PureTab:=[(202,fn0 c6.agg oneW),(203,fn1 c6.agg c6.agg toW),(33,fn1 kU c6.agg ofW)]
theorem tt_first_ok:TabPOk PR tt_first:=TabPOk.cons one_ok (TabPOk.cons mto_ok (TabPOk.cons of_ok (TabPOk.nil)))
theorem first_ctx:Ctx PR (envOf eqsT tt_first) [] (fun _=>none) 40 145 :=
 ctxB (envOf_ok eqsT_ok tt_first_ok) mixed (by kernel_rfl)
theorem first_ok:CallOk PR 145 (fn0 flW.agg fld1) :=
 .inl ⟨entersB (by kernel_rfl),pure0 first_ctx (leafVal (B:=flW.agg) (y:=fld1) (first_run toW oneW ofW))⟩
def tt_inp1:PureTab:=[(203,fn1 c6.agg c6.agg toW)]
theorem tt_inp1_ok:TabPOk PR tt_inp1:=TabPOk.cons mto_ok (TabPOk.nil)
theorem inp1_ctx:Ctx PR (envOf eqsT tt_inp1) [] (fun _=>none) 40 147 :=
 ctxB (envOf_ok eqsT_ok tt_inp1_ok) mixed (by kernel_rfl)
theorem inp1_ok:CallOk PR 147 (fn1 aW.agg aW.agg inP1) :=
 .inl ⟨entersB (by kernel_rfl),pure1 inp1_ctx (fun p=>leafVal (B:=aW.agg) (y:=inP1 p) (in1_run toW p))⟩
def tt_outp1:PureTab:=[(227,fn1 c6.agg c6.agg fromW)]
theorem tt_outp1_ok:TabPOk PR tt_outp1:=TabPOk.cons mfrom_ok (TabPOk.nil)
theorem outp1_ctx:Ctx PR (envOf eqsT tt_outp1) [] (fun _=>none) 40 180 :=
 ctxB (envOf_ok eqsT_ok tt_outp1_ok) mixed (by kernel_rfl)
theorem outp1_ok:CallOk PR 180 (fn1 aW.agg aW.agg outP1) :=
 .inl ⟨entersB (by kernel_rfl),pure1 outp1_ctx (fun p=>leafVal (B:=aW.agg) (y:=outP1 p) (out1_run fromW p))⟩
def belowP1 (p:Ap W6):Bool:=bif belowI p.x then belowI p.y else false
def tt_belowp1:PureTab:=[(197,fn1 c6.agg kBool belowI)]
theorem tt_belowp1_ok:TabPOk PR tt_belowp1:=TabPOk.cons below_ok (TabPOk.nil)
theorem belowp1_ctx:Ctx PR (envOf eqsT tt_belowp1) [6] (fun _=>none) 40 144 :=
 ctxB (envOf_ok eqsT_ok tt_belowp1_ok) mixed (by kernel_rfl)
theorem belowp1_ok:CallOk PR 144 (fn1 aW.agg kBool belowP1) :=
 .inl ⟨entersB (by kernel_rfl),pure1 belowp1_ctx (fun p=>givesOf (below1_run belowI p) (holds_br (B:=kBool) (holds_leaf (kBool.h1 _)) (holds_leaf (a:=.lit false) (v:=kBool.val false) rfl)))⟩
def lowFW:Fl W6->Jp W6->Ap W6:=fun _ p=>lowerE fW eqW p
theorem lowFW_ok:CallOk PR 205 (fn2 flW.agg jW.agg aW.agg lowFW):=loW_ok
def inGW (on:Fl W6->Ap W6->Bool) (ra:Fl W6->Ap W6->Jp W6) (od:W6) (tm:Fl W6->Jp W6->W6->Jp W6) (lo:Fl W6->Jp W6->Ap W6) (f:Fl W6) (p:Ap W6):Bool:=bif on f p then (lo f (tm f (ra f p) od)).zero else false
theorem inGW_gives (on:Fl W6->Ap W6->Bool) (ra:Fl W6->Ap W6->Jp W6) (od:W6) (tm:Fl W6->Jp W6->W6->Jp W6) (lo:Fl W6->Jp W6->Ap W6) (f:Fl W6) (p:Ap W6) {t:Tree AV}
 (h:t.strict=.br (on f p) (.leaf (kBool.enc (lo f (tm f (ra f p) od)).zero)) (.leaf (.lit false))):Gives t (kBool.val (inGW on ra od tm lo f p)) :=
 givesOf h (holds_br (B:=kBool) (holds_leaf (kBool.h1 _)) (holds_leaf (a:=.lit false) (v:=kBool.val false) rfl))
def inEW:Fl W6->Ap W6->Bool:=inGW (onE fW eqW) (raiseJ fW) orderW timesW lowFW
def tt_isW:PureTab:=[(204,fn2 flW.agg aW.agg kBool (onE fW eqW)),(207,fn2 flW.agg aW.agg jW.agg (raiseJ fW)),(136,fn0 c6.agg orderW),(206,fn3 flW.agg jW.agg c6.agg jW.agg timesW),(205,fn2 flW.agg jW.agg aW.agg lowFW)]
theorem tt_isW_ok:TabPOk PR tt_isW:=TabPOk.cons onW_ok (TabPOk.cons raW_ok (TabPOk.cons order_ok (TabPOk.cons tm_okW (TabPOk.cons lowFW_ok (TabPOk.nil)))))
theorem isW_ctx:Ctx PR (envOf eqsT tt_isW) [8] (fun _=>none) 40 146 :=
 ctxB (envOf_ok eqsT_ok tt_isW_ok) mixed (by kernel_rfl)
theorem isW_ok:CallOk PR 146 (fn2 flW.agg aW.agg kBool inEW) :=
 .inl ⟨entersB (by kernel_rfl),pure2 isW_ctx (fun f p=>inGW_gives (onE fW eqW) (raiseJ fW) orderW timesW lowFW f p (isW_run (onE fW eqW) (raiseJ fW) orderW timesW lowFW f p))⟩
def checkP1 (p:Ap W6):Bool:=bif belowP1 p then onE fW eqW fld1 (inP1 p) else false
def inGroup1 (p:Ap W6):Bool:=bif belowP1 p then inEW fld1 (inP1 p) else false
def tt_isinp1:PureTab:=[(144,fn1 aW.agg kBool belowP1),(145,fn0 flW.agg fld1),(147,fn1 aW.agg aW.agg inP1),(146,fn2 flW.agg aW.agg kBool inEW)]
theorem tt_isinp1_ok:TabPOk PR tt_isinp1:=TabPOk.cons belowp1_ok (TabPOk.cons first_ok (TabPOk.cons inp1_ok (TabPOk.cons isW_ok (TabPOk.nil))))
theorem isinp1_ctx:Ctx PR (envOf eqsT tt_isinp1) [5] (fun _=>none) 40 90 :=
 ctxB (envOf_ok eqsT_ok tt_isinp1_ok) mixed (by kernel_rfl)
theorem isinp1_ok:CallOk PR 90 (fn1 aW.agg kBool inGroup1) :=
 .inl ⟨entersB (by kernel_rfl),pure1 isinp1_ctx (fun p=>givesOf (isin1_run belowP1 fld1 inP1 inEW p) (holds_br (B:=kBool) (holds_leaf (kBool.h1 _)) (holds_leaf (a:=.lit false) (v:=kBool.val false) rfl)))⟩
def kPW:Cod (Ap W6 × Int):=kTup aW.agg (kInt .i64) (fun _=>by kernel_rfl) (fun _=>rfl)
theorem noneFlatW:flat (.tup [.agg (c6.enc zeroW ++ (c6.enc zeroW ++ [.lit false])),.v (.int .i64 5)])=some (kPW.val (⟨zeroW,zeroW,false⟩,5)):=by kernel_rfl
def negP1 (p:Ap W6):Ap W6 × Int:=bif !(checkP1 p) then (⟨zeroW,zeroW,false⟩,5) else (outP1 (negE fW (inP1 p)),0)
structure GO (K:Type) where
 on:Fl K->Ap K->Bool
 ra:Fl K->Ap K->Jp K
 ti:Fl K->Jp K->W6->Jp K
 su:Fl K->Jp K->Jp K->Jp K
 lo:Fl K->Jp K->Ap K
section
variable {K:Type} (t:GO K) (z:K)
def ga1 (f:Fl K) (p:Ap K) (n:W6):Ap K × Int:=bif t.on f p then (t.lo f (t.su f ⟨f.one,f.one,z⟩ (t.ti f (t.ra f p) n)),0) else (⟨z,z,false⟩,5)
def ga2 (f:Fl K) (x:Ap K × Ap K) (y:W6 × W6):Ap K × Int:=bif t.on f x.1 then (bif t.on f x.2 then
 (t.lo f (t.su f (t.su f ⟨f.one,f.one,z⟩ (t.ti f (t.ra f x.1) y.1)) (t.ti f (t.ra f x.2) y.2)),0) else (⟨z,z,false⟩,5)) else (⟨z,z,false⟩,5)
structure SO (K:Type) where
 be:Ap K->Bool
 fi:Fl K
 inn:Ap K->Ap K
 ou:Ap K->Ap K
variable (s:SO K)
def sm1 (G:Fl K->Ap K->W6->Ap K × Int) (p:Ap K) (n:W6):Ap K × Int:=bif s.be p then (s.ou (G s.fi (s.inn p) n).1,(G s.fi (s.inn p) n).2) else (⟨z,z,false⟩,5)
def sm2 (G:Fl K->Ap K × Ap K->W6 × W6->Ap K × Int) (x:Ap K × Ap K) (y:W6 × W6):Ap K × Int:=bif s.be x.1 then (bif s.be x.2 then
 (s.ou (G s.fi (s.inn x.1,s.inn x.2) y).1,(G s.fi (s.inn x.1,s.inn x.2) y).2) else (⟨z,z,false⟩,5)) else (⟨z,z,false⟩,5)
end
def gaTW (t:GO W6):PureTab:=[(204,fn2 flW.agg aW.agg kBool t.on),(207,fn2 flW.agg aW.agg jW.agg t.ra),(206,fn3 flW.agg jW.agg c6.agg jW.agg t.ti),
 (226,fn3 flW.agg jW.agg jW.agg jW.agg t.su),(205,fn2 flW.agg jW.agg aW.agg t.lo)]
noncomputable def gaEW (t:GO W6):Env:=envH eqsT (gaTW t) []
def noneWA:Tree AV:=.leaf (.tup [.agg (c6.enc zeroW ++ (c6.enc zeroW ++ [.lit false])),.v (.int .i64 5)])
set_option maxRecDepth 100000 in
theorem ga1_runW (t:GO W6) (f:Fl W6) (p:Ap W6) (n:W6):(afunH PR (gaEW t) [27] 10 179 [flW.agg.enc f,(SlA.own 13 1).at 0,(SlA.slc 1).at 1] (twoAH aW c6 180 38 p n) 2).strict =
 .br (t.on f p) (.leaf (kPW.enc (t.lo f (t.su f ⟨f.one,f.one,zeroW⟩ (t.ti f (t.ra f p) n)),0))) noneWA:=by kernel_rfl
set_option maxRecDepth 100000 in
theorem ga2_runW (t:GO W6) (f:Fl W6) (p q:Ap W6) (n m:W6):(afunH PR (gaEW t) [27] 10 179 [flW.agg.enc f,(SlA.own 13 2).at 0,(SlA.slc 2).at 1] (twoAH (CC.prod aW aW) (CC.prod c6 c6) 180 38 (p,q) (n,m)) 2).strict =
 .br (t.on f p) (.br (t.on f q) (.leaf (kPW.enc (t.lo f (t.su f (t.su f ⟨f.one,f.one,zeroW⟩ (t.ti f (t.ra f p) n)) (t.ti f (t.ra f q) m)),0))) noneWA) noneWA:=by kernel_rfl
def suTW (s:SO W6):PureTab:=[(144,fn1 aW.agg kBool s.be),(147,fn1 aW.agg aW.agg s.inn),(145,fn0 flW.agg s.fi),(180,fn1 aW.agg aW.agg s.ou)]
noncomputable def suE1W (s:SO W6) (G:Fl W6->Ap W6->W6->Ap W6 × Int):Env:=envH eqsT (suTW s) [(179,sl3 (.own 13 1) (.slc 1) 180 38 flW.agg aW c6 kPW G)]
noncomputable def suE2W (s:SO W6) (G:Fl W6->Ap W6 × Ap W6->W6 × W6->Ap W6 × Int):Env:=envH eqsT (suTW s) [(179,sl3 (.own 13 2) (.slc 2) 180 38 flW.agg (CC.prod aW aW) (CC.prod c6 c6) kPW G)]
set_option maxRecDepth 100000 in
theorem su1_runW (s:SO W6) (G:Fl W6->Ap W6->W6->Ap W6 × Int) (p:Ap W6) (n:W6):(afunH PR (suE1W s G) [24] 10 125 [(SlA.slc 1).at 0,(SlA.slc 1).at 1] (twoAH aW c6 41 38 p n) 2).strict =
 .br (s.be p) (.leaf (kPW.enc (s.ou (G s.fi (s.inn p) n).1,(G s.fi (s.inn p) n).2))) noneWA:=by kernel_rfl
set_option maxRecDepth 100000 in
theorem su2_runW (s:SO W6) (G:Fl W6->Ap W6 × Ap W6->W6 × W6->Ap W6 × Int) (p q:Ap W6) (n m:W6):(afunH PR (suE2W s G) [24] 10 125 [(SlA.slc 2).at 0,(SlA.slc 2).at 1] (twoAH (CC.prod aW aW) (CC.prod c6 c6) 41 38 (p,q) (n,m)) 2).strict =
 .br (s.be p) (.br (s.be q) (.leaf (kPW.enc (s.ou (G s.fi (s.inn p,s.inn q) (n,m)).1,(G s.fi (s.inn p,s.inn q) (n,m)).2))) noneWA) noneWA:=by kernel_rfl
noncomputable def adEW (G:Ap W6 × Ap W6->W6 × W6->Ap W6 × Int) (ofw:BitVec 64->W6):Env:=envH eqsT [(33,fn1 kU c6.agg ofw)] [(125,sl2 (.slc 2) (.slc 2) 41 38 (CC.prod aW aW) (CC.prod c6 c6) kPW G)]
set_option maxRecDepth 100000 in
theorem ad_runW (G:Ap W6 × Ap W6->W6 × W6->Ap W6 × Int) (ofw:BitVec 64->W6) (p q:Ap W6):(afunR PR (adEW G ofw) [] (fun _=>none) 10 75 [aW.agg.enc p,aW.agg.enc q]).strict =
 .leaf (kPW.enc (G (p,q) (ofw (bitW true),ofw (bitW true)))):=by kernel_rfl
noncomputable def muEW (G:Ap W6->W6->Ap W6 × Int):Env:=envH eqsT [] [(125,sl2 (.slc 1) (.slc 1) 41 38 aW c6 kPW G)]
set_option maxRecDepth 100000 in
theorem mu_runW (G:Ap W6->W6->Ap W6 × Int) (p:Ap W6) (n:W6):(afunR PR (muEW G) [] (fun _=>none) 10 73 [aW.agg.enc p,c6.agg.enc n]).strict =
 .leaf (kPW.enc (G p n)):=by kernel_rfl
def gaOW:GO W6:=⟨onE fW eqW,raiseJ fW,timesW,sumE fW eqW,lowFW⟩
theorem gaT_okW:TabPOk PR (gaTW gaOW):=TabPOk.cons onW_ok (TabPOk.cons raW_ok (TabPOk.cons tm_okW (TabPOk.cons suW_ok (TabPOk.cons lowFW_ok TabPOk.nil))))
theorem gaE_okW:EnvOk PR (gaEW gaOW):=envH_ok eqsT_ok gaT_okW TabHOk.nil
def gath1W:Fl W6->Ap W6->W6->Ap W6 × Int:=ga1 gaOW zeroW
def gath2W:Fl W6->Ap W6 × Ap W6->W6 × W6->Ap W6 × Int:=ga2 gaOW zeroW
theorem ga_entW:Enters PR 179:=entersB (by kernel_rfl)
theorem ga1_okW:HeapOk PR 179 (sl3 (.own 13 1) (.slc 1) 180 38 flW.agg aW c6 kPW gath1W) :=
 sl3_ok gaE_okW mixed (sym:=[27]) (lf:=10) (fn:=Tryz.f179) (c:=bodyOf PR 179) (by kernel_rfl) (by kernel_rfl) (by kernel_rfl) (tabOk_none _)
  (fun f p n=>givesH (ga1_runW gaOW f p n) (holds_br (B:=kPW) (holds_leaf (kPW.h1 _)) (holds_leaf noneFlatW)))
theorem ga2_okW:HeapOk PR 179 (sl3 (.own 13 2) (.slc 2) 180 38 flW.agg (CC.prod aW aW) (CC.prod c6 c6) kPW gath2W) :=
 sl3_ok gaE_okW mixed (sym:=[27]) (lf:=10) (fn:=Tryz.f179) (c:=bodyOf PR 179) (by kernel_rfl) (by kernel_rfl) (by kernel_rfl) (tabOk_none _)
  (fun f p n=>givesH (ga2_runW gaOW f p.1 p.2 n.1 n.2) (holds_br (B:=kPW) (holds_br (B:=kPW) (holds_leaf (kPW.h1 _)) (holds_leaf noneFlatW)) (holds_leaf noneFlatW)))
def suOW:SO W6:=⟨belowP1,fld1,inP1,outP1⟩
theorem suT_okW:TabPOk PR (suTW suOW):=TabPOk.cons belowp1_ok (TabPOk.cons inp1_ok (TabPOk.cons first_ok (TabPOk.cons outp1_ok TabPOk.nil)))
def sumP1W:Ap W6->W6->Ap W6 × Int:=sm1 zeroW suOW gath1W
def sumP2W:Ap W6 × Ap W6->W6 × W6->Ap W6 × Int:=sm2 zeroW suOW gath2W
theorem su_entW:Enters PR 125:=entersB (by kernel_rfl)
theorem su1_okW:HeapOk PR 125 (sl2 (.slc 1) (.slc 1) 41 38 aW c6 kPW sumP1W) :=
 sl2_ok (E:=suE1W suOW gath1W) (envH_ok eqsT_ok suT_okW (TabHOk.cons ga_entW ga1_okW TabHOk.nil)) mixed (sym:=[24]) (lf:=10) (fn:=Tryz.f125) (c:=bodyOf PR 125) (by kernel_rfl) (by kernel_rfl) (by kernel_rfl) (tabOk_none _)
  (fun p n=>givesH (su1_runW suOW gath1W p n) (holds_br (B:=kPW) (holds_leaf (kPW.h1 _)) (holds_leaf noneFlatW)))
theorem su2_okW:HeapOk PR 125 (sl2 (.slc 2) (.slc 2) 41 38 (CC.prod aW aW) (CC.prod c6 c6) kPW sumP2W) :=
 sl2_ok (E:=suE2W suOW gath2W) (envH_ok eqsT_ok suT_okW (TabHOk.cons ga_entW ga2_okW TabHOk.nil)) mixed (sym:=[24]) (lf:=10) (fn:=Tryz.f125) (c:=bodyOf PR 125) (by kernel_rfl) (by kernel_rfl) (by kernel_rfl) (tabOk_none _)
  (fun p n=>givesH (su2_runW suOW gath2W p.1 p.2 n.1 n.2) (holds_br (B:=kPW) (holds_br (B:=kPW) (holds_leaf (kPW.h1 _)) (holds_leaf noneFlatW)) (holds_leaf noneFlatW)))
def addP1 (p q:Ap W6):Ap W6 × Int:=sumP2W (p,q) (ofW (bitW true),ofW (bitW true))
theorem adE_okW:EnvOk PR (adEW sumP2W ofW):=envH_ok eqsT_ok (TabPOk.cons of_ok TabPOk.nil) (TabHOk.cons su_entW su2_okW TabHOk.nil)
theorem ad_ctxW:Ctx PR (adEW sumP2W ofW) [] (fun _=>none) 10 75 :=
 ctxB adE_okW mixed (by kernel_rfl)
theorem addp1_ok:CallOk PR 75 (fn2 aW.agg aW.agg kPW addP1) :=
 .inl ⟨entersB (by kernel_rfl),pure2 ad_ctxW (fun p q=>leafVal (B:=kPW) (y:=addP1 p q) (ad_runW sumP2W ofW p q))⟩
theorem muE_okW:EnvOk PR (muEW sumP1W):=envH_ok eqsT_ok TabPOk.nil (TabHOk.cons su_entW su1_okW TabHOk.nil)
theorem mu_ctxW:Ctx PR (muEW sumP1W) [] (fun _=>none) 10 73 :=
 ctxB muE_okW mixed (by kernel_rfl)
theorem mulp1_ok:CallOk PR 73 (fn2 aW.agg c6.agg kPW sumP1W) :=
 .inl ⟨entersB (by kernel_rfl),pure2 mu_ctxW (fun p n=>leafVal (B:=kPW) (y:=sumP1W p n) (mu_runW sumP1W p n))⟩
section
variable {A B:Type} {R:A->B->Prop} {o:FO A} {o':FO B} {e:A->A->Bool} {e':B->B->Bool}
def tOf {K:Type} (o:FO K) (e:K->K->Bool):TO K:=⟨fun _ p=>twiceJ o p,sumE o e,lenI,bitI⟩
def gOf {K:Type} (o:FO K) (e:K->K->Bool) (ti:Fl K->Jp K->W6->Jp K):GO K:=⟨onE o e,raiseJ o,ti,sumE o e,fun _ p=>lowerE o e p⟩
theorem times_rel (h:FRel R o o' e e') {f:Fl A} {g:Fl B} (hf:RFl R f g) {p:Jp A} {q:Jp B} (hp:RJ R p q) (n:W6):∀ (k:Nat) {u:Jp A} {v:Jp B},RJ R u v ->
 RJ R (timesG (tOf o e) f p n k u) (timesG (tOf o' e') g q n k v)
 | 0,u,v,hu=>hu
 | k+1,u,v,hu=>by
  show RJ R (timesG (tOf o e) f p n k (bif bitI n (k:Int) == 1 then sumE o e f (twiceJ o u) p else twiceJ o u)) (timesG (tOf o' e') g q n k (bif bitI n (k:Int) == 1 then sumE o' e' g (twiceJ o' v) q else twiceJ o' v))
  apply times_rel h hf hp n k
  cases bitI n (k:Int) == 1
  . exact twice_rel h hu
  . exact sum_rel h hf (twice_rel h hu) hp
structure GRel (R:A->B->Prop) (t:GO A) (s:GO B):Prop where
 on:∀ {f g p q},RFl R f g->RA R p q->t.on f p=s.on g q
 ra:∀ {f g p q},RFl R f g->RA R p q->RJ R (t.ra f p) (s.ra g q)
 ti:∀ {f g p q},RFl R f g->RJ R p q->∀ n,RJ R (t.ti f p n) (s.ti g q n)
 su:∀ {f g p q u v},RFl R f g->RJ R p q->RJ R u v->RJ R (t.su f p u) (s.su g q v)
 lo:∀ {f g p q},RFl R f g->RJ R p q->RA R (t.lo f p) (s.lo g q)
theorem g_rel (h:FRel R o o' e e') {ti:Fl A->Jp A->W6->Jp A} {ti':Fl B->Jp B->W6->Jp B} (ht:∀ {f g p q},RFl R f g->RJ R p q->∀ n,RJ R (ti f p n) (ti' g q n)):GRel R (gOf o e ti) (gOf o' e' ti') :=
 ⟨fun hf hp=>on_rel h hf hp,fun hf hp=>raise_rel h hf hp,ht,fun hf hp hu=>sum_rel h hf hp hu,fun _ hp=>lower_rel h hp⟩
theorem ga1_rel {t:GO A} {s:GO B} (h:GRel R t s) {z:A} {z':B} (hz:R z z') {f:Fl A} {g:Fl B} (hf:RFl R f g) {p:Ap A} {q:Ap B} (hp:RA R p q) (n:W6) :
 RA R (ga1 t z f p n).1 (ga1 s z' g q n).1 /\ (ga1 t z f p n).2=(ga1 s z' g q n).2:=by
 unfold ga1
 rw [h.on hf hp]
 cases s.on g q
 . exact ⟨⟨hz,hz,rfl⟩,rfl⟩
 . exact ⟨h.lo hf (h.su hf ⟨hf.one,hf.one,hz⟩ (h.ti hf (h.ra hf hp) n)),rfl⟩
theorem ga2_rel {t:GO A} {s:GO B} (h:GRel R t s) {z:A} {z':B} (hz:R z z') {f:Fl A} {g:Fl B} (hf:RFl R f g) {x:Ap A × Ap A} {y:Ap B × Ap B} (h1:RA R x.1 y.1) (h2:RA R x.2 y.2) (n:W6 × W6) :
 RA R (ga2 t z f x n).1 (ga2 s z' g y n).1 /\ (ga2 t z f x n).2=(ga2 s z' g y n).2:=by
 unfold ga2
 rw [h.on hf h1,h.on hf h2]
 cases s.on g y.1
 . exact ⟨⟨hz,hz,rfl⟩,rfl⟩
 . cases s.on g y.2
   . exact ⟨⟨hz,hz,rfl⟩,rfl⟩
   . exact ⟨h.lo hf (h.su hf (h.su hf ⟨hf.one,hf.one,hz⟩ (h.ti hf (h.ra hf h1) n.1)) (h.ti hf (h.ra hf h2) n.2)),rfl⟩
end
def forceJ {α:Type} (r:Jp Nat) (f:Jp Nat->α):α:=forceN r.x fun x=>forceN r.y fun y=>forceN r.z fun z=>f ⟨x,y,z⟩
theorem forceJ_eq {α:Type} (r:Jp Nat) (f:Jp Nat->α):forceJ r f=f r:=by simp only [forceJ,forceN_eq]
def stepG {K:Type} (o:FO K) (e:K->K->Bool) (f:Fl K) (p:Jp K) (b:Bool) (u:Jp K):Jp K:=bif b then sumE o e f (twiceJ o u) p else twiceJ o u
def runN {K:Type} (fo:Jp K->(Jp K->Jp K)->Jp K) (st:Bool->Jp K->Jp K):List Bool->Jp K->Jp K
 | [],u=>u
 | b :: t,u=>fo (st b u) fun v=>runN fo st t v
def bitsL (n:W6):Nat->List Bool
 | 0=>[]
 | k+1=>(bitI n (k:Int) == 1) :: bitsL n k
theorem runN_eq {K:Type} {o:FO K} {e:K->K->Bool} {fo:Jp K->(Jp K->Jp K)->Jp K} (hfo:∀ r f,fo r f=f r) (f:Fl K) (p:Jp K) (n:W6):∀ (k:Nat) (u:Jp K),
 runN fo (stepG o e f p) (bitsL n k) u=timesG (tOf o e) f p n k u
 | 0,u=>rfl
 | k+1,u=>by
  simp only [bitsL,runN,hfo]
  exact runN_eq hfo f p n k _
def timesN (f:Fl Nat) (p:Jp Nat) (n:W6):Jp Nat:=runN forceJ (stepG fN Nat.beq f p) (bitsL n (lenI n).toNat) ⟨f.one,f.one,0⟩
theorem timesN_rel {f:Fl Nat} {g:Fl W6} {p:Jp Nat} {q:Jp W6} (hf:RFl Rep f g) (hp:RJ Rep p q) (n:W6):RJ Rep (timesN f p n) (timesW g q n):=by
 unfold timesN timesW
 rw [runN_eq (o:=fN) (e:=Nat.beq) forceJ_eq]
 exact times_rel relW hf hp n _ ⟨hf.one,hf.one,rep_zero⟩
def gN:GO Nat:=gOf fN Nat.beq timesN
theorem gN_rel:GRel Rep gN gaOW:=g_rel relW timesN_rel
def flN:Fl Nat:=⟨oneN,toN 4⟩
theorem four_val:(ofW 4#64).val=4:=by decide +kernel
theorem four_rep:Rep (toN 4) (toW (ofW 4#64)):=by
 have:=rep_to (ofW 4#64)
 rw [four_val] at this
 exact this
theorem flN_rel:RFl Rep flN fld1:=⟨rep_one,four_rep⟩
def inN (p:Ap W6):Ap Nat:=⟨toN p.x.val,toN p.y.val,p.zero⟩
theorem inP_rel (t:Nat->Nat) (t':W6->W6) (h:∀ a:W6,Rep (t a.val) (t' a)) (p:Ap W6):RA Rep ⟨t p.x.val,t p.y.val,p.zero⟩ ⟨t' p.x,t' p.y,p.zero⟩:=⟨h _,h _,rfl⟩
theorem inN_rel (p:Ap W6):RA Rep (inN p) (inP1 p):=by
 unfold inN inP1
 exact inP_rel toN toW rep_to p
theorem outN_eq {p:Ap Nat} {q r:Ap W6} (h:RA Rep p q) (hx:backN p.x=r.x.val) (hy:backN p.y=r.y.val) (hz:p.zero=r.zero):outP1 q=r:=by
 obtain ⟨rx,ry,rz⟩:=r
 have e1:fromW q.x=rx:=W6.val_inj (by rw [rep_back h.x];exact hx)
 have e2:fromW q.y=ry:=W6.val_inj (by rw [rep_back h.y];exact hy)
 unfold outP1
 rw [e1,e2,<- h.z,hz]
def tellN (x:Ap Nat × Int):Ap Nat × Int:=(⟨backN x.1.x,backN x.1.y,x.1.zero⟩,x.2)
def litN (r:Ap W6):Ap Nat:=⟨r.x.val,r.y.val,r.zero⟩
theorem mul1_of {p r:Ap W6} {n:W6} {err:Int} (hb:belowP1 p=true) (h:tellN (ga1 gN 0 flN (inN p) n)=(litN r,err)):sumP1W p n=(r,err):=by
 obtain ⟨h1,h2⟩:=ga1_rel gN_rel rep_zero flN_rel (inN_rel p) n
 have e:=Prod.mk.inj h
 obtain ⟨e1,e2⟩:=e
 have e3:=Ap.mk.inj e1
 have ho:=outN_eq (r:=r) h1 e3.1 e3.2.1 e3.2.2
 have hs:sumP1W p n=bif belowP1 p then (outP1 (gath1W fld1 (inP1 p) n).1,(gath1W fld1 (inP1 p) n).2) else (⟨zeroW,zeroW,false⟩,5):=by unfold sumP1W sm1 suOW;rfl
 rw [hs,hb,cond_true]
 have hg:gath1W fld1 (inP1 p) n=ga1 gaOW zeroW fld1 (inP1 p) n:=by unfold gath1W;rfl
 rw [hg,ho,<- h2]
 exact congrArg (Prod.mk r) e2
theorem check1_of (p:Ap W6):checkP1 p=bif belowP1 p then onE fN Nat.beq flN (inN p) else false:=by
 unfold checkP1
 rw [on_rel relW flN_rel (inN_rel p)]
theorem in1_of (p:Ap W6):inGroup1 p=bif belowP1 p then (bif onE fN Nat.beq flN (inN p) then (lowerE fN Nat.beq (timesN flN (raiseJ fN flN (inN p)) orderW)).zero else false) else false:=by
 unfold inGroup1 inEW inGW lowFW
 rw [on_rel relW flN_rel (inN_rel p),(lower_rel relW (timesN_rel flN_rel (raise_rel relW flN_rel (inN_rel p)) orderW)).z]
theorem ibs_ok:CallOk PR 257 (fn2 kStr (kInt .u8) (kInt .i64) idxByte) :=
 .inr (ext2 (fn:=Tryz.f257) (by kernel_rfl) (by kernel_rfl) (by kernel_rfl) (by kernel_rfl) (r:=Extern.BytealgIndexByte.indexByte) (by kernel_rfl) idxByte_run)
theorem ib1_run (X:ByteArray->Int->Int) (s:ByteArray) (b:Int):(afunR PR (envOf eqsT [(257,fn2 kStr (kInt .u8) (kInt .i64) X)]) [] (fun _=>none) 40 247 [kStr.enc s,(kInt .u8).enc b]).strict=.leaf ((kInt .i64).enc (X s b)):=by kernel_rfl
theorem ib2_run (X:ByteArray->Int->Int) (s:ByteArray) (b:Int):(afunR PR (envOf eqsT [(247,fn2 kStr (kInt .u8) (kInt .i64) X)]) [] (fun _=>none) 40 221 [kStr.enc s,(kInt .u8).enc b]).strict=.leaf ((kInt .i64).enc (X s b)):=by kernel_rfl
def ib1T:PureTab:=[(257,fn2 kStr (kInt .u8) (kInt .i64) idxByte)]
theorem ib1T_ok:TabPOk PR ib1T:=TabPOk.cons ibs_ok TabPOk.nil
theorem ib1_ctx:Ctx PR (envOf eqsT ib1T) [] (fun _=>none) 40 247 :=
 ctxB (envOf_ok eqsT_ok ib1T_ok) mixed (by kernel_rfl)
theorem ib1_ok:CallOk PR 247 (fn2 kStr (kInt .u8) (kInt .i64) idxByte) :=
 .inl ⟨entersB (by kernel_rfl),pure2 ib1_ctx (fun s b=>leafVal (B:=kInt .i64) (y:=idxByte s b) (ib1_run idxByte s b))⟩
def ib2T:PureTab:=[(247,fn2 kStr (kInt .u8) (kInt .i64) idxByte)]
theorem ib2T_ok:TabPOk PR ib2T:=TabPOk.cons ib1_ok TabPOk.nil
theorem ib2_ctx:Ctx PR (envOf eqsT ib2T) [] (fun _=>none) 40 221 :=
 ctxB (envOf_ok eqsT_ok ib2T_ok) mixed (by kernel_rfl)
theorem ib2_ok:CallOk PR 221 (fn2 kStr (kInt .u8) (kInt .i64) idxByte) :=
 .inl ⟨entersB (by kernel_rfl),pure2 ib2_ctx (fun s b=>leafVal (B:=kInt .i64) (y:=idxByte s b) (ib2_run idxByte s b))⟩
def shift4 (a:W6):W6:=⟨a.w0 <<< 4,a.w1 <<< 4 ||| a.w0 >>> 60,a.w2 <<< 4 ||| a.w1 >>> 60,a.w3 <<< 4 ||| a.w2 >>> 60,a.w4 <<< 4 ||| a.w3 >>> 60,a.w5 <<< 4 ||| a.w4 >>> 60⟩
set_option maxRecDepth 100000 in
theorem shift4_run (a:W6):(afunR PR (envOf eqsT []) [] (fun _=>none) 40 104 [c6.agg.enc a,(kInt .i64).enc 4]).strict=.leaf (c6.agg.enc (shift4 a)):=by kernel_rfl
def kAt (k:IntKind) (n:Int):Cod Unit where
 enc _:=.v (.int k n)
 dec a:=match a with
  | .v (.int k' m)=>match decide (k'=k /\ m=n) with
   | true=>some ()
   | false=>none
  | _=>none
 val _:=.int k n
 h1 _:=rfl
 h2 ρ a v x h r:=by
  split at h
  . rename_i k' m
    split at h
    . rename_i e
      obtain ⟨rfl,rfl⟩:=of_decide_eq_true e
      cases r
      rfl
    . cases h
  . cases h
theorem shift_ctx:Ctx PR (envOf eqsT []) [] (fun _=>none) 40 104 :=
 ctxB (envOf_ok eqsT_ok TabPOk.nil) mixed (by kernel_rfl)
theorem shift_ok:CallOk PR 104 (fn2 c6.agg (kAt .i64 4) c6.agg (fun a _=>shift4 a)) :=
 .inl ⟨entersB (by kernel_rfl),pure2 (C:=kAt .i64 4) shift_ctx (fun a _=>leafVal (B:=c6.agg) (y:=shift4 a) (shift4_run a))⟩
def parseT:PureTab:=[(104,fn2 c6.agg (kAt .i64 4) c6.agg (fun a _=>shift4 a)),(221,fn2 kStr (kInt .u8) (kInt .i64) idxByte)]
theorem parseT_ok:TabPOk PR parseT:=TabPOk.cons shift_ok (TabPOk.cons ib2_ok TabPOk.nil)
theorem parse_ctx:Ctx PR (envOf eqsT parseT) [] (fun _=>none) 110 168 :=
 ctxB (envOf_ok eqsT_ok parseT_ok) mixed (by kernel_rfl)
end Go.Rq
