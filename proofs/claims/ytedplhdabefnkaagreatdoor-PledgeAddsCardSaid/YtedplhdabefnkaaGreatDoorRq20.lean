import Derived.Test.YtedplhdabefnkaaGreatDoorRq04
import Derived.Test.YtedplhdabefnkaaGreatDoorRq15
import Derived.Test.YtedplhdabefnkaaGreatDoorRq06
import Derived.Test.YtedplhdabefnkaaGreatDoorRq08
import Derived.Test.YtedplhdabefnkaaGreatDoorRq05
import Derived.Test.YtedplhdabefnkaaGreatDoorRq19
import Derived.Test.YtedplhdabefnkaaGreatDoorRq09
import Derived.Test.YtedplhdabefnkaaGreatDoorRq17
namespace Go.Rq.Sm
open Go Go.Proofs Go.Rq
def lpwT (M:Op2) (L:BitVec 64->Int):PureTab:=[(175,fn3 kCv kU kU kU M),(162,fn1 kU (kInt .i64) L)]
def blI (x:BitVec 64):Int:=((bl x.toNat:Nat):Int)
theorem lpwT_ok:TabPOk PR (lpwT lMul blI):=TabPOk.cons lm_ok (TabPOk.cons len64_ok TabPOk.nil)
def pwK:Keep:=⟨[1,2,3,7,8],[0],6⟩
@[irreducible] noncomputable def pwX (M:Op2) (L:BitVec 64->Int) (s:Su) (a n:BitVec 64):XS:=entryOf PR (envOf eqsT (lpwT M L)) [13,24] (fun _=>none) 10 173 [kCv.enc s,kU.enc a,kU.enc n] [] 0 0 pwK
@[irreducible] noncomputable def pwI (M:Op2) (L:BitVec 64->Int) (s:Su) (a n:BitVec 64) (d:Int × BitVec 64):XS:=((pwX M L s a n).setT 8 (.v (.int .i64 d.1))).setT 7 (.u d.2)
@[irreducible] noncomputable def pwC:Code:=roundOf PR 173 0
set_option maxRecDepth 1000000 in
theorem pw_round (M:Op2) (L:BitVec 64->Int) (s:Su) (a n:BitVec 64) (z:Int) (out:BitVec 64):Tree.but [2] 0 (roundT PR (envOf eqsT (lpwT M L)) [13,24] (fun _=>none) 10 pwK pwK pwK pwC (pwI M L s a n (z,out))) =
 .br (decide (z >= 0))
  (.br (bitU n z)
   (.need (notNeg z) (.leaf (.normal,pwI M L s a n (IntKind.i64.wrap (z - 1),M s (M s out out) a))))
   (.need (notNeg z) (.leaf (.normal,pwI M L s a n (IntKind.i64.wrap (z - 1),M s out out)))))
  (.leaf (.exit 0,pwI M L s a n (z,out))):=by cases s <;> kernel_rfl
set_option maxRecDepth 1000000 in
theorem pw_head (M:Op2) (L:BitVec 64->Int) (s:Su) (a n:BitVec 64):(pwX M L s a n).setT 7 (.u (bitW true))=pwI M L s a n (IntKind.i64.wrap (L n - 1),bitW true):=by cases s <;> kernel_rfl
set_option maxRecDepth 1000000 in
theorem pw_bit (M:Op2) (L:BitVec 64->Int) (s:Su) (a n:BitVec 64):(pwX M L s a n).s.tm[7]?=some (.bit true):=by cases s <;> kernel_rfl
theorem pw_blk:blkAll 0 (bodyOf PR 173)=[.loop pwC]:=by kernel_rfl
@[irreducible] noncomputable def pwB (M:Op2) (L:BitVec 64->Int) (s:Su) (a n r:BitVec 64):BEnt:=⟨pwK.tm,pwK.ids,pwK.n,pwX M L s a n,.leaf (.normal,pwI M L s a n (-1,r))⟩
theorem pwB_n (M:Op2) (L:BitVec 64->Int) (s:Su) (a n r:BitVec 64):(pwB M L s a n r).n=6 /\ (pwB M L s a n r).pre=pwX M L s a n /\ (pwB M L s a n r).post=.leaf (.normal,pwI M L s a n (-1,r)):=by
 unfold pwB
 exact ⟨rfl,rfl,rfl⟩
set_option maxRecDepth 1000000 in
theorem pw_run (M:Op2) (L:BitVec 64->Int) (s:Su) (a n r:BitVec 64):(afunR PR (envOf eqsT (lpwT M L)) [13,24] (tabOf [(0,pwB M L s a n r)]) 10 173 [kCv.enc s,kU.enc a,kU.enc n]).strict =
 .same (pwX M L s a n) (pwX M L s a n) (.leaf (kU.enc r)):=by cases s <;> kernel_rfl
theorem pw_codeOk:codeOk (envOf eqsT (lpwT lMul blI)) pwC=true:=by kernel_rfl
theorem blI_le (n:BitVec 64):0 <= blI n /\ blI n <= 64:=by
 have:bl n.toNat <= 64:=bl_spec.2 n.isLt
 unfold blI
 omega
def pwR (s:Su) (a n:BitVec 64):BitVec 64:=sqB (fun u=>lMul s u u) (fun u=>lMul s u a) (bitU n) (bl n.toNat) (bitW true)
theorem pw_start (s:Su) (a n:BitVec 64):∀ d:Int × BitVec 64,d=(IntKind.i64.wrap (blI n - 1),bitW true)->-1 <= d.1 /\ d.1 <= 63 /\ sqB (fun u=>lMul s u u) (fun u=>lMul s u a) (bitU n) (d.1+1).toNat d.2=pwR s a n:=by
 rintro d rfl
 have hl:=blI_le n
 have hw:IntKind.i64.wrap (blI n - 1)=blI n - 1:=wrap_id (n:=blI n - 1) (by omega) (by omega)
 rw [hw]
 refine ⟨?_,?_,?_⟩
 . show -1 <= blI n - 1
   omega
 . show blI n - 1 <= 63
   omega
 . show sqB _ _ _ (blI n - 1+1).toNat _=_
   rw [show (blI n - 1+1).toNat=bl n.toNat by unfold blI;omega]
   rfl
theorem pw_loop (s:Su) (a n:BitVec 64) {Fr0:Fr} {ds:List Deferred} {Q:AExit->XS->Prop} (hK:Q .normal (pwI lMul blI s a n (-1,pwR s a n))) :
 Tri PR Fr0 ds 0 (.block 0 (.loop pwC)) (pwX lMul blI s a n) Q :=
 Tri.asU (pw_bit lMul blI s a n) <| Eq.subst (motive:=fun y=>Tri PR Fr0 ds 0 (.block 0 (.loop pwC)) y Q) (pw_head lMul blI s a n).symm <|
  blockLoop (m:=0) (envOf_ok eqsT_ok lpwT_ok) mixed (sym:=[13,24]) (tab:=fun _=>none) (lf:=10) (k:=pwK) (kx:=pwK) (kr:=pwK) (by decide) (by decide) (by decide) pw_codeOk (tabOk_none _)
  (pwI lMul blI s a n) (fun d=>-1 <= d.1 /\ d.1 <= 63 /\ sqB (fun u=>lMul s u u) (fun u=>lMul s u a) (bitU n) (d.1+1).toNat d.2=pwR s a n) (fun d=>(d.1+1).toNat) _ (pw_start s a n _ rfl)
  (sqB_law (by decide) (fun u=>lMul s u u) (fun u=>lMul s u a) (bitU n) notNeg notNeg_ok _ (pwI lMul blI s a n) (pw_round lMul blI s a n) hK)
theorem pw_tab (s:Su) (a n:BitVec 64):TabOk PR 0 (tabOf [(0,pwB lMul blI s a n (pwR s a n))]) (bodyOf PR 173) :=
 tabOk_one (by rw [(pwB_n lMul blI s a n (pwR s a n)).1];decide) pw_blk fun Fr0 ds Q h=>by
  obtain ⟨-,h2,h3⟩:=pwB_n lMul blI s a n (pwR s a n)
  rw [h3] at h
  rw [h2]
  exact pw_loop s a n h
theorem pw_ctx (s:Su) (a n:BitVec 64):Ctx PR (envOf eqsT (lpwT lMul blI)) [13,24] (tabOf [(0,pwB lMul blI s a n (pwR s a n))]) 10 173 :=
 ctx_of (envOf_ok eqsT_ok lpwT_ok) mixed (fn:=Tryz.f173) (by kernel_rfl) (by kernel_rfl) (by kernel_rfl) (pw_tab s a n)
theorem pwR_eq (s:Su) (a n:BitVec 64):pwR s a n=lPow s a n:=(sqF_eq (frc:=frcU) (fun x f=>frcU_eq x f) _ _ _ _ _).symm
theorem pw_ok:CallOk PR 173 (fn3 kCv kU kU kU lPow) :=
 .inl ⟨entersB (by kernel_rfl),pure3X fun s a n=>.of (pw_ctx s a n) (sameVal (B:=kU) (by rw [<- pwR_eq];exact pw_run lMul blI s a n (pwR s a n)))⟩
theorem lv_ctx:Ctx PR (envOf eqsT (lvT lPow)) [] (fun _=>none) 10 228 :=
 ctxB (envOf_ok eqsT_ok (TabPOk.cons pw_ok TabPOk.nil)) mixed (by kernel_rfl)
theorem lv_ok:CallOk PR 228 (fn2 kCv kU kU lInv) :=
 .inl ⟨entersB (by kernel_rfl),pure2 lv_ctx fun s x=>leafVal (B:=kU) (y:=lInv s x) (lv_run lPow s x)⟩
noncomputable def lq0:LQ:=⟨lMul,lAdd,lSub,lrF,lInv,fun _ _ _=>(0#64,false),fun _ p _=>p⟩
theorem lsl_ctx:Ctx PR (envOf eqsT (lsT lq0)) [13,35,39] (fun _=>none) 10 182 :=
 ctxB (envOf_ok eqsT_ok (TabPOk.cons lm_ok (TabPOk.cons la_ok (TabPOk.cons ls_ok (TabPOk.cons lv_ok TabPOk.nil))))) mixed (by kernel_rfl)
theorem lsl_ok:CallOk PR 182 (fn3 kCv cLp.agg cLp.agg kUb lSlope) :=
 .inl ⟨entersB (by kernel_rfl),pure3 lsl_ctx fun s p q=>lsl_gives lq0 s p q⟩
noncomputable def lq1:LQ:=⟨lMul,lAdd,lSub,lrF,lInv,lSlope,fun _ p _=>p⟩
theorem lSum_eq (s:Su) (p q:Lp):sumG lq1 s p q=lSum s p q:=by
 unfold lSum sumG
 rw [frcB_eq,frcU_eq,frcU_eq]
 rfl
theorem lsm_ctx:Ctx PR (envOf eqsT (lsmT lq1)) [10,14,26] (fun _=>none) 10 128 :=
 ctxB (envOf_ok eqsT_ok (TabPOk.cons lm_ok (TabPOk.cons ls_ok (TabPOk.cons lsl_ok TabPOk.nil)))) mixed (by kernel_rfl)
theorem lsm_ok:CallOk PR 128 (fn3 kCv cLp.agg cLp.agg cLp.agg lSum) :=
 .inl ⟨entersB (by kernel_rfl),pure3 lsm_ctx fun s p q=>by rw [<- lSum_eq];exact lsm_gives lq1 s p q⟩
def ltmT (S:Su->Lp->Lp->Lp) (L:BitVec 64->Int):PureTab:=[(128,fn3 kCv cLp.agg cLp.agg cLp.agg S),(162,fn1 kU (kInt .i64) L)]
theorem ltmT_ok:TabPOk PR (ltmT lSum blI):=TabPOk.cons lsm_ok (TabPOk.cons len64_ok TabPOk.nil)
def tmK:Keep:=⟨[2,3,4,6,7,8],[0,1,2,4],9⟩
@[irreducible] noncomputable def tmX (S:Su->Lp->Lp->Lp) (L:BitVec 64->Int) (s:Su) (p:Lp) (n:BitVec 64):XS:=entryOf PR (envOf eqsT (ltmT S L)) [14,25] (fun _=>none) 10 127 [kCv.enc s,cLp.agg.enc p,kU.enc n] [] 0 0 tmK
@[irreducible] noncomputable def tmI (S:Su->Lp->Lp->Lp) (L:BitVec 64->Int) (s:Su) (p:Lp) (n:BitVec 64) (d:Int × Lp):XS:=((tmX S L s p n).setT 8 (.v (.int .i64 d.1))).setB 4 (cLp.enc d.2)
@[irreducible] noncomputable def tmC:Code:=roundOf PR 127 0
set_option maxRecDepth 1000000 in
theorem tm_round (S:Su->Lp->Lp->Lp) (L:BitVec 64->Int) (s:Su) (p:Lp) (n:BitVec 64) (z:Int) (out:Lp):Tree.but [2] 0 (roundT PR (envOf eqsT (ltmT S L)) [14,25] (fun _=>none) 10 tmK tmK tmK tmC (tmI S L s p n (z,out))) =
 .br (decide (z >= 0))
  (.br (bitU n z)
   (.need (notNeg z) (.leaf (.normal,tmI S L s p n (IntKind.i64.wrap (z - 1),S s (S s out out) p))))
   (.need (notNeg z) (.leaf (.normal,tmI S L s p n (IntKind.i64.wrap (z - 1),S s out out)))))
  (.leaf (.exit 0,tmI S L s p n (z,out))):=by cases s <;> kernel_rfl
set_option maxRecDepth 1000000 in
theorem tm_head (S:Su->Lp->Lp->Lp) (L:BitVec 64->Int) (s:Su) (p:Lp) (n:BitVec 64):(tmX S L s p n).setB 4 (cLp.enc lp0)=tmI S L s p n (IntKind.i64.wrap (L n - 1),lp0):=by cases s <;> kernel_rfl
set_option maxRecDepth 1000000 in
theorem tm_cell (S:Su->Lp->Lp->Lp) (L:BitVec 64->Int) (s:Su) (p:Lp) (n:BitVec 64):(tmX S L s p n).s.h.get 4=some ⟨true,43,[.u 0#64,.u 0#64,.lit true]⟩:=by cases s <;> kernel_rfl
theorem tm_blk:blkAll 0 (bodyOf PR 127)=[.loop tmC]:=by kernel_rfl
@[irreducible] noncomputable def tmB (S:Su->Lp->Lp->Lp) (L:BitVec 64->Int) (s:Su) (p:Lp) (n:BitVec 64) (r:Lp):BEnt:=⟨tmK.tm,tmK.ids,tmK.n,tmX S L s p n,.leaf (.normal,tmI S L s p n (-1,r))⟩
theorem tmB_n (S:Su->Lp->Lp->Lp) (L:BitVec 64->Int) (s:Su) (p:Lp) (n:BitVec 64) (r:Lp):(tmB S L s p n r).n=9 /\ (tmB S L s p n r).pre=tmX S L s p n /\ (tmB S L s p n r).post=.leaf (.normal,tmI S L s p n (-1,r)):=by
 unfold tmB
 exact ⟨rfl,rfl,rfl⟩
set_option maxRecDepth 1000000 in
theorem tm_run (S:Su->Lp->Lp->Lp) (L:BitVec 64->Int) (s:Su) (p:Lp) (n:BitVec 64) (r:Lp):(afunR PR (envOf eqsT (ltmT S L)) [14,25] (tabOf [(0,tmB S L s p n r)]) 10 127 [kCv.enc s,cLp.agg.enc p,kU.enc n]).strict =
 .same (tmX S L s p n) (tmX S L s p n) (.leaf (cLp.agg.enc r)):=by cases s <;> kernel_rfl
theorem tm_codeOk:codeOk (envOf eqsT (ltmT lSum blI)) tmC=true:=by kernel_rfl
noncomputable def tmR (s:Su) (p:Lp) (n:BitVec 64):Lp:=sqB (fun u=>lSum s u u) (fun u=>lSum s u p) (bitU n) (bl n.toNat) lp0
theorem tm_start (s:Su) (p:Lp) (n:BitVec 64):∀ d:Int × Lp,d=(IntKind.i64.wrap (blI n - 1),lp0)->-1 <= d.1 /\ d.1 <= 63 /\ sqB (fun u=>lSum s u u) (fun u=>lSum s u p) (bitU n) (d.1+1).toNat d.2=tmR s p n:=by
 rintro d rfl
 have hl:=blI_le n
 have hw:IntKind.i64.wrap (blI n - 1)=blI n - 1:=wrap_id (n:=blI n - 1) (by omega) (by omega)
 rw [hw]
 refine ⟨?_,?_,?_⟩
 . show -1 <= blI n - 1
   omega
 . show blI n - 1 <= 63
   omega
 . show sqB _ _ _ (blI n - 1+1).toNat _=_
   rw [show (blI n - 1+1).toNat=bl n.toNat by unfold blI;omega]
   rfl
theorem cells3 {ρ:Ren} {i:Nat} {a c:AV} {x:Value} (ha:([.u 0#64,.u 0#64,.lit true]:List AV)[i]?=some a) (hc:(cLp.enc lp0)[i]?=some c) (h:Rv ρ a x):Rv ρ c x:=by
 have e:cLp.enc lp0=[.u 0#64,.u 0#64,.v (.bool true)]:=rfl
 rw [e] at hc
 match i with
 | 0=>simp at ha hc;subst ha;subst hc;exact h
 | 1=>simp at ha hc;subst ha;subst hc;exact h
 | 2=>simp at ha hc;subst ha;subst hc;exact h.other rfl rfl
 | n+3=>simp at ha
theorem tm_loop (s:Su) (p:Lp) (n:BitVec 64) {Fr0:Fr} {ds:List Deferred} {Q:AExit->XS->Prop} (hK:Q .normal (tmI lSum blI s p n (-1,tmR s p n))) :
 Tri PR Fr0 ds 0 (.block 0 (.loop tmC)) (tmX lSum blI s p n) Q :=
 Tri.asC (cs:=cLp.enc lp0) (tm_cell lSum blI s p n) rfl (fun ρ i a c x ha hc h=>cells3 ha hc h) <| Eq.subst (motive:=fun y=>Tri PR Fr0 ds 0 (.block 0 (.loop tmC)) y Q) (tm_head lSum blI s p n).symm <|
  blockLoop (m:=0) (envOf_ok eqsT_ok ltmT_ok) mixed (sym:=[14,25]) (tab:=fun _=>none) (lf:=10) (k:=tmK) (kx:=tmK) (kr:=tmK) (by decide) (by decide) (by decide) tm_codeOk (tabOk_none _)
  (tmI lSum blI s p n) (fun d=>-1 <= d.1 /\ d.1 <= 63 /\ sqB (fun u=>lSum s u u) (fun u=>lSum s u p) (bitU n) (d.1+1).toNat d.2=tmR s p n) (fun d=>(d.1+1).toNat) _ (tm_start s p n _ rfl)
  (sqB_law (by decide) (fun u=>lSum s u u) (fun u=>lSum s u p) (bitU n) notNeg notNeg_ok _ (tmI lSum blI s p n) (tm_round lSum blI s p n) hK)
theorem tm_tab (s:Su) (p:Lp) (n:BitVec 64):TabOk PR 0 (tabOf [(0,tmB lSum blI s p n (tmR s p n))]) (bodyOf PR 127) :=
 tabOk_one (by rw [(tmB_n lSum blI s p n (tmR s p n)).1];decide) tm_blk fun Fr0 ds Q h=>by
  obtain ⟨-,h2,h3⟩:=tmB_n lSum blI s p n (tmR s p n)
  rw [h3] at h
  rw [h2]
  exact tm_loop s p n h
theorem tm_ctx (s:Su) (p:Lp) (n:BitVec 64):Ctx PR (envOf eqsT (ltmT lSum blI)) [14,25] (tabOf [(0,tmB lSum blI s p n (tmR s p n))]) 10 127 :=
 ctx_of (envOf_ok eqsT_ok ltmT_ok) mixed (fn:=Tryz.f127) (by kernel_rfl) (by kernel_rfl) (by kernel_rfl) (tm_tab s p n)
theorem tmR_eq (s:Su) (p:Lp) (n:BitVec 64):tmR s p n=lTimes s p n:=(sqF_eq (frc:=frcLp) (fun x f=>frcLp_eq x f) _ _ _ _ _).symm
theorem tm_ok:CallOk PR 127 (fn3 kCv cLp.agg kU cLp.agg lTimes) :=
 .inl ⟨entersB (by kernel_rfl),pure3X fun s p n=>.of (tm_ctx s p n) (sameVal (B:=cLp.agg) (by rw [<- tmR_eq];exact tm_run lSum blI s p n (tmR s p n)))⟩
def linT (O:Su->Lp->Bool) (T:Su->Lp->BitVec 64->Lp):PureTab:=[(181,fn2 kCv cLp.agg kBool O),(127,fn3 kCv cLp.agg kU cLp.agg T)]
theorem lin_run (O:Su->Lp->Bool) (T:Su->Lp->BitVec 64->Lp) (s:Su) (p:Lp):(afunR PR (envOf eqsT (linT O T)) [8] (fun _=>none) 10 148 [kCv.enc s,cLp.agg.enc p]).strict =
 .br (O s p) (.leaf (.v (.bool (T s p (suR s)).2.2))) (.leaf (.lit false)):=by cases s <;> kernel_rfl
theorem lin_ctx:Ctx PR (envOf eqsT (linT onF lTimes)) [8] (fun _=>none) 10 148 :=
 ctxB (envOf_ok eqsT_ok (TabPOk.cons lo_ok (TabPOk.cons tm_ok TabPOk.nil))) mixed (by kernel_rfl)
theorem lin_ok:CallOk PR 148 (fn2 kCv cLp.agg kBool inF) :=
 .inl ⟨entersB (by kernel_rfl),pure2 lin_ctx fun s p=>givesOf (lin_run onF lTimes s p) (holds_br (B:=kBool) (holds_leaf rfl) (holds_leaf rfl))⟩
noncomputable def lofG:List AV->Option (Bool × AV):=inlineG PR (envOf eqsT []) [] 10 108
theorem lof_ctx:Ctx PR (envOf eqsT []) [] (fun _=>none) 10 108 :=
 ctxB (envOf_ok eqsT_ok TabPOk.nil) mixed (by kernel_rfl)
theorem lof_ok:CallOk PR 108 lofG:=.inl ⟨entersB (by kernel_rfl),inline_ok lof_ctx⟩
noncomputable def liE (O:Su->Lp->Bool):Env:=envOf eqsT [(108,lofG),(148,fn2 kCv cLp.agg kBool O)]
def liF (O:Su->Lp->Bool):Sx->Lp->Bool
 | .li,p=>O .lit p
 | .mi,p=>O .mid p
 | _,_=>false
theorem li_run (O:Su->Lp->Bool) (s:Sx) (p:Lp):valS (afunR PR (liE O) [] (fun _=>none) 10 91 [kSx.enc s,cLp.agg.enc p])=some (kBool.val (liF O s p)):=by cases s <;> kernel_rfl
theorem li_ctx:Ctx PR (liE inF) [] (fun _=>none) 10 91 :=
 ctxB (envOf_ok eqsT_ok (TabPOk.cons lof_ok (TabPOk.cons lin_ok TabPOk.nil))) mixed (by kernel_rfl)
theorem li_ok:CallOk PR 91 (fn2 kSx cLp.agg kBool (liF inF)) :=
 .inl ⟨entersB (by kernel_rfl),pure2 li_ctx fun s p=>givesV (li_run inF s p)⟩
noncomputable def lchE (O:Su->Lp->Bool):Env:=envA eqsT [(108,lofG),(181,fn2 kCv cLp.agg kBool O)] [] [] [] [] [] true []
noncomputable def lchV (O:Su->Lp->Bool):List AV->AH->Option (Bool × AV × AH):=viewP [] PR (lchE O) [26] 20 126
theorem lch_ctx:Ctx PR (lchE onF) [26] (fun _=>none) 20 126 :=
 ctxB (envA_ok eqsT_ok (TabPOk.cons lof_ok (TabPOk.cons lo_ok TabPOk.nil)) TabHOk.nil TabLOk.nil TabAOk.nil) mixed (by kernel_rfl)
theorem lch_ent:Enters PR 126:=entersB (by kernel_rfl)
theorem lch_ok:HeapOk PR 126 (lchV onF):=viewP_ok lch_ctx
noncomputable def ladE (O:Su->Lp->Bool) (S:Su->Lp->Lp->Lp):Env:=envA eqsT [(128,fn3 kCv cLp.agg cLp.agg cLp.agg S)] [(126,lchV O)] [] [] [] [] true [126]
def kLE:Cod (Lp × Int):=kTup cLp.agg (kInt .i64) (fun x=>by simp only [CC.agg,flatA,cLp.h1]) (fun _=>rfl)
def okL (O:Su->Lp->Bool):Sx->Lp->Bool
 | .li,p=>O .lit p
 | .mi,p=>O .mid p
 | _,_=>true
def raw1 (b:Bool):Bool:=bif ((bif b then true else false) && true) then true else false
def raw2 (b c:Bool):Bool:=bif ((bif b then (bif c then true else false) else false) && true) then true else false
def ladC (O:Su->Lp->Bool):Sx->Lp->Lp->Bool
 | .li,p,q=>raw2 (O .lit p) (O .lit q)
 | .mi,p,q=>raw2 (O .mid p) (O .mid q)
 | _,_,_=>true
theorem ladC_of {O:Su->Lp->Bool} {s:Sx} {p q:Lp} (h:(okL O s p && okL O s q)=true):ladC O s p q=true:=by
 obtain ⟨h1,h2⟩:=Bool.and_eq_true_iff.1 h
 cases s <;> simp only [okL] at h1 h2 <;> simp [ladC,raw2,h1,h2]
def lonC (O:Su->Lp->Bool):Sx->Lp->Bool
 | .li,p=>raw1 (O .lit p)
 | .mi,p=>raw1 (O .mid p)
 | _,_=>true
theorem lonC_of {O:Su->Lp->Bool} {s:Sx} {p:Lp} (h:okL O s p=true):lonC O s p=true:=by
 cases s <;> simp only [okL] at h <;> simp [lonC,raw1,h]
def ladF (S:Su->Lp->Lp->Lp):Sx->Lp->Lp->Lp × Int
 | .li,p,q=>(S .lit p q,0)
 | .mi,p,q=>(S .mid p q,0)
 | _,_,_=>(zLx,2)
theorem lad_run (O:Su->Lp->Bool) (S:Su->Lp->Lp->Lp) (s:Sx) (p q:Lp):valP [] (afunR PR (ladE O S) [] (fun _=>none) 10 76 [kSx.enc s,cLp.agg.enc p,cLp.agg.enc q]) =
 some (ladC O s p q,some (kLE.val (ladF S s p q))):=by cases s <;> kernel_rfl
theorem lad_ctx:Ctx PR (ladE onF lSum) [] (fun _=>none) 10 76 :=
 ctxB (envA_ok eqsT_ok (TabPOk.cons lsm_ok TabPOk.nil) (TabHOk.cons lch_ent lch_ok TabHOk.nil) TabLOk.nil TabAOk.nil) mixed (by kernel_rfl)
theorem lad_ok:CallOk PR 76 (fnQ3 kSx cLp.agg cLp.agg kLE (fun s p q=>okL onF s p && okL onF s q) (ladF lSum)) :=
 .inl ⟨entersB (by kernel_rfl),pureQ3 lad_ctx fun s p q h=>givesP (lad_run onF lSum s p q) (ladC_of h)⟩
def lneF (M:Op2):Sx->Lp->Lp × Int
 | .li,p=>((p.1,M .lit 0#64 p.2.1,p.2.2),0)
 | .mi,p=>((p.1,M .mid 0#64 p.2.1,p.2.2),0)
 | _,_=>(zLx,2)
noncomputable def lmuE (O:Su->Lp->Bool) (T:Su->Lp->BitVec 64->Lp):Env:=envA eqsT [(127,fn3 kCv cLp.agg kU cLp.agg T)] [(126,lchV O)] [] [] [] [] true [126]
def lmuF (T:Su->Lp->BitVec 64->Lp):Sx->Lp->BitVec 64->Lp × Int
 | .li,p,n=>(T .lit p n,0)
 | .mi,p,n=>(T .mid p n,0)
 | _,_,_=>(zLx,2)
theorem lmu_run (O:Su->Lp->Bool) (T:Su->Lp->BitVec 64->Lp) (s:Sx) (p:Lp) (n:BitVec 64):valP [] (afunR PR (lmuE O T) [] (fun _=>none) 10 74 [kSx.enc s,cLp.agg.enc p,kU.enc n]) =
 some (lonC O s p,some (kLE.val (lmuF T s p n))):=by cases s <;> kernel_rfl
theorem lmu_ctx:Ctx PR (lmuE onF lTimes) [] (fun _=>none) 10 74 :=
 ctxB (envA_ok eqsT_ok (TabPOk.cons tm_ok TabPOk.nil) (TabHOk.cons lch_ent lch_ok TabHOk.nil) TabLOk.nil TabAOk.nil) mixed (by kernel_rfl)
theorem lmu_ok:CallOk PR 74 (fnQ3 kSx cLp.agg kU kLE (fun s p _=>okL onF s p) (lmuF lTimes)) :=
 .inl ⟨entersB (by kernel_rfl),pureQ3 lmu_ctx fun s p n h=>givesP (lmu_run onF lTimes s p n) (lonC_of h)⟩
def rWx:W6:=⟨0xffffffff00000001#64,0x53bda402fffe5bfe#64,0x3339d80809a1d805#64,0x73eda753299d7d48#64,0#64,0#64⟩
theorem mor_run:(afunR PR (envOf eqsT []) [] (fun _=>none) 10 136 []).strict=.leaf (c6.agg.enc rWx):=by kernel_rfl
theorem mor_ctx:Ctx PR (envOf eqsT []) [] (fun _=>none) 10 136 :=
 ctxB (envOf_ok eqsT_ok TabPOk.nil) mixed (by kernel_rfl)
theorem mor_ok:CallOk PR 136 (fn0 c6.agg rWx) :=
 .inl ⟨entersB (by kernel_rfl),pure0 mor_ctx (leafVal (B:=c6.agg) mor_run)⟩
def kUE:Cod (BitVec 64 × Int):=kTup kU (kInt .i64) (fun _=>rfl) (fun _=>rfl)
def lorF:Sx->BitVec 64 × Int
 | .li=>(65521#64,0)
 | .mi=>(72057594037927889#64,0)
 | _=>(0#64,2)
noncomputable def lorE:Env:=envOf eqsT [(108,lofG)]
theorem lor_run (s:Sx):valS (afunR PR lorE [] (fun _=>none) 10 137 [kSx.enc s])=some (kUE.val (lorF s)):=by cases s <;> kernel_rfl
theorem lor_ctx:Ctx PR lorE [] (fun _=>none) 10 137 :=
 ctxB (envOf_ok eqsT_ok (TabPOk.cons lof_ok TabPOk.nil)) mixed (by kernel_rfl)
theorem lor_ok:CallOk PR 137 (fn1 kSx kUE lorF) :=
 .inl ⟨entersB (by kernel_rfl),pure1 lor_ctx fun s=>givesV (lor_run s)⟩
def ordE (R:W6) (L:Sx->BitVec 64 × Int) (O:BitVec 64->W6):Env:=envOf eqsT [(136,fn0 c6.agg R),(137,fn1 kSx kUE L),(33,fn1 kU c6.agg O)]
def ordF (R:W6) (L:Sx->BitVec 64 × Int) (O:BitVec 64->W6):Sx->W6
 | .gr=>R
 | s=>O (L s).1
theorem ord_run (R:W6) (L:Sx->BitVec 64 × Int) (O:BitVec 64->W6) (s:Sx):valS (afunR PR (ordE R L O) [] (fun _=>none) 10 87 [kSx.enc s])=some (c6.agg.val (ordF R L O s)):=by cases s <;> kernel_rfl
theorem ord_ctx:Ctx PR (ordE rWx lorF ofW) [] (fun _=>none) 10 87 :=
 ctxB (envOf_ok eqsT_ok (TabPOk.cons mor_ok (TabPOk.cons lor_ok (TabPOk.cons of_ok TabPOk.nil)))) mixed (by kernel_rfl)
theorem ord_ok:CallOk PR 87 (fn1 kSx c6.agg (ordF rWx lorF ofW)) :=
 .inl ⟨entersB (by kernel_rfl),pure1 ord_ctx fun s=>givesV (ord_run rWx lorF ofW s)⟩
def eqLz (l:Lp):Bool:=l.1 == 0#64 && (l.2.1 == 0#64 && (l.2.2 == false && true))
def eqW6 (w:W6) (b:Bool):Bool:=w.w0 == 0#64 && (w.w1 == 0#64 && (w.w2 == 0#64 && (w.w3 == 0#64 && (w.w4 == 0#64 && (w.w5 == 0#64 && b)))))
def eqPx (p:Px):Bool:=eqW6 p.1 (eqW6 p.2.1 (p.2.2 == false && true))
def kchE (I:Px->Bool) (L:Sx->Lp->Bool):Env:=envOf eqsT [(90,fn1 cPx.agg kBool I),(91,fn2 kSx cLp.agg kBool L)]
def kchF (I:Px->Bool) (L:Sx->Lp->Bool):Kx->Bool
 | (.gr,p,l)=>bif eqLz l then I p else false
 | (.li,p,l)=>bif eqPx p then L .li l else false
 | (.mi,p,l)=>bif eqPx p then L .mi l else false
 | _=>false
theorem kch_run (I:Px->Bool) (L:Sx->Lp->Bool) (k:Kx):valS (afunR PR (kchE I L) [10,22] (fun _=>none) 10 48 [cKx.agg.enc k])=some (kBool.val (kchF I L k)):=by
 obtain ⟨s,p,l⟩:=k
 cases s <;> kernel_rfl
theorem kch_ctx {I:Px->Bool} {L:Sx->Lp->Bool} (hI:CallOk PR 90 (fn1 cPx.agg kBool I)) (hL:CallOk PR 91 (fn2 kSx cLp.agg kBool L)):Ctx PR (kchE I L) [10,22] (fun _=>none) 10 48 :=
 ctxB (envOf_ok eqsT_ok (TabPOk.cons hI (TabPOk.cons hL TabPOk.nil))) mixed (by kernel_rfl)
theorem kch_ok {I:Px->Bool} {L:Sx->Lp->Bool} (hI:CallOk PR 90 (fn1 cPx.agg kBool I)) (hL:CallOk PR 91 (fn2 kSx cLp.agg kBool L)):CallOk PR 48 (fn1 cKx.agg kBool (kchF I L)) :=
 .inl ⟨entersB (by kernel_rfl),pure1 (kch_ctx hI hL) fun k=>givesV (kch_run I L k)⟩
noncomputable def kysE (K:Kx->Bool) (R:Sx->W6) (C:W6->W6->Int):Env:=envA eqsT [(48,fn1 cKx.agg kBool K),(87,fn1 kSx c6.agg R),(86,fn2 c6.agg c6.agg (kInt .i64) C)] [] [] [] [] [] true []
noncomputable def kysV (K:Kx->Bool) (R:Sx->W6) (C:W6->W6->Int):List AV->AH->Option (Bool × AV × AH):=viewS PR (kysE K R C) [14,28,37] 20 72
theorem kys_ent:Enters PR 72:=entersB (by kernel_rfl)
def ky1 (K:Kx->Bool) (R:Sx->W6) (C:W6->W6->Int) (n:W6) (a:Kx):Int:=bif K a then (bif a.1.int != a.1.int then 2 else (bif decide (C n (R a.1) >= 0) then 2 else 0)) else 5
def ky2 (K:Kx->Bool) (R:Sx->W6) (C:W6->W6->Int) (n:W6) (a b:Kx):Int:=bif K a then (bif K b then (bif a.1.int != b.1.int then 2 else (bif decide (C n (R a.1) >= 0) then 2 else 0)) else 5) else 5
theorem kys_ctx {K:Kx->Bool} {R:Sx->W6} {C:W6->W6->Int} (hK:CallOk PR 48 (fn1 cKx.agg kBool K)) (hR:CallOk PR 87 (fn1 kSx c6.agg R)) (hC:CallOk PR 86 (fn2 c6.agg c6.agg (kInt .i64) C)) :
 Ctx PR (kysE K R C) [14,28,37] (fun _=>none) 20 72 :=
 ctxB (envA_ok eqsT_ok (TabPOk.cons hK (TabPOk.cons hR (TabPOk.cons hC TabPOk.nil))) TabHOk.nil TabLOk.nil TabAOk.nil) mixed (by kernel_rfl)
theorem kys_ok {K:Kx->Bool} {R:Sx->W6} {C:W6->W6->Int} (hK:CallOk PR 48 (fn1 cKx.agg kBool K)) (hR:CallOk PR 87 (fn1 kSx c6.agg R)) (hC:CallOk PR 86 (fn2 c6.agg c6.agg (kInt .i64) C)) :
 HeapOk PR 72 (kysV K R C):=viewS_ok (kys_ctx hK hR hC)
def kPE:Cod (Px × Int):=kTup cPx.agg (kInt .i64) (fun x=>by simp only [CC.agg,flatA,cPx.h1]) (fun _=>rfl)
def kKE:Cod (Kx × Int):=kTup cKx.agg (kInt .i64) (fun x=>by simp only [CC.agg,flatA,cKx.h1]) (fun _=>rfl)
def zW6:W6:=⟨0#64,0#64,0#64,0#64,0#64,0#64⟩
abbrev KK:Type:=Kx->Bool
noncomputable def kadE (K:KK) (R:Sx->W6) (C:W6->W6->Int) (A:Px->Px->Px × Int) (Q:Sx->Lp->Lp->Bool) (D:Sx->Lp->Lp->Lp × Int):Env :=
 envA eqsT [(75,fn2 cPx.agg cPx.agg kPE A),(76,fnQ3 kSx cLp.agg cLp.agg kLE Q D)] [(72,kysV K R C)] [] [] [] [] true [72]
def kadF (A:Px->Px->Px × Int) (D:Sx->Lp->Lp->Lp × Int):Kx->Kx->Kx
 | (.gr,p,_),(_,q,_)=>(.gr,(A p q).1,zLx)
 | (s,_,l),(_,_,m)=>(s,zPx,(D s l m).1)
def kadC (Q:Sx->Lp->Lp->Bool) (E:Int):Kx->Kx->Bool
 | (.gr,_,_),_=>bif E != 0 then false else true
 | (s,_,l),(_,_,m)=>bif E != 0 then false else (bif (Q s l m && true) then true else false)
set_option maxRecDepth 100000 in
theorem kad_err (K:KK) (R:Sx->W6) (C:W6->W6->Int) (A:Px->Px->Px × Int) (Q:Sx->Lp->Lp->Bool) (D:Sx->Lp->Lp->Lp × Int) (a b:Kx) :
 valP [true] (afunR PR (kadE K R C A Q D) [14] (fun _=>none) 20 36 [cKx.agg.enc a,cKx.agg.enc b]) =
  some (bif ky2 K R C zW6 a b != 0 then true else false,some (kKE.val (zKx,ky2 K R C zW6 a b))):=by
 obtain ⟨s,p,l⟩:=a
 obtain ⟨t,q,m⟩:=b
 cases s <;> cases t <;> kernel_rfl
set_option maxRecDepth 100000 in
theorem kad_run (K:KK) (R:Sx->W6) (C:W6->W6->Int) (A:Px->Px->Px × Int) (Q:Sx->Lp->Lp->Bool) (D:Sx->Lp->Lp->Lp × Int) (a b:Kx) :
 valP [false] (afunR PR (kadE K R C A Q D) [14] (fun _=>none) 20 36 [cKx.agg.enc a,cKx.agg.enc b]) =
  some (kadC Q (ky2 K R C zW6 a b) a b,some (kKE.val (kadF A D a b,0))):=by
 obtain ⟨s,p,l⟩:=a
 obtain ⟨t,q,m⟩:=b
 cases s <;> cases t <;> kernel_rfl
theorem kadC_of {Q:Sx->Lp->Lp->Bool} {E:Int} {a b:Kx} (hE:(E != 0)=false) (hQ:a.1 ≠ .gr->Q a.1 a.2.2 b.2.2=true):kadC Q E a b=true:=by
 obtain ⟨s,p,l⟩:=a
 obtain ⟨t,q,m⟩:=b
 cases s with
 | gr=>simp [kadC,hE]
 | li=>have h:=hQ (by simp);simp only at h;simp [kadC,hE,h]
 | mi=>have h:=hQ (by simp);simp only at h;simp [kadC,hE,h]
 | up n=>have h:=hQ (by simp);simp only at h;simp [kadC,hE,h]
 | neg n=>have h:=hQ (by simp);simp only at h;simp [kadC,hE,h]
def kadG (K:KK) (R:Sx->W6) (C:W6->W6->Int) (A:Px->Px->Px × Int) (D:Sx->Lp->Lp->Lp × Int) (a b:Kx):Kx × Int :=
 bif ky2 K R C zW6 a b != 0 then (zKx,ky2 K R C zW6 a b) else (kadF A D a b,0)
theorem kad_gives (K:KK) (R:Sx->W6) (C:W6->W6->Int) (A:Px->Px->Px × Int) (Q:Sx->Lp->Lp->Bool) (D:Sx->Lp->Lp->Lp × Int) (hQ:∀ a b:Kx,(ky2 K R C zW6 a b != 0)=false->a.1 ≠ .gr->Q a.1 a.2.2 b.2.2=true) (a b:Kx) :
 Gives (afunR PR (kadE K R C A Q D) [14] (fun _=>none) 20 36 [cKx.agg.enc a,cKx.agg.enc b]) (kKE.val (kadG K R C A D a b)):=by
 unfold kadG
 cases hE:ky2 K R C zW6 a b != 0 with
 | true =>
  rw [cond_true]
  exact givesP (kad_err K R C A Q D a b) (by rw [hE];rfl)
 | false =>
  rw [cond_false]
  exact givesP (kad_run K R C A Q D a b) (kadC_of hE (hQ a b hE))
theorem kad_ctx {K:KK} {R:Sx->W6} {C:W6->W6->Int} {A:Px->Px->Px × Int} {Q:Sx->Lp->Lp->Bool} {D:Sx->Lp->Lp->Lp × Int} (hY:HeapOk PR 72 (kysV K R C))
 (hA:CallOk PR 75 (fn2 cPx.agg cPx.agg kPE A)) (hD:CallOk PR 76 (fnQ3 kSx cLp.agg cLp.agg kLE Q D)):Ctx PR (kadE K R C A Q D) [14] (fun _=>none) 20 36 :=
 ctxB (envA_ok eqsT_ok (TabPOk.cons hA (TabPOk.cons hD TabPOk.nil)) (TabHOk.cons kys_ent hY TabHOk.nil) TabLOk.nil TabAOk.nil) mixed (by kernel_rfl)
theorem kad_ok {K:KK} {R:Sx->W6} {C:W6->W6->Int} {A:Px->Px->Px × Int} {Q:Sx->Lp->Lp->Bool} {D:Sx->Lp->Lp->Lp × Int} (hY:HeapOk PR 72 (kysV K R C))
 (hA:CallOk PR 75 (fn2 cPx.agg cPx.agg kPE A)) (hD:CallOk PR 76 (fnQ3 kSx cLp.agg cLp.agg kLE Q D))
 (hQ:∀ a b:Kx,(ky2 K R C zW6 a b != 0)=false->a.1 ≠ .gr->Q a.1 a.2.2 b.2.2=true):CallOk PR 36 (fn2 cKx.agg cKx.agg kKE (kadG K R C A D)) :=
 .inl ⟨entersB (by kernel_rfl),pure2 (kad_ctx hY hA hD) fun a b=>kad_gives K R C A Q D hQ a b⟩
noncomputable def kmuE (K:KK) (R:Sx->W6) (C:W6->W6->Int) (A:Px->W6->Px × Int) (Q:Sx->Lp->BitVec 64->Bool) (D:Sx->Lp->BitVec 64->Lp × Int):Env :=
 envA eqsT [(73,fn2 cPx.agg c6.agg kPE A),(74,fnQ3 kSx cLp.agg kU kLE Q D)] [(72,kysV K R C)] [] [] [] [] true [72]
def kmuF (A:Px->W6->Px × Int) (D:Sx->Lp->BitVec 64->Lp × Int):Kx->W6->Kx
 | (.gr,p,_),n=>(.gr,(A p n).1,zLx)
 | (s,_,l),n=>(s,zPx,(D s l n.w0).1)
def kmuC (Q:Sx->Lp->BitVec 64->Bool) (E:Int):Kx->W6->Bool
 | (.gr,_,_),_=>bif E != 0 then false else true
 | (s,_,l),n=>bif E != 0 then false else (bif (Q s l n.w0 && true) then true else false)
set_option maxRecDepth 100000 in
theorem kmu_err (K:KK) (R:Sx->W6) (C:W6->W6->Int) (A:Px->W6->Px × Int) (Q:Sx->Lp->BitVec 64->Bool) (D:Sx->Lp->BitVec 64->Lp × Int) (a:Kx) (n:W6) :
 valP [true] (afunR PR (kmuE K R C A Q D) [13] (fun _=>none) 20 35 [cKx.agg.enc a,c6.agg.enc n]) =
  some (bif ky1 K R C n a != 0 then true else false,some (kKE.val (zKx,ky1 K R C n a))):=by
 obtain ⟨s,p,l⟩:=a
 cases s <;> kernel_rfl
set_option maxRecDepth 100000 in
theorem kmu_run (K:KK) (R:Sx->W6) (C:W6->W6->Int) (A:Px->W6->Px × Int) (Q:Sx->Lp->BitVec 64->Bool) (D:Sx->Lp->BitVec 64->Lp × Int) (a:Kx) (n:W6) :
 valP [false] (afunR PR (kmuE K R C A Q D) [13] (fun _=>none) 20 35 [cKx.agg.enc a,c6.agg.enc n]) =
  some (kmuC Q (ky1 K R C n a) a n,some (kKE.val (kmuF A D a n,0))):=by
 obtain ⟨s,p,l⟩:=a
 cases s <;> kernel_rfl
theorem kmuC_of {Q:Sx->Lp->BitVec 64->Bool} {E:Int} {a:Kx} {n:W6} (hE:(E != 0)=false) (hQ:a.1 ≠ .gr->Q a.1 a.2.2 n.w0=true):kmuC Q E a n=true:=by
 obtain ⟨s,p,l⟩:=a
 cases s with
 | gr=>simp [kmuC,hE]
 | li=>have h:=hQ (by simp);simp only at h;simp [kmuC,hE,h]
 | mi=>have h:=hQ (by simp);simp only at h;simp [kmuC,hE,h]
 | up n=>have h:=hQ (by simp);simp only at h;simp [kmuC,hE,h]
 | neg n=>have h:=hQ (by simp);simp only at h;simp [kmuC,hE,h]
def kmuG (K:KK) (R:Sx->W6) (C:W6->W6->Int) (A:Px->W6->Px × Int) (D:Sx->Lp->BitVec 64->Lp × Int) (a:Kx) (n:W6):Kx × Int :=
 bif ky1 K R C n a != 0 then (zKx,ky1 K R C n a) else (kmuF A D a n,0)
theorem kmu_gives (K:KK) (R:Sx->W6) (C:W6->W6->Int) (A:Px->W6->Px × Int) (Q:Sx->Lp->BitVec 64->Bool) (D:Sx->Lp->BitVec 64->Lp × Int) (hQ:∀ (a:Kx) (n:W6),(ky1 K R C n a != 0)=false->a.1 ≠ .gr->Q a.1 a.2.2 n.w0=true) (a:Kx) (n:W6) :
 Gives (afunR PR (kmuE K R C A Q D) [13] (fun _=>none) 20 35 [cKx.agg.enc a,c6.agg.enc n]) (kKE.val (kmuG K R C A D a n)):=by
 unfold kmuG
 cases hE:ky1 K R C n a != 0 with
 | true =>
  rw [cond_true]
  exact givesP (kmu_err K R C A Q D a n) (by rw [hE];rfl)
 | false =>
  rw [cond_false]
  exact givesP (kmu_run K R C A Q D a n) (kmuC_of hE (hQ a n hE))
theorem kmu_ctx {K:KK} {R:Sx->W6} {C:W6->W6->Int} {A:Px->W6->Px × Int} {Q:Sx->Lp->BitVec 64->Bool} {D:Sx->Lp->BitVec 64->Lp × Int} (hY:HeapOk PR 72 (kysV K R C))
 (hA:CallOk PR 73 (fn2 cPx.agg c6.agg kPE A)) (hD:CallOk PR 74 (fnQ3 kSx cLp.agg kU kLE Q D)):Ctx PR (kmuE K R C A Q D) [13] (fun _=>none) 20 35 :=
 ctxB (envA_ok eqsT_ok (TabPOk.cons hA (TabPOk.cons hD TabPOk.nil)) (TabHOk.cons kys_ent hY TabHOk.nil) TabLOk.nil TabAOk.nil) mixed (by kernel_rfl)
theorem kmu_ok {K:KK} {R:Sx->W6} {C:W6->W6->Int} {A:Px->W6->Px × Int} {Q:Sx->Lp->BitVec 64->Bool} {D:Sx->Lp->BitVec 64->Lp × Int} (hY:HeapOk PR 72 (kysV K R C))
 (hA:CallOk PR 73 (fn2 cPx.agg c6.agg kPE A)) (hD:CallOk PR 74 (fnQ3 kSx cLp.agg kU kLE Q D))
 (hQ:∀ (a:Kx) (n:W6),(ky1 K R C n a != 0)=false->a.1 ≠ .gr->Q a.1 a.2.2 n.w0=true):CallOk PR 35 (fn2 cKx.agg c6.agg kKE (kmuG K R C A D)) :=
 .inl ⟨entersB (by kernel_rfl),pure2 (kmu_ctx hY hA hD) fun a n=>kmu_gives K R C A Q D hQ a n⟩
def kWE:Cod (W6 × Int):=kTup c6.agg (kInt .i64) (fun x=>by simp only [CC.agg,flatA,c6.h1]) (fun _=>rfl)
abbrev ZZ:Type:=Kz->Kz->Kz × Int
abbrev ZM:Type:=Kz->W6->Kz × Int
def eqWk (v w:W6) (b:Bool):Bool:=v.w0 == w.w0 && (v.w1 == w.w1 && (v.w2 == w.w2 && (v.w3 == w.w3 && (v.w4 == w.w4 && (v.w5 == w.w5 && b)))))
def eqKz (a b:Kz):Bool:=a.1 == b.1 && eqWk a.2.1.1 b.2.1.1 (eqWk a.2.1.2.1 b.2.1.2.1 (a.2.1.2.2 == b.2.1.2.2 && (a.2.2.1 == b.2.2.1 && (a.2.2.2.1 == b.2.2.2.1 && (a.2.2.2.2 == b.2.2.2.2 && true)))))
end Go.Rq.Sm

namespace Go.Rq.Cl
open Go Go.Proofs Go.Rq Go.Rq.Sm
def shr1 (a:W6):W6:=⟨a.w1 <<< 63 ||| a.w0 >>> 1,a.w2 <<< 63 ||| a.w1 >>> 1,a.w3 <<< 63 ||| a.w2 >>> 1,a.w4 <<< 63 ||| a.w3 >>> 1,a.w5 <<< 63 ||| a.w4 >>> 1,0#64 ||| a.w5 >>> 1⟩
def hfG (sh:W6->W6) (ad:W6->W6->W6 × Bool) (m:Mo) (x:W6):W6:=bif x.w0 &&& 1#64 == 1#64 then sh (ad x m.1).1 else sh x
def hfW:Mo->W6->W6:=hfG shr1 wAddW
structure IQ where
 sh:W6->W6
 hf:Mo->W6->W6
 cm:W6->W6->Int
 sb:W6->W6->W6 × Bool
 ms:Mo->W6->W6->W6
 rd:Mo->W6->W6
def ze0 (u:W6):Bool:=u.w0 == 0#64 && (u.w1 == 0#64 && (u.w2 == 0#64 && (u.w3 == 0#64 && (u.w4 == 0#64 && (u.w5 == 0#64 && true)))))
def ev0 (u:W6):Bool:=u.w0 &&& 1#64 == 0#64
def eq0 (v w:W6):Bool:=v.w0 == w.w0 && (v.w1 == w.w1 && (v.w2 == w.w2 && (v.w3 == w.w3 && (v.w4 == w.w4 && (v.w5 == w.w5 && true)))))
def ivOf (t:IQ) (k:Md):IV:=⟨ze0,ev0,t.sh,t.hf (modS k),fun u v=>decide (t.cm u v >= 0),fun u v=>(t.sb u v).1,t.ms (modS k)⟩
def iqSt (t:IQ) (k:Md) (a:W6):IS:=(t.rd (modS k) a,mdB k,ofW (bitW true),zeroW)
theorem zero_of {a0 a1 a2 a3 a4 a5:Nat} (h:a0+18446744073709551616*a1+340282366920938463463374607431768211456*a2+6277101735386680763835789423207666416102355444464034512896*a3+115792089237316195423570985008687907853269984665640564039457584007913129639936*a4+2135987035920910082395021706169552114602704522356652769947041607822219725780640550022962086936576*a5=0):a0=0 /\ a1=0 /\ a2=0 /\ a3=0 /\ a4=0 /\ a5=0:=by omega
theorem word_zero (x:BitVec 64):(x == 0#64)=true ↔ x.toNat=0:=by
 rw [beq_iff_eq]
 constructor
 . intro h;rw [h];rfl
 . intro h;exact BitVec.eq_of_toNat_eq h
theorem ze0_val (u:W6):ze0 u=true ↔ u.val=0:=by
 unfold ze0
 simp only [Bool.and_eq_true,word_zero,and_true]
 constructor
 . rintro ⟨h0,h1,h2,h3,h4,h5⟩
   unfold W6.val
   rw [h0,h1,h2,h3,h4,h5]
 . intro h
   exact zero_of h
theorem and_one_nat (x:BitVec 64):(x &&& 1#64).toNat=x.toNat % 2:=by
 rw [BitVec.toNat_and]
 exact Nat.and_one_is_mod _
theorem low_two {a0 a1 a2 a3 a4 a5:Nat}:(a0+18446744073709551616*a1+340282366920938463463374607431768211456*a2+6277101735386680763835789423207666416102355444464034512896*a3+115792089237316195423570985008687907853269984665640564039457584007913129639936*a4+2135987035920910082395021706169552114602704522356652769947041607822219725780640550022962086936576*a5) % 2=a0 % 2:=by omega
theorem val_two (u:W6):u.val % 2=u.w0.toNat % 2:=by
 unfold W6.val
 exact low_two
theorem ev0_val (u:W6):ev0 u=true ↔ u.val % 2=0:=by
 unfold ev0
 rw [beq_iff_eq,val_two,<- and_one_nat]
 constructor
 . intro h;rw [h];rfl
 . intro h;exact BitVec.eq_of_toNat_eq h
theorem od0_val (u:W6):(u.w0 &&& 1#64 == 1#64)=true ↔ u.val % 2=1:=by
 rw [beq_iff_eq,val_two,<- and_one_nat]
 constructor
 . intro h;rw [h];rfl
 . intro h;exact BitVec.eq_of_toNat_eq h
theorem shr_or (a b:BitVec 64):(b <<< 63 ||| a >>> 1).toNat=a.toNat / 2+9223372036854775808*(b.toNat % 2):=by
 have ha:(a >>> 1).toNat=a.toNat / 2:=by rw [BitVec.toNat_ushiftRight,Nat.shiftRight_eq_div_pow]
 have hb:(b <<< 63).toNat=9223372036854775808*(b.toNat % 2):=by
  rw [BitVec.toNat_shiftLeft,Nat.shiftLeft_eq]
  omega
 have hal:=a.isLt
 have h:(b <<< 63).toNat ||| (a >>> 1).toNat=(b <<< 63).toNat+(a >>> 1).toNat:=by
  rw [hb,ha,show 9223372036854775808*(b.toNat % 2)=2 ^ 63*(b.toNat % 2) from rfl]
  exact (Nat.two_pow_add_eq_or_of_lt (by omega) _).symm
 rw [BitVec.toNat_or,h,hb,ha]
 omega
theorem shr_sum {a0 a1 a2 a3 a4 a5:Nat}:(a0 / 2+9223372036854775808*(a1 % 2))+18446744073709551616*(a1 / 2+9223372036854775808*(a2 % 2))+340282366920938463463374607431768211456*(a2 / 2+9223372036854775808*(a3 % 2))+6277101735386680763835789423207666416102355444464034512896*(a3 / 2+9223372036854775808*(a4 % 2)) +
 115792089237316195423570985008687907853269984665640564039457584007913129639936*(a4 / 2+9223372036854775808*(a5 % 2))+2135987035920910082395021706169552114602704522356652769947041607822219725780640550022962086936576*(a5 / 2) =
 (a0+18446744073709551616*a1+340282366920938463463374607431768211456*a2+6277101735386680763835789423207666416102355444464034512896*a3+115792089237316195423570985008687907853269984665640564039457584007913129639936*a4+2135987035920910082395021706169552114602704522356652769947041607822219725780640550022962086936576*a5) / 2:=by omega
theorem shr1_val (u:W6):(shr1 u).val=u.val / 2:=by
 have h5:(0#64 ||| u.w5 >>> 1).toNat=u.w5.toNat / 2:=by
  rw [BitVec.zero_or,BitVec.toNat_ushiftRight,Nat.shiftRight_eq_div_pow]
 unfold W6.val
 show (u.w1 <<< 63 ||| u.w0 >>> 1).toNat+18446744073709551616*(u.w2 <<< 63 ||| u.w1 >>> 1).toNat+340282366920938463463374607431768211456*(u.w3 <<< 63 ||| u.w2 >>> 1).toNat+6277101735386680763835789423207666416102355444464034512896*(u.w4 <<< 63 ||| u.w3 >>> 1).toNat +
  115792089237316195423570985008687907853269984665640564039457584007913129639936*(u.w5 <<< 63 ||| u.w4 >>> 1).toNat+2135987035920910082395021706169552114602704522356652769947041607822219725780640550022962086936576*(0#64 ||| u.w5 >>> 1).toNat=_
 rw [shr_or,shr_or,shr_or,shr_or,shr_or,h5]
 exact shr_sum
theorem hf_val {m:Mo} (ho:m.1.val % 2=1) (hs:2*m.1.val <= 39402006196394479212279040100143613805079739270465446667948293404245721771497210611414266254884915640806627990306816) (x:W6) (h:x.val < m.1.val):(hfW m x).val < m.1.val /\ 2*(hfW m x).val % m.1.val=x.val % m.1.val:=by
 have e:hfW m x=bif x.w0 &&& 1#64 == 1#64 then shr1 (wAddW x m.1).1 else shr1 x:=rfl
 rw [e]
 cases hb:(x.w0 &&& 1#64 == 1#64) with
 | true =>
  have o:=(od0_val x).1 hb
  have h1:=wAdd_val x m.1 (by omega)
  rw [cond_true,shr1_val,h1]
  refine ⟨by omega,?_⟩
  rw [show 2*((x.val+m.1.val) / 2)=x.val+m.1.val by omega,Nat.add_mod_right]
 | false =>
  have o:x.val % 2=0:=by
   have:¬ x.val % 2=1:=fun e=>by rw [(od0_val x).2 e] at hb;cases hb
   omega
  rw [cond_false,shr1_val]
  refine ⟨by omega,?_⟩
  rw [show 2*(x.val / 2)=x.val by omega]
theorem ge0_val (u v:W6):decide (chainV (cmpL u v) 0 >= 0)=true ↔ v.val <= u.val:=by
 have h:=cmq_nat u v
 have e:cmW u v=chainV (cmpL u v) 0:=rfl
 rw [e] at h
 rw [decide_eq_true_iff]
 constructor
 . intro g
   have:¬ u.val < v.val:=fun l=>by have:=h.2 l;omega
   omega
 . intro g
   have:¬ chainV (cmpL u v) 0 < 0:=fun l=>by have:=h.1 l;omega
   omega
def iqO:IQ:=⟨shr1,hfW,fun a b=>chainV (cmpL a b) 0,wSubW,qsubW,moRedW⟩
theorem mdN_odd (k:Md):mdN k % 2=1:=by cases k <;> decide +kernel
noncomputable abbrev vO (k:Md):IV:=ivOf iqO k
theorem vO_ok (k:Md):IvOk (vO k) (mdN k):=by
 have M:=mg_md k
 have hv:=modS_val k
 have hs:=M.small
 refine ⟨mdN_odd k,ze0_val,ev0_val,shr1_val,fun x h=>?_,ge0_val,fun u v h=>?_,fun x y hx hy=>?_⟩
 . have:=hf_val (m:=modS k) (by rw [hv];exact mdN_odd k) hs x (by rw [hv];exact h)
   rw [hv] at this
   exact this
 . exact ((wSub_val u v).1 h).2
 . have:=mg_sub M x y
   rw [hv,Nat.mod_eq_of_lt hx,Nat.mod_eq_of_lt hy] at this
   exact this
theorem vO_rd (k:Md) (a:W6):(moRedW (modS k) a).val=a.val % mdN k:=by
 have:=mg_red (mg_md k) a
 rw [modS_val] at this
 exact this
theorem iq_start (k:Md) (a:W6):∀ d:IS,d=iqSt iqO k a->IvI (mdN k) a.val d:=by
 rintro d rfl
 have hp:=mdN_pos k
 have h1:(ofW (bitW true)).val=1:=by decide +kernel
 have h0:zeroW.val=0:=by decide +kernel
 have hr:=vO_rd k a
 refine ⟨?_,?_,?_,?_,?_,?_⟩
 . show 0 < (mdB k).val
   rw [mdB_nat];omega
 . show (ofW (bitW true)).val < mdN k
   rw [h1];exact hp.1
 . show zeroW.val < mdN k
   rw [h0];omega
 . show a.val*(ofW (bitW true)).val % mdN k=(moRedW (modS k) a).val % mdN k
   rw [h1,hr,Nat.mul_one,Nat.mod_mod]
 . show a.val*zeroW.val % mdN k=(mdB k).val % mdN k
   rw [h0,mdB_nat,Nat.mul_zero,Nat.mod_self,Nat.zero_mod]
 . intro d d1 d2
   have d1:d ∣ (moRedW (modS k) a).val:=d1
   have d2:d ∣ (mdB k).val:=d2
   rw [hr] at d1
   rw [mdB_nat] at d2
   exact ⟨d2,(Nat.dvd_mod_iff d2).1 d1⟩
noncomputable def iqRes (k:Md) (a:W6):IS:=ivR (vO k) (isz (iqSt iqO k a)) (iqSt iqO k a)
def iqFin (r:IS):W6 × Int:=bif !eq0 r.2.1 (ofW (bitW true)) then (zW6,6) else (r.2.2.2,0)
noncomputable def invF (k:Md) (a:W6):W6 × Int:=iqFin (iqRes k a)
theorem eq0_val (v w:W6):eq0 v w=true ↔ v=w:=by
 obtain ⟨v0,v1,v2,v3,v4,v5⟩:=v
 obtain ⟨w0,w1,w2,w3,w4,w5⟩:=w
 simp only [eq0,Bool.and_eq_true,beq_iff_eq,W6.mk.injEq,and_true]
theorem inv_val {k:Md} (hp:Pr (mdN k)) {a:W6} (ha:¬ mdN k ∣ a.val):(invF k a).2=0 /\ (invF k a).1.val < mdN k /\ a.val*(invF k a).1.val % mdN k=1:=by
 obtain ⟨h1,h2,h3⟩:=iv_end (vO_ok k) hp ha (iq_start k a _ rfl) (Nat.le_refl _)
 have hone:(ofW (bitW true)).val=1:=by decide +kernel
 have e:iqFin (iqRes k a)=((iqRes k a).2.2.2,0):=by
  unfold iqFin
  rw [(eq0_val _ _).2 (W6.val_inj (by rw [hone];exact h1))]
  rfl
 unfold invF
 rw [e]
 exact ⟨rfl,h2,h3⟩
end Go.Rq.Cl

namespace Go.Rq.Sm
open Go Go.Proofs Go.Rq
def kneF (A:Px->Px × Int) (D:Sx->Lp->Lp × Int):Kx->Kx
 | (.gr,p,_)=>(.gr,(A p).1,zLx)
 | (s,_,l)=>(s,zPx,(D s l).1)
def kneG (K:KK) (R:Sx->W6) (C:W6->W6->Int) (A:Px->Px × Int) (D:Sx->Lp->Lp × Int) (a:Kx):Kx × Int :=
 bif ky1 K R C zW6 a != 0 then (zKx,ky1 K R C zW6 a) else (kneF A D a,0)
def zKz:Kz:=(0,zPx,zLx)
abbrev S3:Type:=Int->W6->W6->W6 × Int
def geR (O:Int->W6 × Int) (C:W6->W6->Int) (s:Int) (x:W6):Bool:=decide (C x (O s).1 >= 0)
def nt (b c:Bool):Bool:=bif b then false else c
def knwF:Sx->Bool
 | .gr=>true
 | .li=>true
 | .mi=>true
 | _=>false
noncomputable def knwE:Env:=envA eqsT [] [] [] [] [] [] true []
theorem knw_run (s:Sx):valS (afunR PR knwE [] (fun _=>none) 10 60 [kSx.enc s])=some (kBool.val (knwF s)):=by cases s <;> kernel_rfl
theorem knw_ctx:Ctx PR knwE [] (fun _=>none) 10 60 :=
 ctxB (envA_ok eqsT_ok TabPOk.nil TabHOk.nil TabLOk.nil TabAOk.nil) mixed (by kernel_rfl)
theorem knw_ok:CallOk PR 60 (fn1 kSx kBool knwF) :=
 .inl ⟨entersB (by kernel_rfl),pure1 knw_ctx fun s=>givesV (knw_run s)⟩
noncomputable def sorE (N:Sx->Bool) (R:Sx->W6):Env:=envA eqsT [(60,fn1 kSx kBool N),(87,fn1 kSx c6.agg R)] [] [] [] [] [] true []
def sorF (R:Sx->W6):Sx->W6 × Int
 | .gr=>(R .gr,0)
 | .li=>(R .li,0)
 | .mi=>(R .mi,0)
 | _=>(zW6,2)
theorem sor_run (R:Sx->W6) (s:Sx):valS (afunR PR (sorE knwF R) [] (fun _=>none) 10 43 [kSx.enc s])=some (kWE.val (sorF R s)):=by cases s <;> kernel_rfl
theorem sor_ctx:Ctx PR (sorE knwF (ordF rWx lorF ofW)) [] (fun _=>none) 10 43 :=
 ctxB (envA_ok eqsT_ok (TabPOk.cons knw_ok (TabPOk.cons ord_ok TabPOk.nil)) TabHOk.nil TabLOk.nil TabAOk.nil) mixed (by kernel_rfl)
theorem sor_okx:CallOk PR 43 (fn1 kSx kWE (sorF (ordF rWx lorF ofW))) :=
 .inl ⟨entersB (by kernel_rfl),pure1 sor_ctx fun s=>givesV (sor_run _ s)⟩
theorem fnS1 {β:Type} {B:Cod β} {F:Sx->β}:fn1 kSx B F=fn1 (kInt .i64) B (fun i=>F (Sx.of i)):=by
 funext args
 unfold fn1
 split
 . rename_i a
   have e:kSx.dec a=((kInt .i64).dec a).map Sx.of:=by
    have e0:kSx.dec a=(match (kInt .i64).dec a with
     | some i=>some (Sx.of i)
     | none=>none):=rfl
    rw [e0]
    cases (kInt .i64).dec a <;> rfl
   rw [e]
   cases (kInt .i64).dec a <;> rfl
 . rfl
theorem sor_ok:CallOk PR 43 (fn1 (kInt .i64) kWE (fun i=>sorF (ordF rWx lorF ofW) (Sx.of i))):=by
 rw [<- fnS1 (F:=sorF (ordF rWx lorF ofW))]
 exact sor_okx
theorem in_on {s:Su} {p:Lp} (h:inF s p=true):onF s p=true:=by
 unfold inF at h
 cases ho:onF s p with
 | true=>rfl
 | false=>rw [ho,cond_false] at h;cases h
theorem kch_on {I:Px->Bool} {k:Kx} (h:kchF I (liF inF) k=true) (hs:k.1 ≠ .gr):okL onF k.1 k.2.2=true:=by
 obtain ⟨s,p,l⟩:=k
 cases s with
 | gr=>exact absurd rfl hs
 | li =>
  simp only [kchF] at h
  cases he:eqPx p with
  | true=>rw [he,cond_true] at h;exact in_on (s:=.lit) h
  | false=>rw [he,cond_false] at h;cases h
 | mi =>
  simp only [kchF] at h
  cases he:eqPx p with
  | true=>rw [he,cond_true] at h;exact in_on (s:=.mid) h
  | false=>rw [he,cond_false] at h;cases h
 | up n=>rfl
 | neg n=>rfl
theorem ky1_ok {K:KK} {R:Sx->W6} {C:W6->W6->Int} {n:W6} {a:Kx} (h:(ky1 K R C n a != 0)=false):K a=true:=by
 cases hk:K a with
 | true=>rfl
 | false=>simp [ky1,hk] at h
theorem ky2_ok {K:KK} {R:Sx->W6} {C:W6->W6->Int} {n:W6} {a b:Kx} (h:(ky2 K R C n a b != 0)=false):K a=true /\ K b=true /\ a.1=b.1:=by
 cases hk:K a with
 | false=>simp [ky2,hk] at h
 | true =>
  cases hb:K b with
  | false=>simp [ky2,hk,hb] at h
  | true =>
   refine ⟨rfl,rfl,Sx.int_inj ?_⟩
   cases he:a.1.int != b.1.int with
   | false=>simpa using he
   | true=>simp [ky2,hk,hb,he] at h
def toE (y:Kx × Int):Kz × Int:=(toKz y.1,y.2)
noncomputable abbrev kchX (I:Px->Bool):KK:=kchF I (liF inF)
noncomputable abbrev ordX:Sx->W6:=ordF rWx lorF ofW
noncomputable abbrev cmpX:W6->W6->Int:=fun a b=>chainV (cmpL a b) 0
theorem kysX_ok {I:Px->Bool} (hI:CallOk PR 90 (fn1 cPx.agg kBool I)):HeapOk PR 72 (kysV (kchX I) ordX cmpX):=kys_ok (kch_ok hI li_ok) ord_ok cmp_ok
noncomputable def kadX (I:Px->Bool) (A:Px->Px->Px × Int) (a b:Kz):Kz × Int:=toE (kadG (kchX I) ordX cmpX A (ladF lSum) (toKx a) (toKx b))
theorem kadX_ok {I:Px->Bool} {A:Px->Px->Px × Int} (hI:CallOk PR 90 (fn1 cPx.agg kBool I)) (hA:CallOk PR 75 (fn2 cPx.agg cPx.agg kPE A)) :
 CallOk PR 36 (fn2 cKz.agg cKz.agg kKzE (kadX I A)):=by
 have h:=kad_ok (kysX_ok hI) hA lad_ok fun a b he hs=>by
  obtain ⟨h1,h2,h3⟩:=ky2_ok he
  have k1:=kch_on h1 hs
  have k2:=kch_on h2 (by rw [<- h3];exact hs)
  rw [<- h3] at k2
  rw [k1,k2]
  rfl
 rw [fnK2 (B':=kKzE) (ψ:=toE) fun y=>rfl] at h
 exact h
noncomputable def kmuX (I:Px->Bool) (A:Px->W6->Px × Int) (a:Kz) (n:W6):Kz × Int:=toE (kmuG (kchX I) ordX cmpX A (lmuF lTimes) (toKx a) n)
theorem kmuX_ok {I:Px->Bool} {A:Px->W6->Px × Int} (hI:CallOk PR 90 (fn1 cPx.agg kBool I)) (hA:CallOk PR 73 (fn2 cPx.agg c6.agg kPE A)) :
 CallOk PR 35 (fn2 cKz.agg c6.agg kKzE (kmuX I A)):=by
 have h:=kmu_ok (kysX_ok hI) hA lmu_ok fun a n he hs=>kch_on (ky1_ok he) hs
 rw [fnK1c (B':=kKzE) (ψ:=toE) fun y=>rfl] at h
 exact h
noncomputable def kneX (I:Px->Bool) (A:Px->Px × Int) (a:Kz):Kz × Int:=toE (kneG (kchX I) ordX cmpX A (lneF lSub) (toKx a))
theorem kchZ_ok {I:Px->Bool} (hI:CallOk PR 90 (fn1 cPx.agg kBool I)):CallOk PR 48 (fn1 cKz.agg kBool fun a=>kchX I (toKx a)):=by
 have h:=kch_ok hI li_ok
 rw [fnK1 (B':=kBool) (ψ:=fun b=>b) fun y=>rfl] at h
 exact h
end Go.Rq.Sm

namespace Go.Rq.Cl
open Go Go.Proofs Go.Rq Go.Rq.Sm
def knS:Sx->Bool
 | .gr=>true
 | .li=>true
 | .mi=>true
 | _=>false
theorem kno_run (s:Sx):valS (afunR PR (envOf eqsT []) [] (fun _=>none) 10 60 [kSx.enc s])=some (kBool.val (knS s)):=by cases s <;> kernel_rfl
theorem kno_ok:CallOk PR 60 (fn1 kSx kBool knS) :=
 .inl ⟨entersB (by kernel_rfl),pure1 (ctxB (envOf_ok eqsT_ok TabPOk.nil) mixed (by kernel_rfl)) fun s=>givesV (kno_run s)⟩
def mdS:Sx->Option Md
 | .gr=>some .ro
 | .li=>some .rl
 | .mi=>some .rm
 | _=>none
noncomputable def ariE (cm:W6->W6->Int):Env:=envD eqsT [(86,fn2 c6.agg c6.agg (kInt .i64) cm),(60,fn1 kSx kBool knS),(87,fn1 kSx c6.agg ordX)] [] [(115,layP kMd 163 cFa 0 modS)] [] [] false []
theorem ariE_ok:EnvOk PR (ariE cmpX):=envD_ok eqsT_ok (TabPOk.cons cmp_ok (TabPOk.cons kno_ok (TabPOk.cons ord_ok TabPOk.nil))) TabHOk.nil (TabLOk.cons nw_ent newS_okL TabLOk.nil) TabDOk.nil
noncomputable def ariG (ds:List Bool) (cm:W6->W6->Int):List AV->AH->Nat->Option (Bool × AV × AH):=deepP ds PR (ariE cm) [23] 30 79 4096 true
theorem ari_ent:Enters PR 79:=entersB (by kernel_rfl)
theorem ari_ok (ds:List Bool):ActOk PR 4096 79 (ariG ds cmpX):=deepP_ok (ctxB ariE_ok mixed (by kernel_rfl))
structure AQ where
 cm:W6->W6->Int
 ad:Mo->W6->W6->W6
 sb:Mo->W6->W6->W6
 ml:Mo->W6->W6->W6
noncomputable def cloE (f:Nat) (op:Mo->W6->W6->W6):Env:=envD eqsT [] [(f,rdp 163 cFa (mc2 c6.agg c6.agg) c6.agg (fun m x=>op m x.1 x.2))] [] [] [] false [f]
noncomputable def doG (t:AQ):List AV->AH->Nat->Option (Bool × AV × AH):=deepP [] PR (envD eqsT [] [] []
 [(79,ariG [false,false] t.cm),(70,deepG PR (cloE 71 t.ad) [] 20 70 4096 true),(77,deepG PR (cloE 78 t.sb) [] 20 77 4096 true),(81,deepG PR (cloE 82 t.ml) [] 20 81 4096 true)]
 [] false [79,70,77,81]) [] 30 67 4096 true
noncomputable def sopE (t:AQ):Env:=envD eqsT [] [] [] [(67,doG t)] [] false [67]
def tt (b:Bool):Bool:=bif b then true else false
theorem tt_eq (b:Bool):tt b=b:=by cases b <;> rfl
noncomputable def nlt (t:AQ) (s:Sx) (a:W6) (b:Bool):Bool:=bif decide (t.cm a (ordX s) >= 0) then false else b
set_option maxRecDepth 100000 in
theorem sml_run (t:AQ) (s:Sx) (m:Md) (h:mdS s=some m) (a b:W6):valP [] (afunR PR (sopE t) [13] (fun _=>none) 30 39 [kSx.enc s,c6.agg.enc a,c6.agg.enc b]) =
 some (tt (tt (tt (tt (tt (tt (nlt t s a (nlt t s b true))))))),some (kWE.val (t.ml (modS m) a b,0))):=by
 cases s <;> cases h <;> kernel_rfl
set_option maxRecDepth 100000 in
theorem sad_run (t:AQ) (s:Sx) (m:Md) (h:mdS s=some m) (a b:W6):valP [] (afunR PR (sopE t) [13] (fun _=>none) 30 34 [kSx.enc s,c6.agg.enc a,c6.agg.enc b]) =
 some (tt (tt (tt (tt (tt (tt (nlt t s a (nlt t s b true))))))),some (kWE.val (t.ad (modS m) a b,0))):=by
 cases s <;> cases h <;> kernel_rfl
end Go.Rq.Cl

namespace Go.Rq.Sm
open Go Go.Proofs Go.Rq
theorem eqWk_iff (v w:W6) (b:Bool):eqWk v w b=true ↔ v=w /\ b=true:=by
 obtain ⟨v0,v1,v2,v3,v4,v5⟩:=v
 obtain ⟨w0,w1,w2,w3,w4,w5⟩:=w
 simp only [eqWk,Bool.and_eq_true,beq_iff_eq,W6.mk.injEq]
 constructor
 . rintro ⟨h0,h1,h2,h3,h4,h5,h⟩;exact ⟨⟨h0,h1,h2,h3,h4,h5⟩,h⟩
 . rintro ⟨⟨h0,h1,h2,h3,h4,h5⟩,h⟩;exact ⟨h0,h1,h2,h3,h4,h5,h⟩
theorem eqKz_iff (a b:Kz):eqKz a b=true ↔ a=b:=by
 obtain ⟨s,⟨x,y,z⟩,u,v,w⟩:=a
 obtain ⟨s',⟨x',y',z'⟩,u',v',w'⟩:=b
 simp only [eqKz,Bool.and_eq_true,eqWk_iff,beq_iff_eq,Prod.mk.injEq,and_true]
 constructor
 . rintro ⟨h0,h1,h2,h3,h4,h5,h6⟩;exact ⟨h0,⟨h1,h2,h3⟩,h4,h5,h6⟩
 . rintro ⟨h0,⟨h1,h2,h3⟩,h4,h5,h6⟩;exact ⟨h0,h1,h2,h3,h4,h5,h6⟩
structure Cy (K:Kz->Bool) (O:Int->W6 × Int) (C:W6->W6->Int) (M:ZM) (A:ZZ) (N:Kz->Kz × Int) (s:Int) (r:Nat) (φ:Nat->Kz):Prop where
 chk:∀ n,K (φ n)=true
 sui:∀ n,(φ n).1=s
 cmp:∀ x:W6,x.val < r->decide (C x (O s).1 >= 0)=false
 mul:∀ (n:Nat) (x:W6),x.val < r->M (φ n) x=(φ (n*x.val),0)
 add:∀ m n,A (φ m) (φ n)=(φ (m+n),0)
 neg:∀ n,∃ k,N (φ n)=(φ k,0) /\ (n+k) % r=0
 inj:∀ m n,φ m=φ n ↔ m % r=n % r
section
variable {K:Kz->Bool} {O:Int->W6 × Int} {C:W6->W6->Int} {M:ZM} {A:ZZ} {N:Kz->Kz × Int} {s:Int} {r:Nat} {φ:Nat->Kz}
end
end Go.Rq.Sm

namespace Go.Rq.Sm
open Go Go.Proofs Go.Rq
set_option synthInstance.maxSize 100000
theorem cyc_inj {P:Type} {ν:Nat->P} {S:P->P->P} {Z:P->Bool} {r:Nat} (hr:0 < r) (hS:∀ m n,S (ν m) (ν n)=ν (m+n)) (hZ:∀ n,Z (ν n)=decide (n % r=0)) (hm:∀ n,ν n=ν (n % r)) (m n:Nat):ν m=ν n ↔ m % r=n % r:=by
 constructor
 . intro e
   have e1:Z (S (ν m) (ν (n*(r - 1))))=Z (S (ν n) (ν (n*(r - 1)))):=by rw [e]
   have e2:(n+n*(r - 1)) % r=0:=by
    have:n+n*(r - 1)=n*r:=by
     obtain ⟨q,rfl⟩:∃ q,r=q+1:=⟨r - 1,by omega⟩
     rw [Nat.add_sub_cancel,Nat.mul_succ,Nat.add_comm]
    rw [this,Nat.mul_mod_left]
   rw [hS,hS,hZ,hZ,e2] at e1
   have e3:(m+n*(r - 1)) % r=0:=by simpa using e1
   have h1:(m+(n+n*(r - 1))) % r=m % r:=by rw [Nat.add_mod,e2,Nat.add_zero,Nat.mod_mod]
   have h2:(m+(n+n*(r - 1))) % r=n % r:=by rw [Nat.add_left_comm,Nat.add_mod,e3,Nat.add_zero,Nat.mod_mod]
   rw [<- h1,h2]
 . intro e
   rw [hm m,e,<- hm n]
theorem neg_mod (n:Nat) {r:Nat} (hr:0 < r):(n+n*(r - 1)) % r=0:=by
 have:n+n*(r - 1)=n*r:=by
  obtain ⟨q,rfl⟩:∃ q,r=q+1:=⟨r - 1,by omega⟩
  rw [Nat.add_sub_cancel,Nat.mul_succ,Nat.add_comm]
 rw [this,Nat.mul_mod_left]
def suSx:Su->Sx
 | .lit=>.li
 | .mid=>.mi
def suRn:Su->Nat
 | .lit=>65521
 | .mid=>72057594037927889
theorem suR_nat (s:Su):(suR s).toNat=suRn s:=by cases s <;> rfl
theorem suRn_pos (s:Su):0 < suRn s:=by cases s <;> decide
theorem suRn_lt (s:Su):suRn s < 18446744073709551616:=by cases s <;> decide
theorem pr_suR (s:Su):Pr (suRn s):=by
 cases s
 . exact pr_65521
 . exact pr_72057594037927889
theorem suX_lt (s:Su):(suX s).toNat < suP s:=by cases s <;> decide
theorem suY_lt (s:Su):(suY s).toNat < suP s:=by cases s <;> decide
def genA (s:Su):Ap (Fsu s):=⟨⟨(suX s).toNat,suX_lt s⟩,⟨(suY s).toNat,suY_lt s⟩,false⟩
theorem genA_wp (s:Su):wp (genA s)=(suX s,suY s,false):=by
 unfold wp genA
 rw [<- fw_of,<- fw_of]
theorem gen_on (s:Su):onF s (suX s,suY s,false)=true:=by cases s <;> kernel_rfl
theorem gen_in (s:Su):inF s (suX s,suY s,false)=true:=by cases s <;> kernel_rfl
theorem genA_pt (s:Su):Cw.Pt (genA s):=by
 obtain ⟨A,h1,h2⟩:=on_iff.1 (gen_on s)
 rw [<- genA_wp] at h1
 rw [wp_inj h1]
 exact h2
abbrev nu (s:Su) (n:Nat):Ap (Fsu s):=Cw.nsm ivF eqF (genA s) n
theorem nu_pt (s:Su) (n:Nat):Cw.Pt (nu s n):=Cw.nsm_pt (fdS s) (genA_pt s) n
theorem gen_order (s:Su):nu s (suRn s)=⟨0,0,true⟩:=by
 have h:=gen_in s
 unfold inF at h
 rw [gen_on,cond_true,<- genA_wp,lTimes_wp (genA_pt s),suR_nat] at h
 exact (nu_pt s (suRn s)).z h
theorem nu_add (s:Su) (m n:Nat):Cw.sumW ivF eqF (nu s m) (nu s n)=nu s (m+n):=(Cw.nsm_add (fdS s) (genA_pt s) m n).symm
theorem nu_mul (s:Su) (m n:Nat):Cw.nsm ivF eqF (nu s m) n=nu s (m*n):=(Cw.nsm_mul (fdS s) (genA_pt s) m n).symm
theorem nu_mod (s:Su) (n:Nat):nu s n=nu s (n % suRn s):=Cw.nsm_mod (fdS s) (genA_pt s) (gen_order s) n
theorem nu_zero (s:Su) (n:Nat):(nu s n).zero=decide (n % suRn s=0):=Cw.nsm_none (fdS s) (genA_pt s) (pr_suR s) (gen_order s) rfl n
theorem nu_none (s:Su) {n:Nat} (h:n % suRn s=0):nu s n=⟨0,0,true⟩:=(nu_pt s n).z (by rw [nu_zero,h];rfl)
theorem nu_inj (s:Su) (m n:Nat):nu s m=nu s n ↔ m % suRn s=n % suRn s :=
 cyc_inj (ν:=nu s) (S:=Cw.sumW ivF eqF) (Z:=fun a=>a.zero) (suRn_pos s) (nu_add s) (nu_zero s) (nu_mod s) m n
theorem nu_neg (s:Su) (n:Nat):negK (nu s n)=nu s (n*(suRn s - 1)):=by
 have h:=Cw.sum_cancel (fdS s) (nu_pt s (n*(suRn s - 1))) (nu_pt s n)
 rw [nu_add,nu_none s (n:=n*(suRn s - 1)+n) (by rw [Nat.add_comm];exact neg_mod n (suRn_pos s))] at h
 exact h
def phS (s:Su) (n:Nat):Kz:=((suSx s).int,zPx,wp (nu s n))
theorem phS_kx (s:Su) (n:Nat):toKx (phS s n)=(suSx s,zPx,wp (nu s n)):=by
 unfold toKx phS
 rw [Sx.of_int]
theorem on_nu (s:Su) (n:Nat):onF s (wp (nu s n))=true:=on_iff.2 ⟨_,rfl,nu_pt s n⟩
theorem in_nu (s:Su) (n:Nat):inF s (wp (nu s n))=true:=by
 unfold inF
 rw [on_nu,cond_true,lTimes_wp (nu_pt s n),suR_nat,nu_mul]
 show (nu s (n*suRn s)).zero=true
 rw [nu_zero,Nat.mul_mod_left];rfl
theorem zPx_is:eqPx zPx=true:=rfl
theorem kch_nu (I:Px->Bool) (s:Su) (n:Nat):kchX I (toKx (phS s n))=true:=by
 rw [phS_kx]
 have h:=in_nu s n
 cases s
 . show (bif eqPx zPx then inF .lit (wp (nu .lit n)) else false)=true
   rw [zPx_is,cond_true,h]
 . show (bif eqPx zPx then inF .mid (wp (nu .mid n)) else false)=true
   rw [zPx_is,cond_true,h]
theorem ofW_val (x:BitVec 64):(ofW x).val=x.toNat:=by
 unfold ofW W6.val
 simp
theorem ordX_val (s:Su):(ordX (suSx s)).val=suRn s:=by
 cases s
 . exact ofW_val 65521#64
 . exact ofW_val 72057594037927889#64
theorem cmpX_ge {x o:W6} (h:x.val < o.val):decide (cmpX x o >= 0)=false:=by
 have:=(cmW_nat x o).2 h
 have e:cmpX x o=cmW x o:=rfl
 rw [e,decide_eq_false_iff_not]
 omega
theorem ky1_nu (I:Px->Bool) (s:Su) (n:Nat) {x:W6} (h:x.val < suRn s):ky1 (kchX I) ordX cmpX x (suSx s,zPx,wp (nu s n))=0:=by
 unfold ky1
 rw [<- phS_kx,kch_nu,phS_kx]
 dsimp only
 rw [cmpX_ge (by rw [ordX_val];exact h)]
 simp
theorem ky2_nu (I:Px->Bool) (s:Su) (m n:Nat):ky2 (kchX I) ordX cmpX zW6 (suSx s,zPx,wp (nu s m)) (suSx s,zPx,wp (nu s n))=0:=by
 unfold ky2
 rw [<- phS_kx,<- phS_kx,kch_nu,kch_nu,phS_kx,phS_kx]
 dsimp only
 rw [cmpX_ge (by rw [ordX_val];exact suRn_pos s)]
 simp
theorem w0_val {x:W6} (h:x.val < 18446744073709551616):x.w0.toNat=x.val:=by
 unfold W6.val at h ⊢
 omega
theorem lneg_wp {s:Su} (A:Ap (Fsu s)):((wp A).1,lSub s 0#64 (wp A).2.1,(wp A).2.2)=wp (negK A):=by
 unfold wp negK
 rw [<- fw_zero (s:=s),lSub_fw]
 have e:(0:Fsu s) - A.y=-A.y:=rg [A.y]
 rw [e]
theorem cy_lit (I:Px->Bool) (A1:Px->Px->Px × Int) (M1:Px->W6->Px × Int) (N1:Px->Px × Int) (s:Su) :
 Cy (fun a=>kchX I (toKx a)) (fun i=>sorF ordX (Sx.of i)) cmpX (kmuX I M1) (kadX I A1) (kneX I N1) (suSx s).int (suRn s) (phS s) where
 chk n:=kch_nu I s n
 sui n:=rfl
 cmp x h:=by
  have e:(sorF ordX (Sx.of (suSx s).int)).1=ordX (suSx s):=by rw [Sx.of_int];cases s <;> rfl
  rw [e]
  exact cmpX_ge (by rw [ordX_val];exact h)
 mul n x h:=by
  unfold kmuX kmuG
  rw [phS_kx,ky1_nu I s n h]
  have e:(lTimes s (wp (nu s n)) x.w0)=wp (nu s (n*x.val)):=by
   rw [lTimes_wp (nu_pt s n),nu_mul,w0_val (Nat.lt_trans h (suRn_lt s))]
  cases s
  . show (((1:Int),zPx,lTimes .lit (wp (nu .lit n)) x.w0),(0:Int))=_
    rw [e];rfl
  . show (((2:Int),zPx,lTimes .mid (wp (nu .mid n)) x.w0),(0:Int))=_
    rw [e];rfl
 add m n:=by
  unfold kadX kadG
  rw [phS_kx,phS_kx,ky2_nu I s m n]
  have e:lSum s (wp (nu s m)) (wp (nu s n))=wp (nu s (m+n)):=by
   rw [lSum_wp (nu_pt s m) (nu_pt s n),nu_add]
  cases s
  . show (((1:Int),zPx,lSum .lit (wp (nu .lit m)) (wp (nu .lit n))),(0:Int))=_
    rw [e];rfl
  . show (((2:Int),zPx,lSum .mid (wp (nu .mid m)) (wp (nu .mid n))),(0:Int))=_
    rw [e];rfl
 neg n:=by
  refine ⟨n*(suRn s - 1),?_,neg_mod n (suRn_pos s)⟩
  unfold kneX kneG
  rw [phS_kx,ky1_nu I s n (x:=zW6) (suRn_pos s)]
  have e:=lneg_wp (nu s n)
  rw [nu_neg] at e
  cases s
  . show (((1:Int),zPx,((wp (nu .lit n)).1,lSub .lit 0#64 (wp (nu .lit n)).2.1,(wp (nu .lit n)).2.2)),(0:Int))=_
    rw [e];rfl
  . show (((2:Int),zPx,((wp (nu .mid n)).1,lSub .mid 0#64 (wp (nu .mid n)).2.1,(wp (nu .mid n)).2.2)),(0:Int))=_
    rw [e];rfl
 inj m n:=by
  rw [<- nu_inj]
  constructor
  . intro h
    have h:wp (nu s m)=wp (nu s n):=(Prod.mk.inj (Prod.mk.inj h).2).2
    exact wp_inj h
  . intro h
    unfold phS;rw [h]
end Go.Rq.Sm

namespace Go.Rq
open Go Go.Proofs
def shl1 (a:W6):W6:=⟨a.w0 <<< 1,a.w1 <<< 1 ||| a.w0 >>> 63,a.w2 <<< 1 ||| a.w1 >>> 63,a.w3 <<< 1 ||| a.w2 >>> 63,a.w4 <<< 1 ||| a.w3 >>> 63,a.w5 <<< 1 ||| a.w4 >>> 63⟩
set_option maxRecDepth 100000 in
theorem shl1_run (a:W6):(afunR PR (envOf eqsT []) [] (fun _=>none) 40 104 [c6.agg.enc a,(kInt .i64).enc 1]).strict=.leaf (c6.agg.enc (shl1 a)):=by kernel_rfl
theorem shl1_ok:CallOk PR 104 (fn2 c6.agg (kAt .i64 1) c6.agg (fun a _=>shl1 a)) :=
 .inl ⟨entersB (by kernel_rfl),pure2 (C:=kAt .i64 1) shift_ctx (fun a _=>leafVal (B:=c6.agg) (y:=shl1 a) (shl1_run a))⟩
theorem nw_ent:Enters PR 115:=entersB (by kernel_rfl)
theorem shl_or (a b:BitVec 64):(a <<< 1 ||| b >>> 63).toNat=2*a.toNat % 18446744073709551616+b.toNat / 9223372036854775808:=by
 have hb:(b >>> 63).toNat=b.toNat / 9223372036854775808:=by rw [BitVec.toNat_ushiftRight,Nat.shiftRight_eq_div_pow]
 have hbl:=b.isLt
 have ha:(a <<< 1).toNat=2*a.toNat % 18446744073709551616:=by
  rw [BitVec.toNat_shiftLeft,Nat.shiftLeft_eq,Nat.mul_comm]
 have hz:(a <<< 1) &&& (b >>> 63)=0#64:=by
  apply BitVec.eq_of_toNat_eq
  rw [BitVec.toNat_and,ha,hb]
  have hc:b.toNat / 9223372036854775808=0 \/ b.toNat / 9223372036854775808=1:=by omega
  rcases hc with h | h
  . rw [h,Nat.and_zero];rfl
  . rw [h,Nat.and_one_is_mod]
    show _=0
    omega
 rw [<- BitVec.add_eq_or_of_and_eq_zero _ _ hz,BitVec.toNat_add,ha,hb]
 apply Nat.mod_eq_of_lt
 omega
theorem shl_sum {a0 a1 a2 a3 a4 a5 m0 m1 m2 m3 m4 m5 c0 c1 c2 c3 c4:Nat} (d0:m0+18446744073709551616*c0=2*a0) (d1:m1+18446744073709551616*c1=2*a1) (d2:m2+18446744073709551616*c2=2*a2) (d3:m3+18446744073709551616*c3=2*a3) (d4:m4+18446744073709551616*c4=2*a4) (d5:m5+18446744073709551616*0=2*a5) :
 m0+18446744073709551616*(m1+c0)+340282366920938463463374607431768211456*(m2+c1)+6277101735386680763835789423207666416102355444464034512896*(m3+c2)+115792089237316195423570985008687907853269984665640564039457584007913129639936*(m4+c3)+2135987035920910082395021706169552114602704522356652769947041607822219725780640550022962086936576*(m5+c4) =
 2*(a0+18446744073709551616*a1+340282366920938463463374607431768211456*a2+6277101735386680763835789423207666416102355444464034512896*a3+115792089237316195423570985008687907853269984665640564039457584007913129639936*a4+2135987035920910082395021706169552114602704522356652769947041607822219725780640550022962086936576*a5):=by
 omega
theorem top_zero {a0 a1 a2 a3 a4 a5:Nat} (h:a0+18446744073709551616*a1+340282366920938463463374607431768211456*a2+6277101735386680763835789423207666416102355444464034512896*a3+115792089237316195423570985008687907853269984665640564039457584007913129639936*a4+2135987035920910082395021706169552114602704522356652769947041607822219725780640550022962086936576*a5 < 52435875175126190479447740508185965837690552500527637822603658699938581184513):a5=0:=by
 omega
theorem dbl_parts (v:Nat):2*v % 18446744073709551616+18446744073709551616*(v / 9223372036854775808)=2*v:=by omega
theorem shl1_words (x:W6):(shl1 x).val=(2*x.w0.toNat % 18446744073709551616)+18446744073709551616*(2*x.w1.toNat % 18446744073709551616+x.w0.toNat / 9223372036854775808)+340282366920938463463374607431768211456*(2*x.w2.toNat % 18446744073709551616+x.w1.toNat / 9223372036854775808) +
 6277101735386680763835789423207666416102355444464034512896*(2*x.w3.toNat % 18446744073709551616+x.w2.toNat / 9223372036854775808)+115792089237316195423570985008687907853269984665640564039457584007913129639936*(2*x.w4.toNat % 18446744073709551616+x.w3.toNat / 9223372036854775808) +
 2135987035920910082395021706169552114602704522356652769947041607822219725780640550022962086936576*(2*x.w5.toNat % 18446744073709551616+x.w4.toNat / 9223372036854775808):=by
 have h0:(x.w0 <<< 1).toNat=2*x.w0.toNat % 18446744073709551616:=by rw [BitVec.toNat_shiftLeft,Nat.shiftLeft_eq,Nat.mul_comm]
 rw [<- h0,<- shl_or,<- shl_or,<- shl_or,<- shl_or,<- shl_or]
 rfl
theorem shl1_nat (x:W6) (h:x.val < 52435875175126190479447740508185965837690552500527637822603658699938581184513):(shl1 x).val=2*x.val:=by
 have top:x.w5.toNat=0:=top_zero h
 have d5:2*x.w5.toNat % 18446744073709551616+18446744073709551616*0=2*x.w5.toNat:=by rw [top]
 rw [shl1_words]
 exact shl_sum (dbl_parts x.w0.toNat) (dbl_parts x.w1.toNat) (dbl_parts x.w2.toNat) (dbl_parts x.w3.toNat) (dbl_parts x.w4.toNat) d5
end Go.Rq

namespace Go.Rq
open Go Go.Proofs
set_option maxRecDepth 100000
end Go.Rq

namespace Go.Rq
open Go Go.Proofs
structure GP (K:Type) where
 ck:Ap K->Bool
 ad:Ap K->Ap K->Ap K × Int
 ne:Ap K->Ap K × Int
def zeroP1:Ap W6:=⟨zeroW,zeroW,true⟩
structure GPOk {K:Type} (eqP:Ap K->Ap K->Bool) (zp:Ap K) (t:GP K):Prop where
 refl:∀ p,eqP p p=true
 ad:∀ p q,t.ck p=true->t.ck q=true->(t.ad p q).2=0 /\ t.ck (t.ad p q).1=true
 ne:∀ p,t.ck p=true->(t.ne p).2=0 /\ t.ck (t.ne p).1=true
 zc:t.ck zp=true
 comm:∀ p q,t.ck p=true->t.ck q=true->(t.ad p q).1=(t.ad q p).1
 assoc:∀ p q r,t.ck p=true->t.ck q=true->t.ck r=true->(t.ad (t.ad p q).1 r).1=(t.ad p (t.ad q r).1).1
 neg:∀ p,t.ck p=true->(t.ad p (t.ne p).1).1=zp
 zero:∀ p,t.ck p=true->(t.ad p zp).1=p
section
variable {K:Type} [Rg K] {iv:K->K} {e:K->K->Bool} {R:K->D6->Prop} {t:RO}
end
section
variable {K:Type} [Rg K] {iv:K->K} {e:K->K->Bool} {M P:K->D6->Prop} {f:Fl K}
end
section
variable {K:Type} [Rg K] {iv:K->K} {e:K->K->Bool} {R:K->W6->Prop} {t:RO}
end
section
variable {K V:Type} [Rg K] {iv:K->K} {e:K->K->Bool} {F:Fd K iv e} {b:K}
theorem pt_on (F:Fd K iv e) {f:Fl K} {A:Ap K} (h:Pt f.b A):onE (foK iv) e f A=true:=by
 unfold onE
 cases h with
 | zero =>
  show (bif e (0:K) 0 then e (0:K) 0 else false)=true
  rw [F.refl];rfl
 | of h =>
  rename_i x y
  show e (y*y) (x*x*x+f.b)=true
  exact F.eq.2 h
theorem on_pt (F:Fd K iv e) {f:Fl K} {A:Ap K} (h:onE (foK iv) e f A=true):Pt f.b A:=by
 cases hz:A.zero with
 | true=>rw [on_none F h hz];exact .zero
 | false =>
  unfold onE at h
  rw [hz,cond_false] at h
  have h:=F.eq.1 h
  obtain ⟨x,y,z⟩:=A
  simp only at hz
  subst hz
  exact .of h
structure Br (F:Fd K iv e) (b:K) (R:Ap K->Ap V->Prop) (eqP:Ap V->Ap V->Bool) (zp:Ap V) (t:GP V):Prop where
 pt:∀ {p:Ap V},t.ck p=true->∃ A,R A p /\ Pt b A
 ck:∀ {A:Ap K} {p:Ap V},R A p->Pt b A->t.ck p=true
 ad:∀ {A B:Ap K} {p q:Ap V},R A p->R B q->Pt b A->Pt b B->(t.ad p q).2=0 /\ R (sumA iv e A B) (t.ad p q).1
 ne:∀ {A:Ap K} {p:Ap V},R A p->Pt b A->(t.ne p).2=0 /\ R (negK A) (t.ne p).1
 zp:R ⟨0,0,true⟩ zp
 inj:∀ {A:Ap K} {p q:Ap V},R A p->R A q->p=q
 refl:∀ p,eqP p p=true
theorem Br.gp {R:Ap K->Ap V->Prop} {eqP:Ap V->Ap V->Bool} {zp:Ap V} {t:GP V} (h:Br F b R eqP zp t) (C:Cv F b):GPOk eqP zp t where
 refl:=h.refl
 ad p q hp hq:=by
  obtain ⟨A,a1,a2⟩:=h.pt hp
  obtain ⟨B,b1,b2⟩:=h.pt hq
  obtain ⟨k1,k2⟩:=h.ad a1 b1 a2 b2
  exact ⟨k1,h.ck k2 (sum_pt F a2 b2)⟩
 ne p hp:=by
  obtain ⟨A,a1,a2⟩:=h.pt hp
  obtain ⟨k1,k2⟩:=h.ne a1 a2
  exact ⟨k1,h.ck k2 (neg_pt a2)⟩
 zc:=h.ck h.zp .zero
 comm p q hp hq:=by
  obtain ⟨A,a1,a2⟩:=h.pt hp
  obtain ⟨B,b1,b2⟩:=h.pt hq
  have k:=(h.ad b1 a1 b2 a2).2
  rw [sum_comm F b2 a2] at k
  exact h.inj (h.ad a1 b1 a2 b2).2 k
 assoc p q r hp hq hr:=by
  obtain ⟨A,a1,a2⟩:=h.pt hp
  obtain ⟨B,b1,b2⟩:=h.pt hq
  obtain ⟨D,d1,d2⟩:=h.pt hr
  have k1:=(h.ad (h.ad a1 b1 a2 b2).2 d1 (sum_pt F a2 b2) d2).2
  have k2:=(h.ad a1 (h.ad b1 d1 b2 d2).2 a2 (sum_pt F b2 d2)).2
  rw [sum_assoc F C a2 b2 d2] at k1
  exact h.inj k1 k2
 neg p hp:=by
  obtain ⟨A,a1,a2⟩:=h.pt hp
  have k:=(h.ad a1 (h.ne a1 a2).2 a2 (neg_pt a2)).2
  rw [sum_neg F a2] at k
  exact h.inj k h.zp
 zero p hp:=by
  obtain ⟨A,a1,a2⟩:=h.pt hp
  have k:=(h.ad a1 h.zp a2 .zero).2
  rw [a2.add0] at k
  exact h.inj k a1
end
def gpO1:GP W6:=⟨checkP1,addP1,negP1⟩
section
variable {K:Type} [Rg K] {iv:K->K} {e:K->K->Bool} {M P:K->W6->Prop} {f:Fl K}
theorem Lk.ckPt (L:Lk iv e M P f) (hlt:∀ {x:K} {w:W6},P x w->w.val < pN) {A:Ap K} {p:Ap W6} (h:RA P A p) (hA:Pt f.b A):checkP1 p=true:=by
 have hb:belowP1 p=true:=by
  unfold belowP1
  rw [belowI_nat,belowI_nat,decide_eq_true (hlt h.x),decide_eq_true (hlt h.y)]
  rfl
 unfold checkP1
 rw [hb,cond_true,<- on_rel L.rel L.fl (L.inn h)]
 exact pt_on L.F hA
theorem Lk.br (L:Lk iv e M P f) (hlt:∀ {x:K} {w:W6},P x w->w.val < pN):Br L.F f.b (RA P) eqP13 zeroP1 gpO1 where
 pt:=fun {p} h=>by
  have h':rcheck1 p=true:=by rw [<- L.check];exact h
  obtain ⟨-,A,hP,hon⟩:=L.point h'
  exact ⟨A,hP,on_pt L.F hon⟩
 ck h hA:=L.ckPt hlt h hA
 ad:=fun {A B p q} ha hb a2 b2=>by
  have c1:rcheck1 p=true:=by rw [<- L.check];exact L.ckPt hlt ha a2
  have c2:rcheck1 q=true:=by rw [<- L.check];exact L.ckPt hlt hb b2
  have h4:RA P (sumA iv e A B) (radd1 p q):=radd_rel L.ref ha hb
  have h5:addP1 p q=(radd1 p q,0):=by rw [L.add,c1,c2];rfl
  show (addP1 p q).2=0 /\ RA P (sumA iv e A B) (addP1 p q).1
  rw [h5]
  exact ⟨rfl,h4⟩
 ne:=fun {A p} ha a2=>by
  have c1:rcheck1 p=true:=by rw [<- L.check];exact L.ckPt hlt ha a2
  have h4:=rneg_rel L.ref ha
  have h5:negP1 p=(rneg1G roO p,0):=by rw [L.neg,c1];rfl
  show (negP1 p).2=0 /\ RA P (negK A) (negP1 p).1
  rw [h5]
  exact ⟨rfl,h4⟩
 zp:=⟨L.ref.zero,L.ref.zero,rfl⟩
 inj h k:=ra_inj L.ref h k
 refl p:=(eqP13_iff p p).2 rfl
end
section
variable {K:Type} [Rg K] {iv:K->K} {e:K->K->Bool} {M P:K->D6->Prop} {f:Fl K}
end
theorem four_rv {b:F1} (hb:RP b (ofW 4#64)):RV (p:=pN) b 4:=⟨by rw [<- hb.eq];exact four_val.symm⟩
theorem link1c:∃ b:F1,Lk iv1 eq1 RM RP ⟨1,b⟩ /\ Cv fd1 b:=by
 obtain ⟨b,hb⟩:=rp_of four_lt
 exact ⟨b,⟨fd1,relM,rm_one,rm_zero,rm_to,rp_from,rp_of,rrel1,rfl,hb⟩,cv1 (four_rv hb)⟩
section
variable {K:Type} [Rg K] {iv:K->K} {e:K->K->Bool}
theorem ga1_nsm (F:Fd K iv e) {f:Fl K} (C:Cv F f.b) (hf:f.one=1) {A:Ap K} (hA:Pt f.b A) (n:W6):ga1 (gaF iv e) 0 f A n=(nsm iv e A n.val,0):=by
 have h:ga1 (gaF iv e) 0 f A n=bif onE (foK iv) e f A then (lowerE (foK iv) e (sumE (foK iv) e f ⟨f.one,f.one,0⟩ (timesF iv e f (raiseJ (foK iv) f A) n)),0) else (⟨0,0,false⟩,5):=rfl
 have h0:Jr (⟨f.one,f.one,0⟩:Jp K) (nsm iv e A 0):=.none rfl
 have h1:=jr_run F C f n.bit (jr_raise F hf hA) hA (lenI n).toNat 0 h0
 rw [bitsV_val n (fun i hi=>len_bits n hi),Nat.zero_mul,Nat.zero_add] at h1
 rw [h,pt_on F hA,cond_true,sum_none F f rfl]
 unfold timesF
 rw [times_run,jr_low F h1]
end
section
variable {K:Type} [Rg K] {iv:K->K} {e:K->K->Bool} {M P:K->W6->Prop} {f:Fl K}
theorem Lk.nsm (L:Lk iv e M P f) (hlt:∀ {x:K} {w:W6},P x w->w.val < pN) (C:Cv L.F f.b) {A:Ap K} {p:Ap W6} (hP:RA P A p) (hA:Pt f.b A) (n:W6):(sumP1W p n).2=0 /\ RA P (Go.Rq.nsm iv e A n.val) (sumP1W p n).1:=by
 have hc:rcheck1 p=true:=by rw [<- L.check];exact L.ckPt hlt hP hA
 obtain ⟨h1,h2⟩:=ga1_rel L.ga L.m0 L.fl (L.inn hP) n
 rw [ga1_nsm L.F C L.f1 hA n] at h1 h2
 rw [sum1_def,(L.point hc).1,cond_true]
 exact ⟨h2.symm,L.out h1⟩
end
section
variable {K:Type} [Rg K] {iv:K->K} {e:K->K->Bool} {M P:K->D6->Prop} {f:Fl K}
end
section
variable {K V:Type} [Rg K] {iv:K->K} {e:K->K->Bool} {F:Fd K iv e} {b:K}
end
section
variable {K:Type} [Rg K] {iv:K->K} {e:K->K->Bool} {M P:K->W6->Prop} {f:Fl K}
theorem Lk.ingN (L:Lk iv e M P f) (hlt:∀ {x:K} {w:W6},P x w->w.val < pN) (C:Cv L.F f.b) {A:Ap K} {p:Ap W6} (hP:RA P A p) (hA:Pt f.b A):inGroup1 p=(Go.Rq.nsm iv e A rN).zero:=by
 have hc:rcheck1 p=true:=by rw [<- L.check];exact L.ckPt hlt hP hA
 have h1:=(L.nsm hlt C hP hA orderW).2
 rw [order_val,L.mul,hc,cond_true] at h1
 rw [L.ing,hc,cond_true,rin1_def,hc,cond_true,<- h1.z]
theorem Lk.gen (L:Lk iv e M P f) (hlt:∀ {x:K} {w:W6},P x w->w.val < pN) (C:Cv L.F f.b):∃ G:Ap K,RA P G gen1P /\ Pt f.b G /\ G.zero=false /\ Go.Rq.nsm iv e G rN=⟨0,0,true⟩:=by
 have hc:rcheck1 gen1P=true:=by rw [<- L.check];exact check_gen
 obtain ⟨-,G,hG,hon⟩:=L.point hc
 have hP:=on_pt L.F hon
 have h1:=(L.nsm hlt C hG hP orderW).2
 rw [mul_order,order_val] at h1
 exact ⟨G,hG,hP,hG.z,(nsm_pt L.F hP rN).z h1.z⟩
end
section
variable {K:Type} [Rg K] {iv:K->K} {e:K->K->Bool} {M P:K->D6->Prop} {f:Fl K}
end
end Go.Rq

namespace Go.Rq.Sm
open Go Go.Proofs Go.Rq
def toAp (p:Px):Ap W6:=⟨p.1,p.2.1,p.2.2⟩
def ofAp (a:Ap W6):Px:=(a.x,a.y,a.zero)
def ofE (y:Ap W6 × Int):Px × Int:=(ofAp y.1,y.2)
theorem toAp_ofAp (a:Ap W6):toAp (ofAp a)=a:=rfl
theorem decA (a:AV):aW.agg.dec a=(cPx.agg.dec a).map toAp:=by
 simp only [CC.agg]
 cases aggOf a with
 | none=>rfl
 | some l =>
  show (cAp c6).dec l=_
  unfold cAp cPx CC.iso
  dsimp only
  cases (CC.prod c6 (CC.prod c6 cBool)).dec l <;> rfl
theorem fnA1 {β β':Type} {B:Cod β} {B':Cod β'} {F:Ap W6->β} {ψ:β->β'} (hB:∀ y,B.enc y=B'.enc (ψ y)):fn1 aW.agg B F=fn1 cPx.agg B' (fun a=>ψ (F (toAp a))):=by
 funext args
 unfold fn1
 split
 . rename_i a
   rw [decA]
   cases cPx.agg.dec a with
   | none=>rfl
   | some x=>simp only [Option.map,hB]
 . rfl
theorem fnA1c {γ β β':Type} {D:Cod γ} {B:Cod β} {B':Cod β'} {F:Ap W6->γ->β} {ψ:β->β'} (hB:∀ y,B.enc y=B'.enc (ψ y)):fn2 aW.agg D B F=fn2 cPx.agg D B' (fun a d=>ψ (F (toAp a) d)):=by
 funext args
 unfold fn2
 split
 . rename_i a d
   rw [decA]
   cases cPx.agg.dec a with
   | none=>rfl
   | some x=>cases D.dec d <;> simp only [Option.map,hB]
 . rfl
theorem fnA2 {β β':Type} {B:Cod β} {B':Cod β'} {F:Ap W6->Ap W6->β} {ψ:β->β'} (hB:∀ y,B.enc y=B'.enc (ψ y)):fn2 aW.agg aW.agg B F=fn2 cPx.agg cPx.agg B' (fun a b=>ψ (F (toAp a) (toAp b))):=by
 funext args
 unfold fn2
 split
 . rename_i a b
   rw [decA,decA]
   cases cPx.agg.dec a with
   | none=>rfl
   | some x=>cases cPx.agg.dec b <;> simp only [Option.map,hB]
 . rfl
theorem kPW_enc (y:Ap W6 × Int):kPW.enc y=kPE.enc (ofE y):=rfl
theorem in_to {I:Ap W6->Bool} (h:CallOk PR 90 (fn1 aW.agg kBool I)):CallOk PR 90 (fn1 cPx.agg kBool (fun p=>I (toAp p))):=by
 rw [fnA1 (B':=kBool) (ψ:=fun b=>b) fun y=>rfl] at h
 exact h
theorem ad_to {A:Ap W6->Ap W6->Ap W6 × Int} (h:CallOk PR 75 (fn2 aW.agg aW.agg kPW A)):CallOk PR 75 (fn2 cPx.agg cPx.agg kPE (fun p q=>ofE (A (toAp p) (toAp q)))):=by
 rw [fnA2 (B':=kPE) (ψ:=ofE) kPW_enc] at h
 exact h
theorem mu_to {M:Ap W6->W6->Ap W6 × Int} (h:CallOk PR 73 (fn2 aW.agg c6.agg kPW M)):CallOk PR 73 (fn2 cPx.agg c6.agg kPE (fun p n=>ofE (M (toAp p) n))):=by
 rw [fnA1c (B':=kPE) (ψ:=ofE) kPW_enc] at h
 exact h
structure GrOk (I:Ap W6->Bool) (A:Ap W6->Ap W6->Ap W6 × Int) (M:Ap W6->W6->Ap W6 × Int) (N:Ap W6->Ap W6 × Int) (g:Ap W6) (ν:Nat->Ap W6):Prop where
 chk:∀ n,I (ν n)=true
 add:∀ m n,(A (ν m) (ν n)).1=ν (m+n)
 mul:∀ (n:Nat) (x:W6),(M (ν n) x).1=ν (n*x.val)
 neg:∀ n,(N (ν n)).1=ν (n*(rN - 1))
 inj:∀ m n,ν m=ν n ↔ m % rN=n % rN
 gen:ν 1=g
theorem rN_pos:0 < rN:=by unfold rN;decide
section
variable {K:Type} [Rg K] {iv:K->K} {e:K->K->Bool} {M P:K->W6->Prop} {f:Fl K}
theorem gr_of (L:Lk iv e M P f) (hlt:∀ {x:K} {w:W6},P x w->w.val < pN) (C:Cv L.F f.b):∃ ν:Nat->Ap W6,GrOk inGroup1 addP1 sumP1W negP1 gen1P ν:=by
 obtain ⟨G,g1,g2,g3,g4⟩:=L.gen hlt C
 have B:=L.br hlt
 have pt:∀ n,Go.Rq.Pt f.b (Go.Rq.nsm iv e G n):=fun n=>nsm_pt L.F g2 n
 have ex:∀ n,∃ p:Ap W6,RA P (Go.Rq.nsm iv e G n) p:=by
  intro n
  induction n with
  | zero=>exact ⟨_,B.zp⟩
  | succ n ih =>
   obtain ⟨p,hp⟩:=ih
   exact ⟨_,(B.ad hp g1 (pt n) g2).2⟩
 obtain ⟨ν,hν⟩:∃ ν:Nat->Ap W6,∀ n,RA P (Go.Rq.nsm iv e G n) (ν n):=⟨fun n=>Classical.choose (ex n),fun n=>Classical.choose_spec (ex n)⟩
 have hadd:∀ m n,(addP1 (ν m) (ν n)).1=ν (m+n):=fun m n=>by
  have h:=(B.ad (hν m) (hν n) (pt m) (pt n)).2
  rw [<- nsm_add L.F C g2] at h
  exact B.inj h (hν (m+n))
 refine ⟨ν,fun n=>?_,hadd,fun n x=>?_,fun n=>?_,?_,?_⟩
 . rw [L.ingN hlt C (hν n) (pt n),<- nsm_mul L.F C g2,Nat.mul_comm,nsm_mul L.F C g2,g4,nsm_zero]
 . have h:=(L.nsm hlt C (hν n) (pt n) x).2
   rw [<- nsm_mul L.F C g2] at h
   exact B.inj h (hν (n*x.val))
 . have h:=(B.ne (hν n) (pt n)).2
   have hc:=sum_cancel L.F C (pt (n*(rN - 1))) (pt n)
   rw [<- nsm_add L.F C g2,nsm_mod L.F C g2 g4,Nat.add_comm,neg_mod n rN_pos] at hc
   have h0:sumA iv e (Go.Rq.nsm iv e G 0) (negK (Go.Rq.nsm iv e G n))=negK (Go.Rq.nsm iv e G n):=rfl
   rw [h0] at hc
   rw [hc] at h
   exact B.inj h (hν (n*(rN - 1)))
 . exact cyc_inj (ν:=ν) (S:=fun p q=>(addP1 p q).1) (Z:=fun p=>p.zero) rN_pos hadd
    (fun n=>by
     show (ν n).zero=_
     rw [<- (hν n).z,nsm_none L.F C g2 pr_r g4 g3])
    (fun n=>by
     have h:=hν n
     rw [nsm_mod L.F C g2 g4] at h
     exact B.inj h (hν (n % rN)))
 . have h:=hν 1
   rw [nsm_one] at h
   exact B.inj h g1
end
theorem gr_ex:∃ ν:Nat->Ap W6,GrOk inGroup1 addP1 sumP1W negP1 gen1P ν:=by
 obtain ⟨b,L,C⟩:=link1c
 exact gr_of L rp_lt C
def phG (ν:Nat->Ap W6) (n:Nat):Kz:=(0,ofAp (ν n),zLx)
section
variable {I:Ap W6->Bool} {A:Ap W6->Ap W6->Ap W6 × Int} {M:Ap W6->W6->Ap W6 × Int} {N:Ap W6->Ap W6 × Int} {g:Ap W6} {ν:Nat->Ap W6}
theorem rWx_val:rWx.val=rN:=by decide +kernel
theorem zLx_is:eqLz zLx=true:=rfl
theorem kch_gr (h:GrOk I A M N g ν) (n:Nat):kchX (fun p=>I (toAp p)) (toKx (phG ν n))=true:=by
 show (bif eqLz zLx then I (toAp (ofAp (ν n))) else false)=true
 rw [zLx_is,cond_true,toAp_ofAp,h.chk]
theorem ky1_gr (h:GrOk I A M N g ν) (n:Nat) {x:W6} (hx:x.val < rN):ky1 (kchX (fun p=>I (toAp p))) ordX cmpX x (toKx (phG ν n))=0:=by
 unfold ky1
 rw [kch_gr h]
 have e:ordX (toKx (phG ν n)).1=rWx:=rfl
 rw [e,cmpX_ge (by rw [rWx_val];exact hx)]
 simp
theorem ky2_gr (h:GrOk I A M N g ν) (m n:Nat):ky2 (kchX (fun p=>I (toAp p))) ordX cmpX zW6 (toKx (phG ν m)) (toKx (phG ν n))=0:=by
 unfold ky2
 rw [kch_gr h,kch_gr h]
 have e:ordX (toKx (phG ν m)).1=rWx:=rfl
 have e2:(toKx (phG ν m)).1.int=(toKx (phG ν n)).1.int:=rfl
 rw [e,cmpX_ge (by rw [rWx_val];exact rN_pos),e2]
 simp
theorem cy_gr (h:GrOk I A M N g ν) :
 Cy (fun a=>kchX (fun p=>I (toAp p)) (toKx a)) (fun i=>sorF ordX (Sx.of i)) cmpX (kmuX (fun p=>I (toAp p)) (fun p n=>ofE (M (toAp p) n))) (kadX (fun p=>I (toAp p)) (fun p q=>ofE (A (toAp p) (toAp q))))
  (kneX (fun p=>I (toAp p)) (fun p=>ofE (N (toAp p)))) 0 rN (phG ν) where
 chk n:=kch_gr h n
 sui n:=rfl
 cmp x hx:=by
  have e:(sorF ordX (Sx.of 0)).1=rWx:=rfl
  rw [e]
  exact cmpX_ge (by rw [rWx_val];exact hx)
 mul n x hx:=by
  unfold kmuX kmuG
  rw [ky1_gr h n hx]
  show (((0:Int),ofAp (M (toAp (ofAp (ν n))) x).1,zLx),(0:Int))=_
  rw [toAp_ofAp,h.mul]
  rfl
 add m n:=by
  unfold kadX kadG
  rw [ky2_gr h m n]
  show (((0:Int),ofAp (A (toAp (ofAp (ν m))) (toAp (ofAp (ν n)))).1,zLx),(0:Int))=_
  rw [toAp_ofAp,toAp_ofAp,h.add]
  rfl
 neg n:=by
  refine ⟨n*(rN - 1),?_,neg_mod n rN_pos⟩
  unfold kneX kneG
  rw [ky1_gr h n (x:=zW6) rN_pos]
  show (((0:Int),ofAp (N (toAp (ofAp (ν n)))).1,zLx),(0:Int))=_
  rw [toAp_ofAp,h.neg]
  rfl
 inj m n:=by
  rw [<- h.inj]
  constructor
  . intro hh
    have hh:ofAp (ν m)=ofAp (ν n):=(Prod.mk.inj (Prod.mk.inj hh).2).1
    rw [<- toAp_ofAp (ν m),hh,toAp_ofAp]
  . intro hh
    unfold phG;rw [hh]
end
end Go.Rq.Sm

namespace Go.Rq
open Go Go.Proofs
def envX (eqs:List (TypeId × List Nat)) (ps:PureTab):Env:=⟨lookP ps,fun _=>none,lookE eqs,true,true,[],[],fun _=>none,none,fun _=>none,false,[],2⟩
theorem envX_ok {P:Program} {eqs:List (TypeId × List Nat)} {ps:PureTab} (he:EqsOk P eqs) (hp:TabPOk P ps):EnvOk P (envX eqs ps) :=
 ⟨fun _ _ h=>he _ (lookE_mem h),fun _ _ h=>hp _ (lookP_mem h),fun _ _ h=>by simp [envX] at h,fun _ _ h=>by simp [envX] at h,fun _ _ h=>by simp [envX] at h,by show 1 <= 2;omega⟩
structure DV where
 ln:W6->Int
 bt:W6->Int->Int
 sh:W6->W6
 cm:W6->W6->Int
 su:W6->W6->W6 × Bool
def dvT (t:DV):PureTab:=[(103,fn1 c6.agg (kInt .i64) t.ln),(105,fn2 c6.agg (kInt .i64) (kInt .i64) t.bt),(104,fn2 c6.agg (kAt .i64 1) c6.agg (fun a _=>t.sh a)),
 (86,fn2 c6.agg c6.agg (kInt .i64) t.cm),(106,fn2 c6.agg c6.agg kWB t.su)]
def dvE (t:DV):Env:=envX eqsT (dvT t)
def dvK:Keep:=⟨[2,3,4,5,6,7,8,9],[0,2,4,6,16,18],26⟩
@[irreducible] noncomputable def dvX (t:DV) (a b:W6):XS:=(entryOf PR (dvE t) [13,20,38,43] (fun _=>none) 10 57 [c6.agg.enc a,c6.agg.enc orderW] [] 0 0 dvK).setB 2 (c6.enc b)
@[irreducible] noncomputable def dvI (t:DV) (a b:W6) (d:Int × (W6 × W6)):XS:=(((dvX t a b).setT 9 (.v (.int .i64 d.1))).setB 16 (c6.enc d.2.1)).setB 18 (c6.enc d.2.2)
@[irreducible] noncomputable def dvC:Code:=roundOf PR 57 0
def dvOff (z:Int):Nat:=0+(quo64 z).toNat*1
def dvCond (z:Int):Bool:=Nat.blt (dvOff z) 6 && (decide (0 <= quo64 z /\ quo64 z < 6) && (decide (0 <= Int.tmod z 64) && (decide (dvOff z < 6) && (decide (0 <= quo64 z /\ quo64 z < 6) && true))))
def dvBit (z:Int) (o:W6):BitVec 64:=[o.w0,o.w1,o.w2,o.w3,o.w4,o.w5].getD (dvOff z) 0#64 ||| (1#64 <<< Nat.min (Int.tmod z 64).toNat 64)
def dvPut (z:Int) (o:W6) (u:BitVec 64):W6:=⟨bif Nat.beq (dvOff z) 0 then u else o.w0,bif Nat.beq (dvOff z) 1 then u else o.w1,bif Nat.beq (dvOff z) 2 then u else o.w2,bif Nat.beq (dvOff z) 3 then u else o.w3,bif Nat.beq (dvOff z) 4 then u else o.w4,bif Nat.beq (dvOff z) 5 then u else o.w5⟩
def dvNext (t:DV) (a:W6) (z:Int) (l:W6):W6:=⟨(t.sh l).w0 ||| BitVec.ofInt 64 (t.bt a z),(t.sh l).w1,(t.sh l).w2,(t.sh l).w3,(t.sh l).w4,(t.sh l).w5⟩
def dvTop (l:W6):Bool:=l.w5 >>> 63 == 1#64
set_option maxRecDepth 1000000 in
theorem dv_round (t:DV) (a b:W6) (z:Int) (o l:W6):Tree.but [6] 0 (roundT PR (dvE t) [13,20,38,43] (fun _=>none) 10 dvK dvK dvK dvC (dvI t a b (z,(o,l)))) =
 .br (decide (z >= 0))
  (.br (dvTop l)
   (.need (dvCond z) (.leaf (.normal,dvI t a b (IntKind.i64.wrap (z - 1),(dvPut z o (dvBit z o),(t.su (dvNext t a z l) b).1)))))
   (.br (decide (t.cm (dvNext t a z l) b >= 0))
    (.need (dvCond z) (.leaf (.normal,dvI t a b (IntKind.i64.wrap (z - 1),(dvPut z o (dvBit z o),(t.su (dvNext t a z l) b).1)))))
    (.need true (.leaf (.normal,dvI t a b (IntKind.i64.wrap (z - 1),(o,dvNext t a z l)))))))
  (.leaf (.exit 0,dvI t a b (z,(o,l)))):=by kernel_rfl
set_option maxRecDepth 1000000 in
theorem dv_head (t:DV) (a b:W6):dvX t a b=dvI t a b (IntKind.i64.wrap (t.ln a - 1),(zeroW,zeroW)):=by kernel_rfl
theorem dv_blk:blkAll 0 (bodyOf PR 57)=[.loop dvC]:=by kernel_rfl
@[irreducible] noncomputable def dvB (t:DV) (a b q r:W6):BEnt:=⟨dvK.tm,dvK.ids,dvK.n,dvX t a b,.leaf (.normal,dvI t a b (-1,(q,r)))⟩
theorem dvB_n (t:DV) (a b q r:W6):(dvB t a b q r).n=26 /\ (dvB t a b q r).pre=dvX t a b /\ (dvB t a b q r).post=.leaf (.normal,dvI t a b (-1,(q,r))):=by
 unfold dvB
 exact ⟨rfl,rfl,rfl⟩
def kWWE:Cod (W6 × (W6 × Int)) where
 enc x:=.tup [c6.agg.enc x.1,c6.agg.enc x.2.1,.v (.int .i64 x.2.2)]
 dec _:=none
 val x:=.tuple #[c6.agg.val x.1,c6.agg.val x.2.1,.int .i64 x.2.2]
 h1 x:=by rfl
 h2 ρ a v x h r:=by cases h
set_option maxRecDepth 1000000 in
theorem dv_run (t:DV) (a b q r:W6):(afunR PR (dvE t) [13,20,38,43] (tabOf [(0,dvB t a b q r)]) 10 57 [c6.agg.enc a,c6.agg.enc b]).strict =
 .br (eqW b zeroW) (.leaf (kWWE.enc (zeroW,(zeroW,2)))) (.same (dvX t a b) (dvX t a b) (.leaf (kWWE.enc (q,(r,0))))):=by kernel_rfl
def dvO:DV:=⟨lenI,bitI,shl1,cmW,wSubW⟩
theorem dvT_eq:[(103,fn1 c6.agg (kInt .i64) lenI),(105,fn2 c6.agg (kInt .i64) (kInt .i64) bitI),(104,fn2 c6.agg (kAt .i64 1) c6.agg (fun a _=>shl1 a)),
 (86,fn2 c6.agg c6.agg (kInt .i64) fun a b=>chainV (cmpL a b) 0),(106,fn2 c6.agg c6.agg kWB wSubW)]=dvT dvO:=by kernel_rfl
theorem dvT_ok:TabPOk PR (dvT dvO):=Eq.subst (motive:=TabPOk PR) dvT_eq (TabPOk.cons len_ok (TabPOk.cons bit_ok (TabPOk.cons shl1_ok (TabPOk.cons cmp_ok (TabPOk.cons wsub_ok TabPOk.nil)))))
theorem dvE_ok:EnvOk PR (dvE dvO):=envX_ok eqsT_ok dvT_ok
theorem dv_codeOk:codeOk (dvE dvO) dvC=true:=by kernel_rfl
def dvStep (t:DV) (a b:W6) (z:Int) (x:W6 × W6):W6 × W6 :=
 bif dvTop x.2 then (dvPut z x.1 (dvBit z x.1),(t.su (dvNext t a z x.2) b).1) else
 bif decide (t.cm (dvNext t a z x.2) b >= 0) then (dvPut z x.1 (dvBit z x.1),(t.su (dvNext t a z x.2) b).1) else (x.1,dvNext t a z x.2)
def dvG (t:DV) (a b:W6):Nat->W6 × W6->W6 × W6
 | 0,x=>x
 | k+1,x=>dvG t a b k (dvStep t a b (k:Int) x)
theorem dvCond_ok {z:Int} (h0:0 <= z) (h1:z <= 383):dvCond z=true:=by
 have hq:=quo64_eq h0 h1
 have hm:Int.tmod z 64=z % 64:=Int.tmod_eq_emod_of_nonneg h0
 have e:dvOff z < 6:=by unfold dvOff;rw [hq];omega
 have e2:Nat.blt (dvOff z) 6=true:=Nat.ble_eq_true_of_le e
 unfold dvCond
 rw [e2,hq,hm]
 have e3:(0:Int) <= z / 64 /\ z / 64 < 6:=by omega
 have e4:(0:Int) <= z % 64:=by omega
 rw [decide_eq_true e3,decide_eq_true e4,decide_eq_true e]
 rfl
theorem dv_law (t:DV) (a b:W6) (rt:XS->Tree (AExit × XS)) (I:Int × (W6 × W6)->XS) (hr:∀ (z:Int) (o l:W6),Tree.but [6] 0 (rt (I (z,(o,l)))) =
 .br (decide (z >= 0))
  (.br (dvTop l)
   (.need (dvCond z) (.leaf (.normal,I (IntKind.i64.wrap (z - 1),(dvPut z o (dvBit z o),(t.su (dvNext t a z l) b).1)))))
   (.br (decide (t.cm (dvNext t a z l) b >= 0))
    (.need (dvCond z) (.leaf (.normal,I (IntKind.i64.wrap (z - 1),(dvPut z o (dvBit z o),(t.su (dvNext t a z l) b).1)))))
    (.need true (.leaf (.normal,I (IntKind.i64.wrap (z - 1),(o,dvNext t a z l)))))))
  (.leaf (.exit 0,I (z,(o,l))))) {R:W6 × W6} {Q:AExit->XS->Prop} (hK:Q .normal (I (-1,R))) :
 ∀ d:Int × (W6 × W6),(-1 <= d.1 /\ d.1 <= 383 /\ dvG t a b (d.1+1).toNat d.2=R)->(rt (I d)).holds (fun r=>match r.1 with
  | .normal=>∃ j:Int × (W6 × W6),(-1 <= j.1 /\ j.1 <= 383 /\ dvG t a b (j.1+1).toNat j.2=R) /\ (j.1+1).toNat < (d.1+1).toNat /\ r.2=I j
  | .exit q=>if q=0 then Q .normal r.2 else Q (.exit q) r.2
  | .ret=>Q .ret r.2):=by
 rintro ⟨z,o,l⟩ ⟨h0,h1,h2⟩
 apply Tree.holds_but (l:=[6]) (i:=0)
 rw [hr]
 refine ⟨fun hz=>?_,fun hz=>?_⟩
 . have hz:0 <= z:=by simpa using hz
   have hc:dvCond z=true:=dvCond_ok hz h1
   have hw:IntKind.i64.wrap (z - 1)=z - 1:=wrap_id (by omega) (by omega)
   have hk:(z+1).toNat=z.toNat+1:=by omega
   simp only at h2
   rw [hk] at h2
   simp only [dvG] at h2
   rw [show ((z.toNat:Nat):Int)=z by omega] at h2
   have hk':(z - 1+1).toNat=z.toNat:=by omega
   have go:∀ x:W6 × W6,dvStep t a b z (o,l)=x->∃ j:Int × (W6 × W6),(-1 <= j.1 /\ j.1 <= 383 /\ dvG t a b (j.1+1).toNat j.2=R) /\ (j.1+1).toNat < (z+1).toNat /\ I (IntKind.i64.wrap (z - 1),x)=I j:=by
    intro x hx
    refine ⟨(z - 1,x),⟨by simp only;omega,by simp only;omega,?_⟩,?_,by rw [hw]⟩
    . simp only [hk']
      rw [<- hx];exact h2
    . show (z - 1+1).toNat < (z+1).toNat
      omega
   refine ⟨fun ht=>⟨hc,go _ ?_⟩,fun ht=>⟨fun hd=>⟨hc,go _ ?_⟩,fun hd=>⟨rfl,go _ ?_⟩⟩⟩
   . unfold dvStep;simp only [ht,cond_true]
   . unfold dvStep;simp only [ht,hd,cond_true,cond_false]
   . unfold dvStep;simp only [ht,hd,cond_false]
 . have hz:z=-1:=by
    have:¬ 0 <= z:=by simpa using hz
    omega
   subst hz
   have h2:(o,l)=R:=h2
   show (if (0:Nat)=0 then Q .normal (I (-1,(o,l))) else Q (.exit 0) (I (-1,(o,l))))
   rw [if_pos rfl,h2]
   exact hK
def dvR (a b:W6):W6 × W6:=dvG dvO a b (lenI a).toNat (zeroW,zeroW)
theorem dv_start (a b:W6):∀ d:Int × (W6 × W6),d=(IntKind.i64.wrap (dvO.ln a - 1),(zeroW,zeroW))->-1 <= d.1 /\ d.1 <= 383 /\ dvG dvO a b (d.1+1).toNat d.2=dvR a b:=by
 rintro d rfl
 have hl:=lenI_le a
 have hw:IntKind.i64.wrap (dvO.ln a - 1)=lenI a - 1:=wrap_id (n:=lenI a - 1) (by omega) (by omega)
 rw [hw]
 refine ⟨?_,?_,?_⟩
 . show -1 <= lenI a - 1
   omega
 . show lenI a - 1 <= 383
   omega
 . show dvG dvO a b (lenI a - 1+1).toNat _=dvG dvO a b (lenI a).toNat _
   rw [show lenI a - 1+1=lenI a by omega]
theorem dv_loop (a b:W6) {Fr0:Fr} {ds:List Deferred} {Q:AExit->XS->Prop} (hK:Q .normal (dvI dvO a b (-1,dvR a b))) :
 Tri PR Fr0 ds 0 (.block 0 (.loop dvC)) (dvX dvO a b) Q :=
 Eq.subst (motive:=fun y=>Tri PR Fr0 ds 0 (.block 0 (.loop dvC)) y Q) (dv_head dvO a b).symm <| blockLoop (m:=0) dvE_ok mixed (sym:=[13,20,38,43]) (tab:=fun _=>none) (lf:=10) (k:=dvK) (kx:=dvK) (kr:=dvK) (Nat.zero_le _) (Nat.zero_le _) (Nat.zero_le _) dv_codeOk (tabOk_none _)
  (dvI dvO a b) (fun d=>-1 <= d.1 /\ d.1 <= 383 /\ dvG dvO a b (d.1+1).toNat d.2=dvR a b) (fun d=>(d.1+1).toNat) _ (dv_start a b _ rfl)
  (dv_law dvO a b _ (dvI dvO a b) (dv_round dvO a b) hK)
theorem dv_ctx (a b:W6):Ctx PR (dvE dvO) [13,20,38,43] (tabOf [(0,dvB dvO a b (dvR a b).1 (dvR a b).2)]) 10 57 :=
 ctx_of dvE_ok mixed (fn:=Tryz.f57) (by kernel_rfl) (by kernel_rfl) (by kernel_rfl)
  (tabOk_one (Nat.zero_le _) dv_blk fun Fr0 ds Q h=>by
   obtain ⟨-,h2,h3⟩:=dvB_n dvO a b (dvR a b).1 (dvR a b).2
   rw [h3] at h
   rw [h2]
   exact dv_loop a b h)
def divF (a b:W6):W6 × (W6 × Int):=bif eqW b zeroW then (zeroW,(zeroW,2)) else ((dvR a b).1,((dvR a b).2,0))
theorem div_tree {x:XS} (c:Bool) (u v w:W6 × (W6 × Int)) (hw:w=bif c then u else v):(Tree.br c (.leaf (kWWE.enc u)) (.same x x (.leaf (kWWE.enc v)))).holds (fun q=>flat q=some (kWWE.val w)):=by
 subst hw
 cases c with
 | true=>exact ⟨fun _=>kWWE.h1 u,fun h=>by cases h⟩
 | false=>exact ⟨fun h=>(by cases h),fun _=>⟨rfl,kWWE.h1 v⟩⟩
theorem gives_div {t:Tree AV} {x:XS} {c:Bool} {u v w:W6 × (W6 × Int)} (e:t.strict=.br c (.leaf (kWWE.enc u)) (.same x x (.leaf (kWWE.enc v)))) (hw:w=bif c then u else v):Gives t (kWWE.val w) :=
 ⟨Tree.holds_strict (by rw [e];exact div_tree c u v w hw)⟩
theorem div_gives (a b:W6):Gives (afunR PR (dvE dvO) [13,20,38,43] (tabOf [(0,dvB dvO a b (dvR a b).1 (dvR a b).2)]) 10 57 [c6.agg.enc a,c6.agg.enc b]) (kWWE.val (divF a b)):=by
 unfold divF
 exact gives_div (dv_run dvO a b (dvR a b).1 (dvR a b).2) rfl
theorem div_ok:CallOk PR 57 (fn2 c6.agg c6.agg kWWE divF) :=
 .inl ⟨entersB (by kernel_rfl),pure2X fun a b=>.of (dv_ctx a b) (div_gives a b)⟩
theorem or_low (m:Nat):(2*m ||| 1)=2*m+1:=by
 have h:=Nat.shiftLeft_add_eq_or_of_lt (i:=1) (b:=1) (by decide) m
 rw [Nat.shiftLeft_eq,show m*2 ^ 1=2*m by omega] at h
 exact h.symm
theorem or_bit (x:BitVec 64) {c:Int} (hc:c=0 \/ c=1):((x <<< 1) ||| BitVec.ofInt 64 c).toNat=(x <<< 1).toNat+c.toNat:=by
 have hx:(x <<< 1).toNat=2*(x.toNat % 9223372036854775808):=by
  rw [BitVec.toNat_shiftLeft,Nat.shiftLeft_eq]
  omega
 rcases hc with rfl | rfl
 . have e:BitVec.ofInt 64 0=0#64:=rfl
   rw [e,BitVec.or_zero]
   rfl
 . have e:BitVec.ofInt 64 1=1#64:=rfl
   rw [e,BitVec.toNat_or,hx]
   exact or_low _
theorem bitI_two (a:W6) (z:Int):bitI a z=0 \/ bitI a z=1:=by
 unfold bitI
 cases decide (z < 0) with
 | true=>exact .inl rfl
 | false =>
  cases decide (z >= 384) with
  | true=>exact .inl rfl
  | false =>
   cases a.bit z.toNat with
   | true=>exact .inr rfl
   | false=>exact .inl rfl
theorem next_nat (a:W6) (z:Int) {l:W6} (h:l.val < rN):(dvNext dvO a z l).val=2*l.val+(bitI a z).toNat:=by
 have h1:=shl1_nat l h
 have h2:=or_bit l.w0 (bitI_two a z)
 have e:(dvNext dvO a z l).val=(shl1 l).val+(bitI a z).toNat:=by
  show W6.val ⟨(shl1 l).w0 ||| BitVec.ofInt 64 (bitI a z),(shl1 l).w1,(shl1 l).w2,(shl1 l).w3,(shl1 l).w4,(shl1 l).w5⟩=_
  have h3:((shl1 l).w0 ||| BitVec.ofInt 64 (bitI a z)).toNat=(shl1 l).w0.toNat+(bitI a z).toNat:=h2
  unfold W6.val
  dsimp only
  rw [h3]
  omega
 rw [e,h1]
theorem top_low {l:W6} (h:l.val < rN):dvTop l=false:=by
 have h5:l.w5.toNat=0:=by
  unfold W6.val rN at h
  omega
 have e:l.w5=0#64:=BitVec.eq_of_toNat_eq h5
 unfold dvTop
 rw [e];rfl
theorem sub_nat {x b:W6} (h:b.val <= x.val):(wSubW x b).1.val=x.val - b.val:=by
 have h1:=subs_nat x b
 have h2:=W6.val_lt (subs x b).1
 have h3:=W6.val_lt x
 show (subs x b).1.val=_
 cases hb:(subs x b).2 with
 | false =>
  rw [hb] at h1
  have:b2n false=0:=rfl
  rw [this] at h1
  omega
 | true =>
  rw [hb] at h1
  have:b2n true=1:=rfl
  rw [this] at h1
  omega
theorem step_lt {a b:W6} (hb:b.val <= rN) (z:Int) {x:W6 × W6} (h:x.2.val < b.val):(dvStep dvO a b z x).2.val < b.val:=by
 have hl:x.2.val < rN:=by omega
 have h1:=next_nat a z hl
 have h2:=cmW_nat (dvNext dvO a z x.2) b
 have h3:(bitI a z).toNat <= 1:=by rcases bitI_two a z with e | e <;> rw [e] <;> decide
 unfold dvStep
 rw [top_low hl,cond_false]
 by_cases hd:dvO.cm (dvNext dvO a z x.2) b >= 0
 . rw [decide_eq_true hd,cond_true]
   have hd:cmW (dvNext dvO a z x.2) b >= 0:=hd
   have h4:b.val <= (dvNext dvO a z x.2).val:=by
    have:=mt h2.2 (by omega)
    omega
   have h5:=sub_nat h4
   show (wSubW (dvNext dvO a z x.2) b).1.val < b.val
   omega
 . rw [decide_eq_false hd,cond_false]
   have hd:¬ cmW (dvNext dvO a z x.2) b >= 0:=hd
   have h4:=h2.1 (by omega)
   exact h4
theorem dvG_lt {a b:W6} (hb:b.val <= rN):∀ (k:Nat) {x:W6 × W6},x.2.val < b.val->(dvG dvO a b k x).2.val < b.val
 | 0,_,h=>h
 | k+1,_,h=>dvG_lt hb k (step_lt hb _ h)
theorem div_left {a b:W6} (hb:b.val <= rN) (h0:0 < b.val):(divF a b).2.1.val < b.val:=by
 have e:eqW b zeroW=false:=by
  rw [Bool.eq_false_iff]
  intro h
  rw [(eqW_iff _ _).1 h,zero_val] at h0
  omega
 unfold divF
 rw [e,cond_false]
 exact dvG_lt hb _ (by rw [zero_val];exact h0)
end Go.Rq

namespace Go.Rq.Sm
open Go Go.Proofs Go.Rq
noncomputable def lgnE:Env:=envOf eqsT [(108,lofG)]
def lgnF:Sx->Lp × Int
 | .li=>((9723#64,164643#64,false),0)
 | .mi=>((613740293506734924#64,666621259561003659#64,false),0)
 | _=>(zLx,2)
theorem lgn_run (s:Sx):valS (afunR PR lgnE [] (fun _=>none) 10 59 [kSx.enc s])=some (kLE.val (lgnF s)):=by cases s <;> kernel_rfl
theorem lgn_ctx:Ctx PR lgnE [] (fun _=>none) 10 59 :=
 ctxB (envOf_ok eqsT_ok (TabPOk.cons lof_ok TabPOk.nil)) mixed (by kernel_rfl)
theorem lgn_ok:CallOk PR 59 (fn1 kSx kLE lgnF) :=
 .inl ⟨entersB (by kernel_rfl),pure1 lgn_ctx fun s=>givesV (lgn_run s)⟩
noncomputable def sgnE (G:Px) (L:Sx->Lp × Int):Env:=envOf eqsT [(58,fn0 cPx.agg G),(59,fn1 kSx kLE L)]
def sgnF (G:Px):Sx->Kx × Int
 | .gr=>((.gr,G,zLx),0)
 | .li=>((.li,zPx,(9723#64,164643#64,false)),0)
 | .mi=>((.mi,zPx,(613740293506734924#64,666621259561003659#64,false)),0)
 | _=>(zKx,2)
theorem sgn_run (G:Px) (s:Sx):valS (afunR PR (sgnE G lgnF) [] (fun _=>none) 10 30 [kSx.enc s])=some (kKE.val (sgnF G s)):=by cases s <;> kernel_rfl
theorem sgn_ctx {G:Px} (h:CallOk PR 58 (fn0 cPx.agg G)):Ctx PR (sgnE G lgnF) [] (fun _=>none) 10 30 :=
 ctxB (envOf_ok eqsT_ok (TabPOk.cons h (TabPOk.cons lgn_ok TabPOk.nil))) mixed (by kernel_rfl)
theorem sgn_okx {G:Px} (h:CallOk PR 58 (fn0 cPx.agg G)):CallOk PR 30 (fn1 kSx kKE (sgnF G)) :=
 .inl ⟨entersB (by kernel_rfl),pure1 (sgn_ctx h) fun s=>givesV (sgn_run G s)⟩
theorem fn1B {α β β':Type} {A:Cod α} {B:Cod β} {B':Cod β'} {F:α->β} {ψ:β->β'} (hB:∀ y,B.enc y=B'.enc (ψ y)):fn1 A B F=fn1 A B' (fun a=>ψ (F a)):=by
 funext args
 unfold fn1
 split
 . rename_i a
   cases A.dec a with
   | none=>rfl
   | some x=>simp only [hB]
 . rfl
def sgnX (G:Px) (i:Int):Kz × Int:=toE (sgnF G (Sx.of i))
theorem sgn_ok {G:Px} (h:CallOk PR 58 (fn0 cPx.agg G)):CallOk PR 30 (fn1 (kInt .i64) kKzE (sgnX G)):=by
 have k:=sgn_okx h
 rw [fnS1,fn1B (B':=kKzE) (ψ:=toE) fun y=>rfl] at k
 exact k
abbrev DF:Type:=W6->W6->W6 × (W6 × Int)
def scE (O:Int->W6 × Int) (D:DF):Env:=envD eqsT [(43,fn1 (kInt .i64) kWE O),(57,fn2 c6.agg c6.agg kWWE D)] [] [] [] [] false []
noncomputable def scG (O:Int->W6 × Int) (D:DF):List AV->AH->Nat->Option (Bool × AV × AH):=deepG PR (scE O D) [] 30 28 4096 true
theorem sc_ent:Enters PR 28:=entersB (by kernel_rfl)
theorem sc_ok {O:Int->W6 × Int} {D:DF} (hO:CallOk PR 43 (fn1 (kInt .i64) kWE O)) (hD:CallOk PR 57 (fn2 c6.agg c6.agg kWWE D)):ActOk PR 4096 28 (scG O D) :=
 deep_ok (ctxB (envD_ok eqsT_ok (TabPOk.cons hO (TabPOk.cons hD TabPOk.nil)) TabHOk.nil TabLOk.nil TabDOk.nil) mixed (by kernel_rfl))
abbrev F5Z:Type:=Kz->Kz->Kz->W6->W6->Bool × Int
section
variable {K:Kz->Bool} {O:Int->W6 × Int} {C:W6->W6->Int} {M:ZM} {A:ZZ} {N:Kz->Kz × Int} {s:Int} {r:Nat} {φ:Nat->Kz}
end
section
variable {K:Kz->Bool} {O:Int->W6 × Int} {C:W6->W6->Int} {M:ZM} {A:ZZ} {N:Kz->Kz × Int} {GN:Int->Kz × Int} {D:DF}
def SuRk (r:Nat) (K:Kz->Bool) (O:Int->W6 × Int) (C:W6->W6->Int) (M:ZM) (A:ZZ) (N:Kz->Kz × Int) (GN:Int->Kz × Int) (D:DF) (s:Int):Prop :=
 ∃ φ:Nat->Kz,Cy K O C M A N s r φ /\ (GN s).1=φ 1 /\ ∀ x,(D x (O s).1).2.1.val < r
end
def inX (p:Px):Bool:=inGroup1 (toAp p)
def adX (p q:Px):Px × Int:=ofE (addP1 (toAp p) (toAp q))
def muX (p:Px) (n:W6):Px × Int:=ofE (sumP1W (toAp p) n)
def neX (p:Px):Px × Int:=ofE (negP1 (toAp p))
theorem inX_ok:CallOk PR 90 (fn1 cPx.agg kBool inX):=in_to isinp1_ok
theorem adX_ok:CallOk PR 75 (fn2 cPx.agg cPx.agg kPE adX):=ad_to addp1_ok
theorem muX_ok:CallOk PR 73 (fn2 cPx.agg c6.agg kPE muX):=mu_to mulp1_ok
theorem gn_to {G:Ap W6} (h:CallOk PR 58 (fn0 (cAp c6).agg G)):CallOk PR 58 (fn0 cPx.agg (ofAp G)):=h
theorem gnX_ok:CallOk PR 58 (fn0 cPx.agg (ofAp gen1P)):=gn_to gen1_ok
noncomputable abbrev KZ:Kz->Bool:=fun a=>kchX inX (toKx a)
noncomputable abbrev OZ:Int->W6 × Int:=fun i=>sorF ordX (Sx.of i)
noncomputable abbrev MZ:ZM:=kmuX inX muX
noncomputable abbrev AZ:ZZ:=kadX inX adX
noncomputable abbrev NZ:Kz->Kz × Int:=kneX inX neX
noncomputable abbrev GZ:Int->Kz × Int:=sgnX (ofAp gen1P)
theorem MZ_ok:CallOk PR 35 (fn2 cKz.agg c6.agg kKzE MZ):=kmuX_ok inX_ok muX_ok
theorem AZ_ok:CallOk PR 36 (fn2 cKz.agg cKz.agg kKzE AZ):=kadX_ok inX_ok adX_ok
theorem GZ_ok:CallOk PR 30 (fn1 (kInt .i64) kKzE GZ):=sgn_ok gnX_ok
theorem OZ_ok:CallOk PR 43 (fn1 (kInt .i64) kWE OZ):=sor_ok
theorem scZ_ok:ActOk PR 4096 28 (scG OZ divF):=sc_ok OZ_ok div_ok
theorem div_in {o:W6} {r:Nat} (h:o.val=r) (hr:r <= rN) (h0:0 < r) (x:W6):(divF x o).2.1.val < r:=by
 have k:=div_left (a:=x) (b:=o) (by rw [h];exact hr) (by rw [h];exact h0)
 rw [h] at k
 exact k
theorem suRn_rN (s:Su):suRn s <= rN:=by cases s <;> (unfold suRn rN;decide)
theorem su_gr {I:Ap W6->Bool} {A:Ap W6->Ap W6->Ap W6 × Int} {M:Ap W6->W6->Ap W6 × Int} {N:Ap W6->Ap W6 × Int} {g:Ap W6} (h:∃ ν,GrOk I A M N g ν) :
 SuRk rN (fun a=>kchX (fun p=>I (toAp p)) (toKx a)) OZ cmpX (kmuX (fun p=>I (toAp p)) (fun p n=>ofE (M (toAp p) n))) (kadX (fun p=>I (toAp p)) (fun p q=>ofE (A (toAp p) (toAp q))))
  (kneX (fun p=>I (toAp p)) (fun p=>ofE (N (toAp p)))) (sgnX (ofAp g)) divF 0:=by
 obtain ⟨ν,hν⟩:=h
 refine ⟨phG ν,cy_gr hν,?_,fun x=>?_⟩
 . unfold phG
   rw [hν.gen]
   rfl
 . have e:(OZ 0).1=rWx:=rfl
   rw [e]
   exact div_in rWx_val (Nat.le_refl _) rN_pos x
theorem su_lit (I:Px->Bool) (A1:Px->Px->Px × Int) (M1:Px->W6->Px × Int) (N1:Px->Px × Int) (G:Px) (s:Su) :
 SuRk (suRn s) (fun a=>kchX I (toKx a)) OZ cmpX (kmuX I M1) (kadX I A1) (kneX I N1) (sgnX G) divF (suSx s).int:=by
 refine ⟨phS s,cy_lit I A1 M1 N1 s,?_,fun x=>?_⟩
 . have e:wp (nu s 1)=(suX s,suY s,false):=by
    unfold nu
    rw [Cw.nsm_one,genA_wp]
   unfold phS
   rw [e]
   cases s <;> rfl
 . have e:(OZ (suSx s).int).1=ordX (suSx s):=by
    show (sorF ordX (Sx.of (suSx s).int)).1=_
    rw [Sx.of_int];cases s <;> rfl
   rw [e]
   exact div_in (ordX_val s) (suRn_rN s) (suRn_pos s) x
def suRi (s:Int):Nat:=match decide (s=0),decide (s=1) with
 | true,_=>rN
 | false,true=>suRn .lit
 | false,false=>suRn .mid
theorem su_allR (s:Int) (h0:0 <= s) (h2:s <= 2):SuRk (suRi s) KZ OZ cmpX MZ AZ NZ GZ divF s:=by
 have h:s=0 \/ s=(suSx .lit).int \/ s=(suSx .mid).int:=by
  show s=0 \/ s=1 \/ s=2
  omega
 rcases h with rfl | rfl | rfl
 . exact su_gr gr_ex
 . exact su_lit inX adX muX neX (ofAp gen1P) .lit
 . exact su_lit inX adX muX neX (ofAp gen1P) .mid
end Go.Rq.Sm
