import Derived.Test.YtedplhdabefnkaaGreatDoorRq04
import Derived.Test.YtedplhdabefnkaaGreatDoorRq20
import Derived.Test.YtedplhdabefnkaaGreatDoorRq09
import Derived.Test.YtedplhdabefnkaaGreatDoorRq12
namespace Go.Rq.Cl
open Go Go.Proofs Go.Rq Go.Rq.Sm
def scQ (s:Sx) (a:W6):Bool:=match mdS s with
 | some m=>decide (a.val < mdN m)
 | none=>false
def opF (op:Mo->W6->W6->W6) (s:Sx) (a b:W6):W6 × Int:=match mdS s with
 | some m=>(op (modS m) a b,0)
 | none=>(zW6,2)
noncomputable def ivF (s:Sx) (a:W6):W6 × Int:=match mdS s with
 | some m=>invF m a
 | none=>(zW6,2)
noncomputable def aqO:AQ:=⟨cmpX,qaddW,qsubW,qmulW⟩
theorem cloA_ok:EnvOk PR (cloE 71 qaddW):=envD_ok eqsT_ok TabPOk.nil (TabHOk.cons qadd_ent qadd_ok TabHOk.nil) TabLOk.nil TabDOk.nil
theorem cloS_ok:EnvOk PR (cloE 78 qsubW):=envD_ok eqsT_ok TabPOk.nil (TabHOk.cons qsub_ent qsub_ok TabHOk.nil) TabLOk.nil TabDOk.nil
theorem cloM_ok:EnvOk PR (cloE 82 qmulW):=envD_ok eqsT_ok TabPOk.nil (TabHOk.cons qmul_ent qmul_ok TabHOk.nil) TabLOk.nil TabDOk.nil
theorem doA_ent:Enters PR 70:=entersB (by kernel_rfl)
theorem doS_ent:Enters PR 77:=entersB (by kernel_rfl)
theorem doM_ent:Enters PR 81:=entersB (by kernel_rfl)
theorem done_ent:Enters PR 67:=entersB (by kernel_rfl)
theorem cloA_act:ActOk PR 4096 70 (deepG PR (cloE 71 qaddW) [] 20 70 4096 true):=deep_ok (ctxB cloA_ok mixed (by kernel_rfl))
theorem cloS_act:ActOk PR 4096 77 (deepG PR (cloE 78 qsubW) [] 20 77 4096 true):=deep_ok (ctxB cloS_ok mixed (by kernel_rfl))
theorem cloM_act:ActOk PR 4096 81 (deepG PR (cloE 82 qmulW) [] 20 81 4096 true):=deep_ok (ctxB cloM_ok mixed (by kernel_rfl))
theorem do_ok:ActOk PR 4096 67 (doG aqO) :=
 deepP_ok (ctxB (envD_ok eqsT_ok TabPOk.nil TabHOk.nil TabLOk.nil (TabDOk.cons ari_ent (ari_ok [false,false]) (TabDOk.cons doA_ent cloA_act (TabDOk.cons doS_ent cloS_act (TabDOk.cons doM_ent cloM_act TabDOk.nil)))))
  mixed (by kernel_rfl))
theorem sopE_ok:EnvOk PR (sopE aqO):=envD_ok eqsT_ok TabPOk.nil TabHOk.nil TabLOk.nil (TabDOk.cons done_ent do_ok TabDOk.nil)
theorem ordX_md {s:Sx} {m:Md} (h:mdS s=some m):(ordX s).val=mdN m:=by
 cases s <;> cases h <;> decide +kernel
theorem nlt_true {s:Sx} {m:Md} (h:mdS s=some m) {a:W6} (ha:a.val < mdN m) (b:Bool):nlt aqO s a b=b:=by
 unfold nlt
 have e:decide (aqO.cm a (ordX s) >= 0)=false:=by
  have e2:aqO.cm=cmpX:=by simp only [aqO]
  rw [e2]
  exact cmpX_ge (by rw [ordX_md h];exact ha)
 rw [e,cond_false]
theorem two_true {s:Sx} {m:Md} (h:mdS s=some m) {a b:W6} (ha:a.val < mdN m) (hb:b.val < mdN m):tt (tt (tt (tt (tt (tt (nlt aqO s a (nlt aqO s b true)))))))=true:=by
 simp only [tt_eq]
 rw [nlt_true h ha,nlt_true h hb]
def sc2 (s:Sx) (a b:W6):Bool:=scQ s a && scQ s b
theorem scQ_ok {s:Sx} {a:W6} (h:scQ s a=true):∃ m,mdS s=some m /\ a.val < mdN m:=by
 unfold scQ at h
 cases e:mdS s with
 | none=>rw [e] at h;cases h
 | some m=>rw [e] at h;exact ⟨m,rfl,of_decide_eq_true h⟩
theorem sc2_ok {s:Sx} {a b:W6} (h:sc2 s a b=true):∃ m,mdS s=some m /\ a.val < mdN m /\ b.val < mdN m:=by
 unfold sc2 at h
 obtain ⟨h1,h2⟩:=Bool.and_eq_true_iff.1 h
 obtain ⟨m,e1,k1⟩:=scQ_ok h1
 obtain ⟨m',e2,k2⟩:=scQ_ok h2
 rw [e1] at e2
 cases e2
 exact ⟨m,e1,k1,k2⟩
theorem op_ctx {f:Nat} {fn:Func} (hf:PR.funcs.toList[f]?=some fn) (hb:fn.body=some (bodyOf PR f)) (hok:codeOk (sopE aqO) (bodyOf PR f)=true):Ctx PR (sopE aqO) [13] (fun _=>none) 30 f:=ctx_of sopE_ok mixed hf hb hok (tabOk_none _)
theorem op_gives {f:Nat} {op:Mo->W6->W6->W6} (hr:∀ (s:Sx) (m:Md),mdS s=some m->∀ a b:W6,valP [] (afunR PR (sopE aqO) [13] (fun _=>none) 30 f [kSx.enc s,c6.agg.enc a,c6.agg.enc b])=some (tt (tt (tt (tt (tt (tt (nlt aqO s a (nlt aqO s b true))))))),some (kWE.val (op (modS m) a b,0))))
 (s:Sx) (a b:W6) (h:sc2 s a b=true):Gives (afunR PR (sopE aqO) [13] (fun _=>none) 30 f [kSx.enc s,c6.agg.enc a,c6.agg.enc b]) (kWE.val (opF op s a b)):=by
 obtain ⟨m,e,ha,hb⟩:=sc2_ok h
 have k:=Go.Rq.givesP (hr s m e a b) (two_true e ha hb)
 unfold opF
 rw [e]
 exact k
theorem smul_ok:CallOk PR 39 (fnQ3 kSx c6.agg c6.agg kWE sc2 (opF qmulW)) :=
 .inl ⟨entersB (by kernel_rfl),pureQ3 (op_ctx (fn:=Tryz.f39) (by kernel_rfl) (by kernel_rfl) (by kernel_rfl)) fun s a b h=>op_gives (fun s m e a b=>sml_run aqO s m e a b) s a b h⟩
theorem sadd_ok:CallOk PR 34 (fnQ3 kSx c6.agg c6.agg kWE sc2 (opF qaddW)) :=
 .inl ⟨entersB (by kernel_rfl),pureQ3 (op_ctx (fn:=Tryz.f34) (by kernel_rfl) (by kernel_rfl) (by kernel_rfl)) fun s a b h=>op_gives (fun s m e a b=>sad_run aqO s m e a b) s a b h⟩
theorem decSk (a:AV):kSx.dec a=((kInt .i64).dec a).map Sx.of:=by
 have e0:kSx.dec a=(match (kInt .i64).dec a with
  | some i=>some (Sx.of i)
  | none=>none):=rfl
 rw [e0]
 cases (kInt .i64).dec a <;> rfl
theorem fnS3 {γ δ β:Type} {C:Cod γ} {D:Cod δ} {B:Cod β} {Q:Sx->γ->δ->Bool} {F:Sx->γ->δ->β}:fnQ3 kSx C D B Q F=fnQ3 (kInt .i64) C D B (fun i=>Q (Sx.of i)) (fun i=>F (Sx.of i)):=by
 funext args
 unfold fnQ3
 split
 . rename_i a c d
   rw [decSk]
   cases (kInt .i64).dec a with
   | none=>rfl
   | some x=>cases C.dec c with
    | none=>rfl
    | some y=>cases D.dec d <;> rfl
 . rfl
abbrev Q3:Type:=Int->W6->W6->Bool
noncomputable abbrev q2Z:Q3:=fun i=>sc2 (Sx.of i)
noncomputable abbrev q1Z:Int->W6->Bool:=fun i=>scQ (Sx.of i)
noncomputable abbrev mlZ:S3:=fun i=>opF qmulW (Sx.of i)
noncomputable abbrev adZ:S3:=fun i=>opF qaddW (Sx.of i)
noncomputable abbrev sbZ:S3:=fun i=>opF qsubW (Sx.of i)
noncomputable abbrev ivZ:Int->W6->W6 × Int:=fun i=>ivF (Sx.of i)
theorem mlZ_ok:CallOk PR 39 (fnQ3 (kInt .i64) c6.agg c6.agg kWE q2Z mlZ):=by rw [<- fnS3];exact smul_ok
theorem adZ_ok:CallOk PR 34 (fnQ3 (kInt .i64) c6.agg c6.agg kWE q2Z adZ):=by rw [<- fnS3];exact sadd_ok
def bt (b c:Bool):Bool:=bif b then c else false
noncomputable def pkG:List AV->Option (Bool × AV):=inlineS PR (envD eqsT [] [] [] [] [] false []) [11] 20 29
theorem pk_ok:CallOk PR 29 pkG :=
 .inl ⟨entersB (by kernel_rfl),
  inlineS_ok (ctxB (envD_ok eqsT_ok TabPOk.nil TabHOk.nil TabLOk.nil TabDOk.nil) mixed (by kernel_rfl))⟩
structure PO where
 o:Int->W6 × Int
 c:W6->W6->Int
 g:Int->Kz × Int
 bq:Int->Bool
 b:Int->Kz × Int
 m:ZM
 a:ZZ
noncomputable def onE (t:PO):Env:=envD eqsT [(43,fn1 (kInt .i64) kWE t.o),(86,fn2 c6.agg c6.agg (kInt .i64) t.c),(30,fn1 (kInt .i64) kKzE t.g),
 (31,fnQ1 (kInt .i64) kKzE t.bq t.b),(35,fn2 cKz.agg c6.agg kKzE t.m),(36,fn2 cKz.agg cKz.agg kKzE t.a)] [] [] [] [] false []
def onR (t:PO) (s:Int) (u v:W6):Kz × Int:=t.a (t.m (t.g s).1 u).1 (t.m (t.b s).1 v).1
def onC (t:PO) (s:Int) (u v:W6):Bool:=nt ((t.o s).2 != 0) (nt (geR t.o t.c s u) (nt (geR t.o t.c s v) (bt (tt (t.bq s)) true)))
set_option maxRecDepth 100000 in
theorem on_run (t:PO) (s:Int) (u v:W6):valP [false,false,false] (afunR PR (onE t) [24,29,35] (fun _=>none) 30 41 [(kInt .i64).enc s,c6.agg.enc u,c6.agg.enc v]) =
 some (onC t s u v,some (kKzE.val (onR t s u v))):=by kernel_rfl
def oneQ (t:PO) (s:Int) (u v:W6):Bool:=onC t s u v && (onR t s u v).2 == 0
def oneK (t:PO) (s:Int) (u v:W6):Kz:=(onR t s u v).1
theorem one_ok {t:PO} (hO:CallOk PR 43 (fn1 (kInt .i64) kWE t.o)) (hC:CallOk PR 86 (fn2 c6.agg c6.agg (kInt .i64) t.c)) (hG:CallOk PR 30 (fn1 (kInt .i64) kKzE t.g))
 (hB:CallOk PR 31 (fnQ1 (kInt .i64) kKzE t.bq t.b)) (hM:CallOk PR 35 (fn2 cKz.agg c6.agg kKzE t.m)) (hA:CallOk PR 36 (fn2 cKz.agg cKz.agg kKzE t.a)) :
 CallOk PR 41 (fnQ3 (kInt .i64) c6.agg c6.agg kKzE (oneQ t) (fun s u v=>(oneK t s u v,0))) :=
 .inl ⟨entersB (by kernel_rfl),
  pureQ3 (ctxB (envD_ok eqsT_ok (TabPOk.cons hO (TabPOk.cons hC (TabPOk.cons hG (TabPOk.cons hB (TabPOk.cons hM (TabPOk.cons hA TabPOk.nil)))))) TabHOk.nil TabLOk.nil TabDOk.nil)
   mixed (by kernel_rfl)) fun s u v h=>by
    unfold oneQ at h
    obtain ⟨h1,h2⟩:=Bool.and_eq_true_iff.1 h
    have e:onR t s u v=(oneK t s u v,0):=by
     unfold oneK
     have:(onR t s u v).2=0:=by simpa using h2
     rw [<- this]
    have k:=Go.Rq.givesP (on_run t s u v) h1
    rw [e] at k
    exact k⟩
abbrev K3:Type:=Int->W6->W6->Kz
def oneV (q:Q3) (k:K3):List AV->Option (Bool × AV):=fnQ3 (kInt .i64) c6.agg c6.agg kKzE q (fun s u v=>(k s u v,0))
noncomputable def cmE (o:Int->W6 × Int) (q:Q3) (k:K3):Env:=envD eqsT [(43,fn1 (kInt .i64) kWE o),(41,oneV q k)] [] [] [] [] false []
noncomputable def cmG (o:Int->W6 × Int) (q:Q3) (k:K3):List AV->AH->Nat->Option (Bool × AV × AH):=deepP [false] PR (cmE o q k) [20] 30 10 4096 true
theorem cm_ent:Enters PR 10:=entersB (by kernel_rfl)
theorem cm_ok {o:Int->W6 × Int} {q:Q3} {k:K3} (hO:CallOk PR 43 (fn1 (kInt .i64) kWE o)) (hK:CallOk PR 41 (oneV q k)):ActOk PR 4096 10 (cmG o q k) :=
 deepP_ok (ctxB (envD_ok eqsT_ok (TabPOk.cons hO (TabPOk.cons hK TabPOk.nil)) TabHOk.nil TabLOk.nil TabDOk.nil) mixed (by kernel_rfl))
def chV (k:Kz->Bool):List AV->Option (Bool × AV):=fnQ1 cKz.agg kBool k (fun _=>true)
noncomputable def chG (n:Nat) (k:Kz->Bool):List AV->AH->Nat->Option (Bool × AV × AH):=deepP (List.replicate n false) PR (envD eqsT [(48,chV k)] [] [] [] [] false []) [37] 30 20 4096 true
theorem ch_ent:Enters PR 20:=entersB (by kernel_rfl)
theorem chV_ok {k:Kz->Bool} (h:CallOk PR 48 (fn1 cKz.agg kBool k)):CallOk PR 48 (chV k):=by
 have e:∀ {args:List AV} {r:AV},chV k args=some (true,r)->fn1 cKz.agg kBool k args=some (true,r):=by
  intro args r hx
  unfold chV fnQ1 at hx
  unfold fn1
  split at hx
  . rename_i a
    dsimp only
    split at hx
    . rename_i x hx2
      rw [hx2]
      dsimp only
      simp only [Option.some.injEq,Prod.mk.injEq] at hx
      rw [hx.1]
      simp only [Option.some.injEq,Prod.mk.injEq,true_and]
      exact hx.2
    . cases hx
  . cases hx
 rcases h with ⟨h1,h2⟩ | h2
 . exact .inl ⟨h1,fun ρ args xs r hr hx=>h2 ρ args xs r (e hr) hx⟩
 . exact .inr (fun ρ args xs r hr hx=>h2 ρ args xs r (e hr) hx)
theorem ch_ok {n:Nat} {k:Kz->Bool} (h:CallOk PR 48 (chV k)):ActOk PR 4096 20 (chG n k) :=
 deepP_ok (ctxB (envD_ok eqsT_ok (TabPOk.cons h TabPOk.nil) TabHOk.nil TabLOk.nil TabDOk.nil) mixed (by kernel_rfl))
noncomputable def paE (m:ZM) (a:ZZ):Env:=envD eqsT [(33,fn1 kU c6.agg ofW),(35,fn2 cKz.agg c6.agg kKzE m),(36,fn2 cKz.agg cKz.agg kKzE a)] [] [] [] [] false []
noncomputable def paG (m:ZM) (a:ZZ):List AV->AH->Nat->Option (Bool × AV × AH):=deepG PR (paE m a) [] 30 47 4096 true
theorem pa_ent:Enters PR 47:=entersB (by kernel_rfl)
theorem pa_ok {m:ZM} {a:ZZ} (hM:CallOk PR 35 (fn2 cKz.agg c6.agg kKzE m)) (hA:CallOk PR 36 (fn2 cKz.agg cKz.agg kKzE a)):ActOk PR 4096 47 (paG m a) :=
 deep_ok (ctxB (envD_ok eqsT_ok (TabPOk.cons of_ok (TabPOk.cons hM (TabPOk.cons hA TabPOk.nil))) TabHOk.nil TabLOk.nil TabDOk.nil) mixed (by kernel_rfl))
noncomputable def atE (n:Nat) (k:Kz->Bool) (m:ZM) (a:ZZ):Env:=envD eqsT [] [] [] [(20,chG n k),(47,paG m a)] [] false [20,47]
noncomputable def atG (n:Nat) (k:Kz->Bool) (m:ZM) (a:ZZ):List AV->AH->Nat->Option (Bool × AV × AH):=deepP [false,false] PR (atE n k m a) [14,17] 30 18 4096 true
theorem at_ent:Enters PR 18:=entersB (by kernel_rfl)
theorem at_ok {n:Nat} {k:Kz->Bool} {m:ZM} {a:ZZ} (hK:CallOk PR 48 (chV k)) (hM:CallOk PR 35 (fn2 cKz.agg c6.agg kKzE m)) (hA:CallOk PR 36 (fn2 cKz.agg cKz.agg kKzE a)) :
 ActOk PR 4096 18 (atG n k m a) :=
 deepP_ok (ctxB (envD_ok eqsT_ok TabPOk.nil TabHOk.nil TabLOk.nil (TabDOk.cons ch_ent (ch_ok hK) (TabDOk.cons pa_ent (pa_ok hM hA) TabDOk.nil))) mixed (by kernel_rfl))
noncomputable def hoE (n:Nat) (k:Kz->Bool) (m:ZM) (a:ZZ) (q:Q3) (j:K3):Env:=envD eqsT [(41,oneV q j)] [] [] [(18,atG n k m a)] [] false [18]
noncomputable def hoG (n:Nat) (k:Kz->Bool) (m:ZM) (a:ZZ) (q:Q3) (j:K3):List AV->AH->Nat->Option (Bool × AV × AH):=deepP [] PR (hoE n k m a q j) [] 30 19 4096 true
theorem ho_ent:Enters PR 19:=entersB (by kernel_rfl)
theorem ho_ok {n:Nat} {k:Kz->Bool} {m:ZM} {a:ZZ} {q:Q3} {j:K3} (hK:CallOk PR 48 (chV k)) (hM:CallOk PR 35 (fn2 cKz.agg c6.agg kKzE m)) (hA:CallOk PR 36 (fn2 cKz.agg cKz.agg kKzE a))
 (hJ:CallOk PR 41 (oneV q j)):ActOk PR 4096 19 (hoG n k m a q j) :=
 deepP_ok (ctxB (envD_ok eqsT_ok (TabPOk.cons hJ TabPOk.nil) TabHOk.nil TabLOk.nil (TabDOk.cons at_ent (at_ok hK hM hA) TabDOk.nil)) mixed (by kernel_rfl))
end Go.Rq.Cl

namespace Go.Rq.Cl
open Go Go.Proofs Go.Rq Go.Rq.Sm Go.Rq.Vl
noncomputable def fiE (q:Q3) (ad ml:S3):Env:=envD eqsT [(34,fnQ3 (kInt .i64) c6.agg c6.agg kWE q ad),(39,fnQ3 (kInt .i64) c6.agg c6.agg kWE q ml)] [] [] [] [] false []
theorem fiE_ok {q:Q3} {ad ml:S3} (hA:CallOk PR 34 (fnQ3 (kInt .i64) c6.agg c6.agg kWE q ad)) (hM:CallOk PR 39 (fnQ3 (kInt .i64) c6.agg c6.agg kWE q ml)):EnvOk PR (fiE q ad ml) :=
 envD_ok eqsT_ok (TabPOk.cons hA (TabPOk.cons hM TabPOk.nil)) TabHOk.nil TabLOk.nil TabDOk.nil
set_option maxRecDepth 100000 in
theorem fa_run (q:Q3) (ad ml:S3) (s:Int) (a b:W6):valP [] (afunR PR (fiE q ad ml) [] (fun _=>none) 20 134 [kS.enc s,c6.agg.enc a,c6.agg.enc b])=some (tt (tt (q s a b)),some (c6.agg.val (ad s a b).1)):=by kernel_rfl
set_option maxRecDepth 100000 in
theorem fm_run (q:Q3) (ad ml:S3) (s:Int) (a b:W6):valP [] (afunR PR (fiE q ad ml) [] (fun _=>none) 20 135 [kS.enc s,c6.agg.enc a,c6.agg.enc b])=some (tt (tt (q s a b)),some (c6.agg.val (ml s a b).1)):=by kernel_rfl
theorem fnP3_is {α γ δ β:Type} (A:Cod α) (C:Cod γ) (D:Cod δ) (B:Cod β) (ok:α->γ->δ->Bool) (F:α->γ->δ->β):fnP3 A C D B ok F=fnQ3 A C D B ok F:=by kernel_rfl
def fst3 (f:S3):OpS:=fun s a b=>(f s a b).1
theorem fa_ok {q:Q3} {ad ml:S3} (hA:CallOk PR 34 (fnQ3 (kInt .i64) c6.agg c6.agg kWE q ad)) (hM:CallOk PR 39 (fnQ3 (kInt .i64) c6.agg c6.agg kWE q ml)) :
 CallOk PR 134 (fnP3 kS c6.agg c6.agg c6.agg q (fst3 ad)):=by
 rw [fnP3_is]
 exact .inl ⟨entersB (by kernel_rfl),
  pureQ3 (ctxB (fiE_ok hA hM) mixed (by kernel_rfl)) fun s a b h=>Go.Rq.givesP (fa_run q ad ml s a b) (by rw [h];rfl)⟩
theorem fm_ok {q:Q3} {ad ml:S3} (hA:CallOk PR 34 (fnQ3 (kInt .i64) c6.agg c6.agg kWE q ad)) (hM:CallOk PR 39 (fnQ3 (kInt .i64) c6.agg c6.agg kWE q ml)) :
 CallOk PR 135 (fnP3 kS c6.agg c6.agg c6.agg q (fst3 ml)):=by
 rw [fnP3_is]
 exact .inl ⟨entersB (by kernel_rfl),
  pureQ3 (ctxB (fiE_ok hA hM) mixed (by kernel_rfl)) fun s a b h=>Go.Rq.givesP (fm_run q ad ml s a b) (by rw [h];rfl)⟩
noncomputable def sfE (c:W6->W6->Int):Env:=envD eqsT [(86,fn2 c6.agg c6.agg (kInt .i64) c)] [] [] [] [] false []
noncomputable def sfG (c:W6->W6->Int):List AV->AH->Nat->Option (Bool × AV × AH):=deepP [] PR (sfE c) [] 20 185 4096 true
theorem sf_ent:Enters PR 185:=entersB (by kernel_rfl)
theorem sf_ok {c:W6->W6->Int} (hC:CallOk PR 86 (fn2 c6.agg c6.agg (kInt .i64) c)):ActOk PR 4096 185 (sfG c) :=
 deepP_ok (ctxB (envD_ok eqsT_ok (TabPOk.cons hC TabPOk.nil) TabHOk.nil TabLOk.nil TabDOk.nil) mixed (by kernel_rfl))
noncomputable def ixE (c:W6->W6->Int):Env:=envD eqsT [] [] [] [(185,sfG c)] [] false [185]
noncomputable def ixG (n:Nat) (c:W6->W6->Int):List AV->AH->Nat->Option (Bool × AV × AH):=deepP (List.replicate n false) PR (ixE c) [16] 30 229 4096 true
theorem ix_ent:Enters PR 229:=entersB (by kernel_rfl)
theorem ix_ok {n:Nat} {c:W6->W6->Int} (hC:CallOk PR 86 (fn2 c6.agg c6.agg (kInt .i64) c)):ActOk PR 4096 229 (ixG n c) :=
 deepP_ok (ctxB (envD_ok eqsT_ok TabPOk.nil TabHOk.nil TabLOk.nil (TabDOk.cons sf_ent (sf_ok hC) TabDOk.nil)) mixed (by kernel_rfl))
noncomputable def coE (n:Nat) (c:W6->W6->Int):Env:=envD eqsT [] [] [] [(229,ixG n c)] [] false [229]
noncomputable def coG (n:Nat) (c:W6->W6->Int):List AV->AH->Nat->Option (Bool × AV × AH):=deepP [] PR (coE n c) [] 30 184 4096 true
theorem co_ent:Enters PR 184:=entersB (by kernel_rfl)
theorem co_ok {n:Nat} {c:W6->W6->Int} (hC:CallOk PR 86 (fn2 c6.agg c6.agg (kInt .i64) c)):ActOk PR 4096 184 (coG n c) :=
 deepP_ok (ctxB (envD_ok eqsT_ok TabPOk.nil TabHOk.nil TabLOk.nil (TabDOk.cons ix_ent (ix_ok hC) TabDOk.nil)) mixed (by kernel_rfl))
noncomputable def ssE (n:Nat) (o:Int->W6 × Int) (c:W6->W6->Int):Env:=envD eqsT [(43,fn1 (kInt .i64) kWE o)] [] [] [(184,coG n c)] [] false [184]
noncomputable def ssG (n:Nat) (o:Int->W6 × Int) (c:W6->W6->Int):List AV->AH->Nat->Option (Bool × AV × AH):=deepP [] PR (ssE n o c) [] 30 132 4096 true
theorem ss_ent:Enters PR 132:=entersB (by kernel_rfl)
theorem ss_ok {n:Nat} {o:Int->W6 × Int} {c:W6->W6->Int} (hO:CallOk PR 43 (fn1 (kInt .i64) kWE o)) (hC:CallOk PR 86 (fn2 c6.agg c6.agg (kInt .i64) c)):ActOk PR 4096 132 (ssG n o c) :=
 deepP_ok (ctxB (envD_ok eqsT_ok (TabPOk.cons hO TabPOk.nil) TabHOk.nil TabLOk.nil (TabDOk.cons co_ent (co_ok hC) TabDOk.nil)) mixed (by kernel_rfl))
noncomputable def knG (o:Int->W6 × Int):List AV->Option (Bool × AV):=inlineS PR (envD eqsT [(43,fn1 (kInt .i64) kWE o)] [] [] [] [] false []) [] 20 131
theorem kn_ok {o:Int->W6 × Int} (hO:CallOk PR 43 (fn1 (kInt .i64) kWE o)):CallOk PR 131 (knG o) :=
 .inl ⟨entersB (by kernel_rfl),inlineS_ok (ctxB (envD_ok eqsT_ok (TabPOk.cons hO TabPOk.nil) TabHOk.nil TabLOk.nil TabDOk.nil) mixed (by kernel_rfl))⟩
noncomputable def plG:List AV->Option (Bool × AV):=inlineS PR (envD eqsT [(33,fn1 kU c6.agg ofW)] [] [] [] [] false []) [] 20 85
theorem pl_ok:CallOk PR 85 plG :=
 .inl ⟨entersB (by kernel_rfl),inlineS_ok (ctxB (envD_ok eqsT_ok (TabPOk.cons of_ok TabPOk.nil) TabHOk.nil TabLOk.nil TabDOk.nil) mixed (by kernel_rfl))⟩
noncomputable def ckE (n:Nat) (o:Int->W6 × Int) (c:W6->W6->Int):Env:=envD eqsT [(131,knG o)] [] [] [(132,ssG n o c)] [] false [132]
noncomputable def ckG (n:Nat) (o:Int->W6 × Int) (c:W6->W6->Int):List AV->AH->Nat->Option (Bool × AV × AH):=deepP [false,false,false] PR (ckE n o c) [10,22,26] 30 83 4096 true
theorem ck_ent:Enters PR 83:=entersB (by kernel_rfl)
theorem ck_ok {n:Nat} {o:Int->W6 × Int} {c:W6->W6->Int} (hO:CallOk PR 43 (fn1 (kInt .i64) kWE o)) (hC:CallOk PR 86 (fn2 c6.agg c6.agg (kInt .i64) c)):ActOk PR 4096 83 (ckG n o c) :=
 deepP_ok (ctxB (envD_ok eqsT_ok (TabPOk.cons (kn_ok hO) TabPOk.nil) TabHOk.nil TabLOk.nil (TabDOk.cons ss_ent (ss_ok hO hC) TabDOk.nil)) mixed (by kernel_rfl))
noncomputable def svE (n:Nat) (o:Int->W6 × Int) (c:W6->W6->Int) (q:Q3) (ad ml:S3):Env:=envD eqsT [(85,plG)] [(84,valG q q (fst3 ad) (fst3 ml))] [] [(83,ckG n o c)] [] false [83,84]
noncomputable def svG (n:Nat) (o:Int->W6 × Int) (c:W6->W6->Int) (q:Q3) (ad ml:S3):List AV->AH->Nat->Option (Bool × AV × AH):=deepP [] PR (svE n o c q ad ml) [] 30 40 4096 true
theorem sv_ent:Enters PR 40:=entersB (by kernel_rfl)
theorem sv_ok {n:Nat} {o:Int->W6 × Int} {c:W6->W6->Int} {q:Q3} {ad ml:S3} (hO:CallOk PR 43 (fn1 (kInt .i64) kWE o)) (hC:CallOk PR 86 (fn2 c6.agg c6.agg (kInt .i64) c))
 (hA:CallOk PR 34 (fnQ3 (kInt .i64) c6.agg c6.agg kWE q ad)) (hM:CallOk PR 39 (fnQ3 (kInt .i64) c6.agg c6.agg kWE q ml)):ActOk PR 4096 40 (svG n o c q ad ml) :=
 deepP_ok (ctxB (envD_ok eqsT_ok (TabPOk.cons pl_ok TabPOk.nil) (TabHOk.cons val_ent (valG_ok (fa_ok hA hM) (fm_ok hA hM)) TabHOk.nil) TabLOk.nil (TabDOk.cons ck_ent (ck_ok hO hC) TabDOk.nil))
  mixed (by kernel_rfl))
end Go.Rq.Cl

namespace Go.Rq.Cl
open Go Go.Proofs Go.Rq Go.Rq.Sm
abbrev Q5:Type:=Int->W6->W6->W6->W6->Bool
abbrev E5:Type:=Int->W6->W6->W6->W6->W6 × Int
structure XT where
 gn:Int->Kz × Int
 m:ZM
 fi:F5Z
 o:Int->W6 × Int
 d:DF
 q:Q3
 ad:S3
 ml:S3
 eq:Q5
 ef:E5
section
variable (t:XT) (s:Int) (x0 x1 x2 x3 x4:W6)
end
structure Ar (O:Int->W6 × Int) (Q:Q3) (P:Int->W6->Bool) (A S M:S3) (V:Int->W6->W6 × Int) (s:Int) (r:Nat):Prop where
 oz:(O s).2=0
 q:∀ a b:W6,a.val < r->b.val < r->Q s a b=true
 p:∀ a:W6,a.val < r->P s a=true
 ad:∀ a b:W6,a.val < r->b.val < r->(A s a b).2=0 /\ (A s a b).1.val=(a.val+b.val) % r
 sb:∀ a b:W6,a.val < r->b.val < r->(S s a b).2=0 /\ (S s a b).1.val=(a.val+(r - b.val)) % r
 ml:∀ a b:W6,a.val < r->b.val < r->(M s a b).2=0 /\ (M s a b).1.val=a.val*b.val % r
 iv:∀ a:W6,a.val < r->a.val ≠ 0->(V s a).2=0 /\ (V s a).1.val < r /\ a.val*(V s a).1.val % r=1
section
variable {K:Kz->Bool} {O:Int->W6 × Int} {C:W6->W6->Int} {M:ZM} {A:ZZ} {N:Kz->Kz × Int} {s:Int} {r:Nat} {φ:Nat->Kz} {Q:Q3} {P:Int->W6->Bool} {AD SB ML:S3} {IV:Int->W6->W6 × Int}
end
section
variable {K:Kz->Bool} {C:W6->W6->Int} {A:ZZ} {N:Kz->Kz × Int} {P:Int->W6->Bool} {S:S3} {V:Int->W6->W6 × Int} {gn:Int->Kz × Int} {m:ZM} {o:Int->W6 × Int} {d:DF} {q:Q3} {ad ml:S3}
end
theorem pr_md (s:Sx) (m:Md) (h:mdS s=some m):Pr (mdN m):=by
 cases s <;> cases h
 . exact pr_r
 . exact pr_65521
 . exact pr_72057594037927889
theorem ar_su {s:Int} {m:Md} (h:mdS (Sx.of s)=some m) (hz:(OZ s).2=0):Ar OZ q2Z q1Z adZ sbZ mlZ ivZ s (mdN m):=by
 have M:=mg_md m
 have hv:=modS_val m
 have hq:∀ a:W6,a.val < mdN m->scQ (Sx.of s) a=true:=fun a ha=>by
  unfold scQ
  rw [h]
  exact decide_eq_true ha
 have ho:∀ (op:Mo->W6->W6->W6) (a b:W6),opF op (Sx.of s) a b=(op (modS m) a b,0):=fun op a b=>by
  unfold opF
  rw [h]
 refine ⟨hz,fun a b ha hb=>?_,fun a ha=>hq a ha,fun a b _ _=>?_,fun a b ha hb=>?_,fun a b _ hb=>?_,fun a ha hn=>?_⟩
 . show (scQ (Sx.of s) a && scQ (Sx.of s) b)=true
   rw [hq a ha,hq b hb];rfl
 . show (opF qaddW (Sx.of s) a b).2=0 /\ (opF qaddW (Sx.of s) a b).1.val=_
   rw [ho]
   refine ⟨rfl,?_⟩
   have:=mg_add M a b
   rw [hv] at this
   exact this
 . show (opF qsubW (Sx.of s) a b).2=0 /\ (opF qsubW (Sx.of s) a b).1.val=_
   rw [ho]
   refine ⟨rfl,?_⟩
   have:=mg_sub M a b
   rw [hv,Nat.mod_eq_of_lt ha,Nat.mod_eq_of_lt hb] at this
   exact this
 . show (opF qmulW (Sx.of s) a b).2=0 /\ (opF qmulW (Sx.of s) a b).1.val=_
   rw [ho]
   refine ⟨rfl,?_⟩
   have:=mg_mul M a b (by rw [hv];exact hb)
   rw [hv] at this
   exact this
 . show (ivF (Sx.of s) a).2=0 /\ (ivF (Sx.of s) a).1.val < mdN m /\ a.val*(ivF (Sx.of s) a).1.val % mdN m=1
   have e:ivF (Sx.of s) a=invF m a:=by
    unfold ivF
    rw [h]
   rw [e]
   exact inv_val (pr_md _ m h) fun hd=>hn (Nat.eq_zero_of_dvd_of_lt hd ha)
end Go.Rq.Cl

namespace Go.Rq.Sm
open Go Go.Proofs Go.Rq
structure Sg (K:Kz->Bool) (M:ZM) (A:ZZ) (N:Kz->Kz × Int) (s:Int) (r:Nat) {G:Type} (g:Gm G) (ι:G->Kz):Prop where
 ord:∀ a,g.mul r a=g.zero
 inj:∀ {a b},ι a=ι b->a=b
 may:∀ a,K (ι a)=true
 sui:∀ a,(ι a).1=s
 all:∀ k:Kz,k.1=s->K k=true->∃ a,ι a=k
 mul:∀ (a:G) (x:W6),x.val < r->M (ι a) x=(ι (g.mul x.val a),0)
 add:∀ a b,A (ι a) (ι b)=(ι (g.add a b),0)
 neg:∀ a,N (ι a)=(ι (g.neg a),0)
structure GzOk (I:Ap W6->Bool) (A:Ap W6->Ap W6->Ap W6 × Int) (M:Ap W6->W6->Ap W6 × Int) (N:Ap W6->Ap W6 × Int) (z:Ap W6):Prop where
 zi:I z=true
 ai:∀ {p q},I p=true->I q=true->I (A p q).1=true
 ni:∀ {p},I p=true->I (N p).1=true
 comm:∀ {p q},I p=true->I q=true->(A p q).1=(A q p).1
 assoc:∀ {p q t},I p=true->I q=true->I t=true->(A (A p q).1 t).1=(A p (A q t).1).1
 zero:∀ {p},I p=true->(A z p).1=p
 inv:∀ {p},I p=true->(A (N p).1 p).1=z
 mul:∀ {p},I p=true->∃ μ:Nat->Ap W6,μ 0=z /\ (∀ n,μ (n+1)=(A (μ n) p).1) /\ μ rN=z /\ ∀ x:W6,(M p x).1=μ x.val
section
variable {K:Type} [Rg K] {iv:K->K} {e:K->K->Bool} {M P:K->W6->Prop} {f:Fl K}
theorem gz_of (L:Lk iv e M P f) (hlt:∀ {x:K} {w:W6},P x w->w.val < pN) (C:Cv L.F f.b):GzOk inGroup1 addP1 sumP1W negP1 zeroP1:=by
 have B:=L.br hlt
 have H:=B.gp C
 have pt:∀ {p:Ap W6},inGroup1 p=true->checkP1 p=true /\ ∃ X:Ap K,RA P X p /\ Go.Rq.Pt f.b X /\ Go.Rq.nsm iv e X rN=⟨0,0,true⟩:=by
  intro p hp
  have hc:rcheck1 p=true:=by
   rw [L.ing] at hp
   cases h:rcheck1 p with
   | true=>rfl
   | false=>rw [h] at hp;cases hp
  have hk:checkP1 p=true:=by rw [L.check];exact hc
  obtain ⟨X,h1,h2⟩:=B.pt hk
  rw [L.ingN hlt C h1 h2] at hp
  exact ⟨hk,X,h1,h2,(nsm_pt L.F h2 rN).z hp⟩
 have of:∀ {X:Ap K} {p:Ap W6},RA P X p->Go.Rq.Pt f.b X->Go.Rq.nsm iv e X rN=⟨0,0,true⟩->inGroup1 p=true:=by
  intro X p h1 h2 h3
  rw [L.ingN hlt C h1 h2,h3]
 have nsum:∀ {X Y:Ap K},Go.Rq.Pt f.b X->Go.Rq.Pt f.b Y->∀ n,Go.Rq.nsm iv e (sumA iv e X Y) n=sumA iv e (Go.Rq.nsm iv e X n) (Go.Rq.nsm iv e Y n):=by
  intro X Y hX hY n
  induction n with
  | zero=>rfl
  | succ n ih =>
   have p1:=nsm_pt L.F hX n
   have p2:=nsm_pt L.F hY n
   show sumA iv e (Go.Rq.nsm iv e (sumA iv e X Y) n) (sumA iv e X Y)=sumA iv e (sumA iv e (Go.Rq.nsm iv e X n) X) (sumA iv e (Go.Rq.nsm iv e Y n) Y)
   rw [ih,sum_assoc L.F C p1 p2 (sum_pt L.F hX hY),<- sum_assoc L.F C p2 hX hY,sum_comm L.F p2 hX,sum_assoc L.F C hX p2 hY,<- sum_assoc L.F C p1 hX (sum_pt L.F p2 hY)]
 refine ⟨?_,?_,?_,?_,?_,?_,?_,?_⟩
 . refine of B.zp .zero ?_
   exact nsm_zero _
 . intro p q hp hq
   obtain ⟨-,X,x1,x2,x3⟩:=pt hp
   obtain ⟨-,Y,y1,y2,y3⟩:=pt hq
   refine of (B.ad x1 y1 x2 y2).2 (sum_pt L.F x2 y2) ?_
   rw [nsum x2 y2,x3,y3];rfl
 . intro p hp
   obtain ⟨hk,X,x1,x2,x3⟩:=pt hp
   have h:=(B.ne x1 x2).2
   refine of h (neg_pt x2) ?_
   have k:sumA iv e (Go.Rq.nsm iv e (negK X) rN) (Go.Rq.nsm iv e X rN)=⟨0,0,true⟩:=by
    rw [<- nsum (neg_pt x2) x2,sum_comm L.F (neg_pt x2) x2,sum_neg L.F x2,nsm_zero]
   have hp2:=nsm_pt L.F (neg_pt x2) rN
   have zl:∀ Y:Ap K,sumA iv e ⟨0,0,true⟩ Y=Y:=fun Y=>rfl
   rw [x3,sum_comm L.F hp2 .zero,zl] at k
   exact k
 . intro p q hp hq
   exact H.comm p q (pt hp).1 (pt hq).1
 . intro p q t hp hq ht
   exact H.assoc p q t (pt hp).1 (pt hq).1 (pt ht).1
 . intro p hp
   have hk:=(pt hp).1
   have h:=H.comm zeroP1 p H.zc hk
   rw [show (addP1 zeroP1 p).1=(addP1 p zeroP1).1 from h]
   exact H.zero p hk
 . intro p hp
   have hk:=(pt hp).1
   have h:=H.comm (negP1 p).1 p (H.ne p hk).2 hk
   rw [show (addP1 (negP1 p).1 p).1=(addP1 p (negP1 p).1).1 from h]
   exact H.neg p hk
 . intro p hp
   obtain ⟨hk,X,x1,x2,x3⟩:=pt hp
   have ex:∀ n,∃ q:Ap W6,RA P (Go.Rq.nsm iv e X n) q:=by
    intro n
    induction n with
    | zero=>exact ⟨_,B.zp⟩
    | succ n ih =>
     obtain ⟨q,hq⟩:=ih
     exact ⟨_,(B.ad hq x1 (nsm_pt L.F x2 n) x2).2⟩
   obtain ⟨μ,hμ⟩:∃ μ:Nat->Ap W6,∀ n,RA P (Go.Rq.nsm iv e X n) (μ n):=⟨fun n=>Classical.choose (ex n),fun n=>Classical.choose_spec (ex n)⟩
   refine ⟨μ,B.inj (hμ 0) B.zp,fun n=>?_,?_,fun x=>?_⟩
   . exact B.inj (hμ (n+1)) (B.ad (hμ n) x1 (nsm_pt L.F x2 n) x2).2
   . have h:=hμ rN
     rw [x3] at h
     exact B.inj h B.zp
   . exact B.inj (L.nsm hlt C x1 x2 x).2 (hμ x.val)
end
theorem gz_ex:GzOk inGroup1 addP1 sumP1W negP1 zeroP1:=by
 obtain ⟨b,L,C⟩:=link1c
 exact gz_of L rp_lt C
def gzT (I:Ap W6->Bool):Type:={p:Ap W6 // I p=true}
section
variable {I:Ap W6->Bool} {A:Ap W6->Ap W6->Ap W6 × Int} {M:Ap W6->W6->Ap W6 × Int} {N:Ap W6->Ap W6 × Int} {z:Ap W6}
def gzG (h:GzOk I A M N z):Gm (gzT I) where
 add a b:=⟨(A a.1 b.1).1,h.ai a.2 b.2⟩
 zero:=⟨z,h.zi⟩
 neg a:=⟨(N a.1).1,h.ni a.2⟩
 comm a b:=Subtype.ext (h.comm a.2 b.2)
 assoc a b c:=Subtype.ext (h.assoc a.2 b.2 c.2)
 nought a:=Subtype.ext (h.zero a.2)
 inv a:=Subtype.ext (h.inv a.2)
theorem gz_mul (h:GzOk I A M N z) (a:gzT I):(∀ x:W6,(M a.1 x).1=((gzG h).mul x.val a).1) /\ (gzG h).mul rN a=(gzG h).zero:=by
 obtain ⟨μ,m0,m1,m2,m3⟩:=h.mul a.2
 have k:∀ n,((gzG h).mul n a).1=μ n:=by
  intro n
  induction n with
  | zero=>exact m0.symm
  | succ n ih =>
   rw [m1,<- ih];rfl
 refine ⟨fun x=>by rw [m3,k],Subtype.ext ?_⟩
 rw [k,m2];rfl
def gzI (a:gzT I):Kz:=(0,ofAp a.1,zLx)
theorem kch_gz (a:gzT I):kchX (fun p=>I (toAp p)) (toKx (gzI a))=true:=by
 show (bif eqLz zLx then I (toAp (ofAp a.1)) else false)=true
 rw [zLx_is,cond_true,toAp_ofAp,a.2]
theorem ky1_gz (a:gzT I) {x:W6} (hx:x.val < rN):ky1 (kchX (fun p=>I (toAp p))) ordX cmpX x (toKx (gzI a))=0:=by
 unfold ky1
 rw [kch_gz]
 have e:ordX (toKx (gzI a)).1=rWx:=rfl
 rw [e,cmpX_ge (by rw [rWx_val];exact hx)]
 simp
theorem ky2_gz (a b:gzT I):ky2 (kchX (fun p=>I (toAp p))) ordX cmpX zW6 (toKx (gzI a)) (toKx (gzI b))=0:=by
 unfold ky2
 rw [kch_gz,kch_gz]
 have e:ordX (toKx (gzI a)).1=rWx:=rfl
 have e2:(toKx (gzI a)).1.int=(toKx (gzI b)).1.int:=rfl
 rw [e,cmpX_ge (by rw [rWx_val];exact rN_pos),e2]
 simp
theorem eqLz_iff {l:Lx} (h:eqLz l=true):l=zLx:=by
 obtain ⟨a,b,c⟩:=l
 simp only [eqLz,Bool.and_eq_true,beq_iff_eq,and_true] at h
 obtain ⟨rfl,rfl,rfl⟩:=h
 rfl
theorem sg_gr (h:GzOk I A M N z) :
 Sg (fun a=>kchX (fun p=>I (toAp p)) (toKx a)) (kmuX (fun p=>I (toAp p)) (fun p n=>ofE (M (toAp p) n))) (kadX (fun p=>I (toAp p)) (fun p q=>ofE (A (toAp p) (toAp q))))
  (kneX (fun p=>I (toAp p)) (fun p=>ofE (N (toAp p)))) 0 rN (gzG h) gzI where
 ord a:=(gz_mul h a).2
 inj {a b} hh:=by
  have hh:ofAp a.1=ofAp b.1:=(Prod.mk.inj (Prod.mk.inj hh).2).1
  apply Subtype.ext
  rw [<- toAp_ofAp a.1,hh,toAp_ofAp]
 may a:=kch_gz a
 sui a:=rfl
 all k hs hk:=by
  obtain ⟨s,p,l⟩:=k
  have hs:s=0:=hs
  subst hs
  have hk:(bif eqLz l then I (toAp p) else false)=true:=hk
  cases hl:eqLz l with
  | false=>rw [hl] at hk;cases hk
  | true =>
   rw [hl,cond_true] at hk
   refine ⟨⟨toAp p,hk⟩,?_⟩
   rw [eqLz_iff hl]
   rfl
 mul a x hx:=by
  unfold kmuX kmuG
  rw [ky1_gz a hx]
  show (((0:Int),ofAp (M (toAp (ofAp a.1)) x).1,zLx),(0:Int))=_
  rw [toAp_ofAp,(gz_mul h a).1]
  rfl
 add a b:=by
  unfold kadX kadG
  rw [ky2_gz a b]
  show (((0:Int),ofAp (A (toAp (ofAp a.1)) (toAp (ofAp b.1))).1,zLx),(0:Int))=_
  rw [toAp_ofAp,toAp_ofAp]
  rfl
 neg a:=by
  unfold kneX kneG
  rw [ky1_gz a (x:=zW6) rN_pos]
  show (((0:Int),ofAp (N (toAp (ofAp a.1))).1,zLx),(0:Int))=_
  rw [toAp_ofAp]
  rfl
end
section
variable (s:Su)
theorem in_iff {p:Lp}:inF s p=true ↔ ∃ A:Ap (Fsu s),p=wp A /\ Cw.Pt A /\ Cw.nsm ivF eqF A (suRn s)=⟨0,0,true⟩:=by
 unfold inF
 constructor
 . intro h
   cases ho:onF s p with
   | false=>rw [ho] at h;cases h
   | true =>
    rw [ho,cond_true] at h
    obtain ⟨A,h1,h2⟩:=on_iff.1 ho
    subst h1
    rw [lTimes_wp h2,suR_nat] at h
    exact ⟨A,rfl,h2,(Cw.nsm_pt (fdS s) h2 _).z h⟩
 . rintro ⟨A,rfl,h2,h3⟩
   rw [on_iff.2 ⟨A,rfl,h2⟩,cond_true,lTimes_wp h2,suR_nat,h3]
   rfl
theorem nsum_lit {X Y:Ap (Fsu s)} (hX:Cw.Pt X) (hY:Cw.Pt Y) (n:Nat):Cw.nsm ivF eqF (Cw.sumW ivF eqF X Y) n=Cw.sumW ivF eqF (Cw.nsm ivF eqF X n) (Cw.nsm ivF eqF Y n):=by
 have F:=fdS s
 induction n with
 | zero=>rfl
 | succ n ih =>
  have p1:=Cw.nsm_pt F hX n
  have p2:=Cw.nsm_pt F hY n
  show Cw.sumW ivF eqF (Cw.nsm ivF eqF (Cw.sumW ivF eqF X Y) n) (Cw.sumW ivF eqF X Y)=Cw.sumW ivF eqF (Cw.sumW ivF eqF (Cw.nsm ivF eqF X n) X) (Cw.sumW ivF eqF (Cw.nsm ivF eqF Y n) Y)
  rw [ih,Cw.sum_assoc F p1 p2 (Cw.sum_pt F hX hY),<- Cw.sum_assoc F p2 hX hY,Cw.sum_comm F p2 hX,Cw.sum_assoc F hX p2 hY,<- Cw.sum_assoc F p1 hX (Cw.sum_pt F p2 hY)]
def glT:Type:={p:Lp // inF s p=true}
theorem zl_lit (Y:Ap (Fsu s)):Cw.sumW ivF eqF (⟨0,0,true⟩:Ap (Fsu s)) Y=Y:=rfl
noncomputable def glG:Gm (glT s) where
 add a b:=⟨lSum s a.1 b.1,by
  obtain ⟨X,x1,x2,x3⟩:=(in_iff s).1 a.2
  obtain ⟨Y,y1,y2,y3⟩:=(in_iff s).1 b.2
  rw [x1,y1,lSum_wp x2 y2]
  exact (in_iff s).2 ⟨_,rfl,Cw.sum_pt (fdS s) x2 y2,by rw [nsum_lit s x2 y2,x3,y3];rfl⟩⟩
 zero:=⟨lp0,(in_iff s).2 ⟨⟨0,0,true⟩,wp_zero.symm,.zero,Cw.nsm_zero _⟩⟩
 neg a:=⟨(a.1.1,lSub s 0#64 a.1.2.1,a.1.2.2),by
  obtain ⟨X,x1,x2,x3⟩:=(in_iff s).1 a.2
  rw [x1,lneg_wp]
  refine (in_iff s).2 ⟨_,rfl,Cw.neg_pt x2,?_⟩
  have hp2:=Cw.nsm_pt (fdS s) (Cw.neg_pt x2) (suRn s)
  have k:Cw.sumW ivF eqF (Cw.nsm ivF eqF (negK X) (suRn s)) (Cw.nsm ivF eqF X (suRn s))=⟨0,0,true⟩:=by
   rw [<- nsum_lit s (Cw.neg_pt x2) x2,Cw.sum_comm (fdS s) (Cw.neg_pt x2) x2,Cw.sum_neg (fdS s) x2,Cw.nsm_zero]
  rw [x3,Cw.sum_comm (fdS s) hp2 .zero,zl_lit] at k
  exact k⟩
 comm a b:=Subtype.ext (by
  obtain ⟨X,x1,x2,x3⟩:=(in_iff s).1 a.2
  obtain ⟨Y,y1,y2,y3⟩:=(in_iff s).1 b.2
  show lSum s a.1 b.1=lSum s b.1 a.1
  rw [x1,y1,lSum_wp x2 y2,lSum_wp y2 x2,Cw.sum_comm (fdS s) x2 y2])
 assoc a b c:=Subtype.ext (by
  obtain ⟨X,x1,x2,x3⟩:=(in_iff s).1 a.2
  obtain ⟨Y,y1,y2,y3⟩:=(in_iff s).1 b.2
  obtain ⟨Z,z1,z2,z3⟩:=(in_iff s).1 c.2
  show lSum s (lSum s a.1 b.1) c.1=lSum s a.1 (lSum s b.1 c.1)
  rw [x1,y1,z1,lSum_wp x2 y2,lSum_wp y2 z2,lSum_wp (Cw.sum_pt (fdS s) x2 y2) z2,lSum_wp x2 (Cw.sum_pt (fdS s) y2 z2),Cw.sum_assoc (fdS s) x2 y2 z2])
 nought a:=Subtype.ext (by
  obtain ⟨X,x1,x2,x3⟩:=(in_iff s).1 a.2
  show lSum s lp0 a.1=a.1
  rw [x1,<- wp_zero (s:=s),lSum_wp .zero x2,zl_lit])
 inv a:=Subtype.ext (by
  obtain ⟨X,x1,x2,x3⟩:=(in_iff s).1 a.2
  show lSum s (a.1.1,lSub s 0#64 a.1.2.1,a.1.2.2) a.1=lp0
  rw [x1,lneg_wp,lSum_wp (Cw.neg_pt x2) x2,Cw.sum_comm (fdS s) (Cw.neg_pt x2) x2,Cw.sum_neg (fdS s) x2,wp_zero])
theorem gl_mul (a:glT s):(∀ x:BitVec 64,lTimes s a.1 x=((glG s).mul x.toNat a).1) /\ (glG s).mul (suRn s) a=(glG s).zero:=by
 obtain ⟨X,x1,x2,x3⟩:=(in_iff s).1 a.2
 have k:∀ n,((glG s).mul n a).1=wp (Cw.nsm ivF eqF X n):=by
  intro n
  induction n with
  | zero=>exact wp_zero.symm
  | succ n ih =>
   show lSum s ((glG s).mul n a).1 a.1=wp (Cw.sumW ivF eqF (Cw.nsm ivF eqF X n) X)
   rw [ih,x1,lSum_wp (Cw.nsm_pt (fdS s) x2 n) x2]
 refine ⟨fun x=>by rw [k,x1,lTimes_wp x2],Subtype.ext ?_⟩
 rw [k,x3,wp_zero];rfl
def glI (a:glT s):Kz:=((suSx s).int,zPx,a.1)
theorem glI_kx (a:glT s):toKx (glI s a)=(suSx s,zPx,a.1):=by
 unfold toKx glI
 rw [Sx.of_int]
theorem kch_gl (I:Px->Bool) (a:glT s):kchX I (toKx (glI s a))=true:=by
 rw [glI_kx]
 have h:=a.2
 cases s
 . show (bif eqPx zPx then inF .lit a.1 else false)=true
   rw [zPx_is,cond_true,h]
 . show (bif eqPx zPx then inF .mid a.1 else false)=true
   rw [zPx_is,cond_true,h]
theorem ky1_gl (I:Px->Bool) (a:glT s) {x:W6} (h:x.val < suRn s):ky1 (kchX I) ordX cmpX x (suSx s,zPx,a.1)=0:=by
 unfold ky1
 rw [<- glI_kx,kch_gl,glI_kx]
 dsimp only
 rw [cmpX_ge (by rw [ordX_val];exact h)]
 simp
theorem ky2_gl (I:Px->Bool) (a b:glT s):ky2 (kchX I) ordX cmpX zW6 (suSx s,zPx,a.1) (suSx s,zPx,b.1)=0:=by
 unfold ky2
 rw [<- glI_kx,<- glI_kx,kch_gl,kch_gl,glI_kx,glI_kx]
 dsimp only
 rw [cmpX_ge (by rw [ordX_val];exact suRn_pos s)]
 simp
theorem eqPx_iff {p:Px} (h:eqPx p=true):p=zPx:=by
 obtain ⟨⟨a0,a1,a2,a3,a4,a5⟩,⟨b0,b1,b2,b3,b4,b5⟩,c⟩:=p
 simp only [eqPx,eqW6,Bool.and_eq_true,beq_iff_eq,and_true] at h
 obtain ⟨rfl,rfl,rfl,rfl,rfl,rfl,rfl,rfl,rfl,rfl,rfl,rfl,rfl⟩:=h
 rfl
theorem sg_lit (I:Px->Bool) (A1:Px->Px->Px × Int) (M1:Px->W6->Px × Int) (N1:Px->Px × Int) :
 Sg (fun a=>kchX I (toKx a)) (kmuX I M1) (kadX I A1) (kneX I N1) (suSx s).int (suRn s) (glG s) (glI s) where
 ord a:=(gl_mul s a).2
 inj {a b} hh:=Subtype.ext (Prod.mk.inj (Prod.mk.inj hh).2).2
 may a:=kch_gl s I a
 sui a:=rfl
 all k hs hk:=by
  obtain ⟨n,p,l⟩:=k
  have hs:n=(suSx s).int:=hs
  subst hs
  have e:toKx ((suSx s).int,p,l)=(suSx s,p,l):=by unfold toKx;rw [Sx.of_int]
  rw [e] at hk
  have hk:(bif eqPx p then inF s l else false)=true:=by cases s <;> exact hk
  cases hl:eqPx p with
  | false=>rw [hl] at hk;cases hk
  | true =>
   rw [hl,cond_true] at hk
   exact ⟨⟨l,hk⟩,by rw [eqPx_iff hl];rfl⟩
 mul a x h:=by
  unfold kmuX kmuG
  rw [glI_kx,ky1_gl s I a h]
  have e:lTimes s a.1 x.w0=((glG s).mul x.val a).1:=by rw [(gl_mul s a).1,w0_val (Nat.lt_trans h (suRn_lt s))]
  cases s
  . show (((1:Int),zPx,lTimes .lit a.1 x.w0),(0:Int))=_
    rw [e];rfl
  . show (((2:Int),zPx,lTimes .mid a.1 x.w0),(0:Int))=_
    rw [e];rfl
 add a b:=by
  unfold kadX kadG
  rw [glI_kx,glI_kx,ky2_gl s I a b]
  cases s <;> rfl
 neg a:=by
  unfold kneX kneG
  rw [glI_kx,ky1_gl s I a (x:=zW6) (suRn_pos s)]
  cases s <;> rfl
end
end Go.Rq.Sm

namespace Go.Rq.Cl
open Go Go.Proofs Go.Rq Go.Rq.Sm
section
variable {K:Kz->Bool} {O:Int->W6 × Int} {M:ZM} {A:ZZ} {N:Kz->Kz × Int} {s:Int} {r:Nat} {Q:Q3} {P:Int->W6->Bool} {AD SB ML:S3} {IV:Int->W6->W6 × Int}
variable {G:Type} {g:Gm G} {ι:G->Kz}
theorem one_is (h:Sg K M A N s r g ι) (γ η:G) {u v:W6} (hu:u.val < r) (hv:v.val < r):A (M (ι γ) u).1 (M (ι η) v).1=(ι (g.com γ η u.val v.val),0):=by
 rw [h.mul γ u hu,h.mul η v hv]
 exact h.add _ _
end
def atK (M:ZM) (A:ZZ) (x:W6):List Kz->Kz
 | []=>zKz
 | [c]=>c
 | c :: d :: t=>(A (M (atK M A x (d :: t)) x).1 c).1
def valK (AD ML:S3) (s:Int) (x:W6):List W6->W6
 | []=>zW6
 | c :: t=>(AD s (ML s (valK AD ML s x t) x).1 c).1
def comK (M:ZM) (A:ZZ) (c d:Kz):List (W6 × W6)->List Kz
 | []=>[]
 | p :: t=>(A (M c p.1).1 (M d p.2).1).1 :: comK M A c d t
section
variable {K:Kz->Bool} {O:Int->W6 × Int} {M:ZM} {A:ZZ} {N:Kz->Kz × Int} {s:Int} {r:Nat} {Q:Q3} {P:Int->W6->Bool} {AD SB ML:S3} {IV:Int->W6->W6 × Int}
variable {G:Type} {g:Gm G} {ι:G->Kz}
theorem atK_is (h:Sg K M A N s r g ι) {x:W6} (hx:x.val < r):∀ l:List G,l ≠ []->atK M A x (l.map ι)=ι (g.atG x.val l)
 | [],e=>absurd rfl e
 | [_],_=>rfl
 | c :: d :: t,_=>by
  have ih:=atK_is h hx (d :: t) (by simp)
  show (A (M (atK M A x ((d :: t).map ι)) x).1 (ι c)).1=ι (g.add (g.mul x.val (g.atG x.val (d :: t))) c)
  rw [ih,h.mul _ x hx,h.add]
theorem zW6_val:zW6.val=0:=by decide
theorem valK_is (a:Ar O Q P AD SB ML IV s r) (hr:0 < r) {x:W6} (hx:x.val < r):∀ l:List W6,(∀ c ∈ l,c.val < r)->(valK AD ML s x l).val=valN r x.val (l.map (·.val))
 | [],_=>zW6_val
 | c :: t,e=>by
  have ih:=valK_is a hr hx t fun d hd=>e d (List.mem_cons_of_mem _ hd)
  have hc:=e c (List.mem_cons_self ..)
  have hv:(valK AD ML s x t).val < r:=by rw [ih];exact valN_lt hr _ _
  have m1:=(a.ml _ x hv hx).2
  have hm:(ML s (valK AD ML s x t) x).1.val < r:=by rw [m1];exact Nat.mod_lt _ hr
  show (AD s (ML s (valK AD ML s x t) x).1 c).1.val=(valN r x.val (t.map (·.val))*x.val % r+c.val) % r
  rw [(a.ad _ c hm hc).2,m1,ih]
theorem valK_lt (a:Ar O Q P AD SB ML IV s r) (hr:0 < r) {x:W6} (hx:x.val < r) (l:List W6) (e:∀ c ∈ l,c.val < r):(valK AD ML s x l).val < r:=by
 rw [valK_is a hr hx l e];exact valN_lt hr _ _
theorem comK_is (h:Sg K M A N s r g ι) (γ η:G):∀ l:List (W6 × W6),(∀ p ∈ l,p.1.val < r /\ p.2.val < r)->comK M A (ι γ) (ι η) l=(l.map fun p=>g.com γ η p.1.val p.2.val).map ι
 | [],_=>rfl
 | p :: t,e=>by
  have ih:=comK_is h γ η t fun q hq=>e q (List.mem_cons_of_mem _ hq)
  obtain ⟨h1,h2⟩:=e p (List.mem_cons_self ..)
  show (A (M (ι γ) p.1).1 (M (ι η) p.2).1).1 :: comK M A (ι γ) (ι η) t=ι (g.com γ η p.1.val p.2.val) :: (t.map fun p=>g.com γ η p.1.val p.2.val).map ι
  rw [ih,one_is h γ η h1 h2]
theorem holds_is (h:Sg K M A N s r g ι) (a:Ar O Q P AD SB ML IV s r) (hr:0 < r) (γ η:G) {x:W6} (hx:x.val < r) {l:List (W6 × W6)} (hl:l ≠ []) (e:∀ p ∈ l,p.1.val < r /\ p.2.val < r) :
 A (M (ι γ) (valK AD ML s x (l.map (·.1)))).1 (M (ι η) (valK AD ML s x (l.map (·.2)))).1=(atK M A x (comK M A (ι γ) (ι η) l),0):=by
 have e1:∀ c ∈ l.map (·.1),c.val < r:=fun c hc=>by
  obtain ⟨p,hp,rfl⟩:=List.mem_map.1 hc
  exact (e p hp).1
 have e2:∀ c ∈ l.map (·.2),c.val < r:=fun c hc=>by
  obtain ⟨p,hp,rfl⟩:=List.mem_map.1 hc
  exact (e p hp).2
 rw [one_is h γ η (valK_lt a hr hx _ e1) (valK_lt a hr hx _ e2),valK_is a hr hx _ e1,valK_is a hr hx _ e2,comK_is h γ η l e,atK_is h hx _ (by simpa using hl)]
 have k:=g.at_com (h.ord γ) (h.ord η) x.val (l.map fun p=>(p.1.val,p.2.val)) (by simpa using hl)
 simp only [List.map_map] at k ⊢
 exact congrArg (fun z=>(ι z,(0:Int))) k.symm
theorem sum_is (h:Sg K M A N s r g ι) (a:Ar O Q P AD SB ML IV s r) (hr:0 < r) (γ η:G) {u v w z:W6} (hu:u.val < r) (hv:v.val < r) (hw:w.val < r) (hz:z.val < r) :
 A (A (M (ι γ) u).1 (M (ι η) v).1).1 (A (M (ι γ) w).1 (M (ι η) z).1).1=A (M (ι γ) (AD s u w).1).1 (M (ι η) (AD s v z).1).1:=by
 have e1:=(a.ad u w hu hw).2
 have e2:=(a.ad v z hv hz).2
 rw [one_is h γ η hu hv,one_is h γ η hw hz,one_is h γ η (by rw [e1];exact Nat.mod_lt _ hr) (by rw [e2];exact Nat.mod_lt _ hr),e1,e2]
 dsimp only
 rw [h.add,g.com_sum (h.ord γ) (h.ord η)]
end
def pick (n x:Int):Int:=bif decide (Int.tmod x n < 0) then IntKind.i64.wrap (Int.tmod x n+n) else Int.tmod x n
theorem pick_in {n:Int} (h0:0 < n) (hn:n < 1000000) (x:Int):0 <= pick n x /\ pick n x < n:=by
 unfold pick
 have h1:=Int.lt_tmod_of_pos x h0
 have h2:=Int.tmod_lt_of_pos x h0
 cases hd:decide (Int.tmod x n < 0) with
 | true =>
  have hd:=of_decide_eq_true hd
  rw [cond_true,wrap_id (by omega) (by omega)]
  omega
 | false =>
  have hd:=of_decide_eq_false hd
  rw [cond_false]
  omega
end Go.Rq.Cl

namespace Go.Rq.Cl
open Go Go.Proofs Go.Rq Go.Rq.Sm Go.Rq.Vl
structure PH where
 o:Int->W6 × Int
 d:DF
 c:W6->W6->Int
 q:Q3
 ad:S3
 ml:S3
 m:ZM
 a:ZZ
 k:Kz->Bool
 oq:Q3
 ok:K3
def phCut (t:PH) (s:Int) (a:W6):W6:=(t.d a (t.o s).1).2.1
def phKs (t:PH) (s:Int):List W6->List W6->List Kz
 | a :: l,b :: m=>t.ok s a b :: phKs t s l m
 | _,_=>[]
def phOc (t:PH) (s:Int):List W6->List W6->Bool
 | a :: l,b :: m=>bt (tt (t.oq s a b)) (phOc t s l m)
 | _,_=>true
def phCo (t:PH) (s:Int) (l m:List W6):Bool:=tt (tt (nt ((t.o s).2 != 0) (phOc t s l m)))
def phGe (t:PH) (s:Int):List W6->Bool
 | a :: l=>nt (geR t.o t.c s a) (phGe t s l)
 | []=>true
def phXw (x:Int):W6:=ofW (BitVec.ofInt 64 x)
def phCk (t:PH) (s:Int) (l:List W6) (x:Int):Bool:=tt (nt (!((t.o s).2 == 0)) (nt (decide (x < 0)) (nt (decide (x > 1000)) (tt (tt (tt (tt (tt (tt (tt (tt (tt (phGe t s l)))))))))))))
def phVa (t:PH) (s:Int) (l:List W6) (x:Int):Bool:=tt (tt (bt (tt (phCk t s l x)) (bt (tt (valOk t.q t.q (fst3 t.ad) (fst3 t.ml) s (phXw x) l)) true)))
def phKc (k:Kz->Bool):List Kz->Bool->Bool
 | c :: l,r=>bt (tt (k c)) (phKc k l r)
 | [],r=>r
def phSc (z:Int):List Kz->Bool
 | c :: l=>nt (c.1 != z) (phSc z l)
 | []=>true
def hd1:List Kz->Int
 | c :: _=>c.1
 | []=>0
def phCh (k:Kz->Bool) (l:List Kz):Bool:=tt (phKc k l (phSc (hd1 l) l))
def phAt (k:Kz->Bool) (l:List Kz) (x:Int):Bool:=tt (bt (tt (phCh k l)) (nt (decide (x < 0)) (nt (decide (x > 1000)) true)))
def phHo (k:Kz->Bool) (oq:Q3) (l:List Kz) (x:Int) (u v:W6):Bool:=tt (tt (bt (tt (phAt k l x)) (bt (tt (oq (hd1 l) u v)) true)))
def phV (t:PH) (s:Int) (l:List W6) (x:Int):W6:=valF (fst3 t.ad) (fst3 t.ml) s (phXw x) l
def phHv (t:PH) (l:List Kz) (x:Int) (u v:W6):Bool:=eqKz (t.ok (hd1 l) u v) (atK t.m t.a (phXw x) l)
def phL (t:PH) (s:Int) (l:List W6):List W6:=l.map (phCut t s)
def phP (t:PH) (s:Int) (l m:List W6):List Kz:=phKs t s (phL t s l) (phL t s m)
def phX (x:Int):Int:=pick 41 x
end Go.Rq.Cl
