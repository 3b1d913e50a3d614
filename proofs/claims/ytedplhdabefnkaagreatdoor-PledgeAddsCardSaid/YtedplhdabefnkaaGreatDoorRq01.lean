import Derived.Test.YtedplhdabefnkaaGreatDoorRq00
import Derived.MapKept
namespace Go.Rq
open Go
theorem flat_run {ρ:Ren} {ev:Operand->AV} {va:Operand->Value} (h:EvOk ρ ev va) {x:Operand} {a:Value} (e:flat (ev x)=some a):va x=a:=(h x).flat_eq e
theorem run_mapM_list {α β:Type} {P:Program} (f:α->Sem β) (g:α->β):∀ (l:List α) (w:World),(∀ x ∈ l,(f x).run P w=.ok (g x) w)->(l.mapM f).run P w=.ok (l.map g) w:=by
 intro l
 induction l with
 | nil=>intro w _;simp
 | cons x t ih =>
  intro w h
  have h1:=h x (by simp)
  have h2:=ih w (fun y hy=>h y (by simp [hy]))
  simp [List.mapM_cons,h1,h2]
theorem placesOf_spec {P:Program}:∀ {fs:List Field} {ps:List (Nat × Nat)},placesOf P fs=some ps->ps=fs.map (fun f=>(f.offset,(sz P f.type).getD 0)) /\ ∀ f ∈ fs,∃ n,sz P f.type=some n
 | [],ps,h=>by simp [placesOf] at h;subst h;simp
 | f :: t,ps,h=>by
  simp only [placesOf] at h
  split at h
  . cases h
  . rename_i n hn
    split at h
    . cases h
    . rename_i l hl
      simp at h;subst h
      obtain ⟨h1,h2⟩:=placesOf_spec hl
      refine ⟨by simp [h1,hn],fun g hg=>?_⟩
      rcases List.mem_cons.1 hg with rfl | hg
      . exact ⟨n,hn⟩
      . exact h2 g hg
theorem buildA_run {P:Program} {ρ:Ren} {ev:Operand->AV} {va:Operand->Value} (hev:EvOk ρ ev va) {t:TypeId} {parts:List (Nat × Operand)} {r:AV}
 (h:buildA P ev t parts=some r) (w:World) :
 ∃ v,(Instr.build t (parts.map fun p=>(p.1,va p.2)).toArray).run P w=.ok v w /\ Rv ρ r v:=by
 unfold buildA at h
 split at h
 . cases h
 . rename_i z hz
   obtain ⟨zv,hzr,rfl⟩:=zeroOf_run hz
   have hzc:=Rvs.canons (ρ:=ρ) zv.cells.toList
   have hparts:∀ (i:Nat) (a:Nat × AV) (x:Nat × Value),(evs ev parts)[i]?=some a->(parts.map fun p=>(p.1,va p.2))[i]?=some x->a.1=x.1 /\ Rv ρ a.2 x.2:=by
    intro i a x ha hx
    rw [evs_eq] at ha
    simp only [List.getElem?_map,Option.map_eq_some_iff] at ha hx
    obtain ⟨p,hp,rfl⟩:=ha
    obtain ⟨q,hq,rfl⟩:=hx
    rw [hp] at hq;simp at hq;subst hq
    exact ⟨rfl,hev _⟩
   have hlen:(evs ev parts).length=(parts.map fun p=>(p.1,va p.2)).length:=by rw [evs_eq];simp
   split at h
   . rename_i fs hu
     split at h
     . cases h
     . rename_i ps hps
       split at h
       . rename_i l hl
         simp at h;subst h
         obtain ⟨hps1,hps2⟩:=placesOf_spec hps
         obtain ⟨ys,h1,h2⟩:=fillA_run (ρ:=ρ) _ _ _ _ zv.cells.toList _ hlen hparts hzc hl
         refine ⟨.agg ys.toArray,?_,Rv.agg_mk h2⟩
         have hm:(fs.mapM fun f=>do pure (f.offset,<- sizeOf f.type):Sem (Array (Nat × Nat))).run P w=.ok ps.toArray w:=by
          rw [Array.mapM_eq_mapM_toList]
          simp only [Sem.run_map]
          rw [run_mapM_list (P:=P) _ (fun f=>(f.offset,(sz P f.type).getD 0))]
          . simp [hps1]
          . intro f hf
            obtain ⟨n,hn⟩:=hps2 f hf
            simp [run_sizeOf hn,hn]
         have h1':Instr.fill (fun i=>ps[i]?) zv.cells (List.map (fun p=>(p.fst,va p.snd)) parts)=some ys.toArray:=by
          simpa using h1
         simp only [Instr.build,Sem.run_bind,hzr,Result.andThen_ok,run_underlying hu,hm]
         simp [h1']
       . cases h
   . rename_i len el hu
     split at h
     . cases h
     . rename_i n hn
       split at h
       . rename_i l hl
         simp at h;subst h
         obtain ⟨ys,h1,h2⟩:=fillA_run (ρ:=ρ) _ _ _ _ zv.cells.toList _ hlen hparts hzc hl
         refine ⟨.agg ys.toArray,?_,Rv.agg_mk h2⟩
         have h1':Instr.fill (fun i=>some (i*n,n)) zv.cells (List.map (fun p=>(p.fst,va p.snd)) parts)=some ys.toArray:=by
          simpa using h1
         simp only [Instr.build,Sem.run_bind,hzr,Result.andThen_ok,run_underlying hu,run_sizeOf hn]
         simp [h1']
       . cases h
   . cases h
theorem bound_run {ρ:Ren} {ev:Operand->AV} {va:Operand->Value} (hev:EvOk ρ ev va) {o:Option Operand} {r:Option Int} (h:bound ev o=some r) :
 (o=none /\ r=none) \/ ∃ x k n,o=some x /\ r=some n /\ va x=.int k n:=by
 unfold bound at h
 split at h
 . simp at h;exact .inl ⟨rfl,h.symm⟩
 . rename_i x
   split at h
   . rename_i k n hf
     simp at h
     exact .inr ⟨x,k,n,rfl,h.symm,flat_run hev hf⟩
   . cases h
theorem sliceBounds3_run {P:Program} {ρ:Ren} {ev:Operand->AV} {va:Operand->Value} (hev:EvOk ρ ev va) {lo:Option Operand} {hi mx:Operand} {l:Option Int} {k k':IntKind} {h m:Int} (hl:bound ev lo=some l) (hh:flat (ev hi)=some (.int k h)) (hm:flat (ev mx)=some (.int k' m))
 (len cap:Nat) (hc:(decide (0 <= m /\ m <= (cap:Int)) && (decide (0 <= h /\ h <= m) && decide (0 <= l.getD 0 /\ l.getD 0 <= h)))=true) (w:World) :
 (Instr.sliceBounds true len cap (lo.map va) (some (va hi)) (some (va mx))).run P w=.ok ((l.getD 0).toNat,h.toNat,m.toNat) w:=by
 simp only [Bool.and_eq_true,decide_eq_true_eq] at hc
 obtain ⟨⟨h1,h2⟩,⟨h3,h4⟩,h5,h6⟩:=hc
 have e1:=flat_run hev hh
 have e2:=flat_run hev hm
 have m1:(m.toNat:Int)=m:=Int.toNat_of_nonneg h1
 have m2:(h.toNat:Int)=h:=Int.toNat_of_nonneg h3
 rcases bound_run hev hl with ⟨rfl,rfl⟩ | ⟨x,k2,n,rfl,rfl,hx⟩
 . simp [Instr.sliceBounds,Instr.sliceBound,e1,e2,asIntOf,h1,h2,h3,h4,m1]
 . simp only [Option.getD_some] at h5 h6
   simp [Instr.sliceBounds,Instr.sliceBound,e1,e2,hx,asIntOf,h1,h2,h3,h4,h5,h6,m1,m2]
theorem sliceBounds_run {P:Program} {ρ:Ren} {ev:Operand->AV} {va:Operand->Value} (hev:EvOk ρ ev va) {lo hi:Option Operand} {l h:Option Int} (hl:bound ev lo=some l) (hh:bound ev hi=some h)
 (isSlice:Bool) (len cap:Nat) (hc:(decide (0 <= h.getD len /\ h.getD len <= (cap:Int)) && decide (0 <= l.getD 0 /\ l.getD 0 <= h.getD len))=true) (w:World) :
 (Instr.sliceBounds isSlice len cap (lo.map va) (hi.map va) none).run P w=.ok ((l.getD 0).toNat,(h.getD len).toNat,cap) w:=by
 simp only [Bool.and_eq_true,decide_eq_true_eq] at hc
 obtain ⟨⟨h1,h2⟩,h3,h4⟩:=hc
 rcases bound_run hev hl with ⟨rfl,rfl⟩ | ⟨x,k,n,rfl,rfl,hx⟩ <;> rcases bound_run hev hh with ⟨rfl,rfl⟩ | ⟨y,k',m,rfl,rfl,hy⟩ <;>
  simp only [Option.getD_none,Option.getD_some] at h1 h2 h3 h4 ⊢
 . simp [Instr.sliceBounds]
 . simp [Instr.sliceBounds,Instr.sliceBound,hy,asIntOf,h1,h2]
 . simp [Instr.sliceBounds,Instr.sliceBound,hx,asIntOf,h3,h4]
 . have e:(m.toNat:Int)=m:=Int.toNat_of_nonneg h1
   simp [Instr.sliceBounds,Instr.sliceBound,hx,hy,asIntOf,h1,h2,h3,e,h4]
theorem equalIn_ptr_nil {P:Program} {t u:TypeId} (hu:P.underlying t=some (.pointer u)) (d:Nat) (a:Addr) (w:World) :
 (Op.equalIn (d+1) t (.pointer (some a)) (.pointer none)).run P w=.ok false w:=by
 simp [Op.equalIn,run_underlying hu]
theorem equal_ptr_nil {P:Program} {t u:TypeId} (hu:P.underlying t=some (.pointer u)) (a:Addr) (w:World) :
 (Op.equal t (.pointer (some a)) (.pointer none)).run P w=.ok false w:=equalIn_ptr_nil hu 9999 a w
theorem equalIn_slc_nil {P:Program} {t u:TypeId} (hu:P.underlying t=some (.slice u)) (d:Nat) (a:Addr) (n c m k:Nat) (w:World) :
 (Op.equalIn (d+1) t (.slice (some a) n c) (.slice none m k)).run P w=.ok false w:=by
 simp [Op.equalIn,run_underlying hu]
theorem equal_slc_nil {P:Program} {t u:TypeId} (hu:P.underlying t=some (.slice u)) (a:Addr) (n c m k:Nat) (w:World) :
 (Op.equal t (.slice (some a) n c) (.slice none m k)).run P w=.ok false w:=equalIn_slc_nil hu 9999 a n c m k w
theorem opPure_run {P:Program} {E:Env} (hE:E.eqOk P) {ρ:Ren} {ev:Operand->AV} {va:Operand->Value} (hev:EvOk ρ ev va) {o:Oper} {c:Bool} {r:AV}
 (h:opPure P E ev o.op=some (c,r)) (hc:c=true) (w:World):∃ v,(execOp va o).run P w=.ok (.value v) w /\ Rv ρ r v:=by
 obtain ⟨dst,op,type,pos,after,guard⟩:=o
 simp only at h
 subst hc
 cases op with
 | move x=>simp [opPure] at h;subst h;exact ⟨va x,by simp [execOp],hev x⟩
 | assign x=>simp [opPure] at h;subst h;exact ⟨va x,by simp [execOp],hev x⟩
 | pick c a b =>
  simp only [opPure] at h
  split at h
  . rename_i hc;simp at h;subst h
    have:=hev c;rw [hc] at this;cases hv:va c <;> rw [hv] at this <;> cases this
    exact ⟨va a,by simp [execOp,hv,asBool],hev a⟩
  . rename_i hc;simp at h;subst h
    have:=hev c;rw [hc] at this;cases hv:va c <;> rw [hv] at this <;> cases this
    exact ⟨va b,by simp [execOp,hv,asBool],hev b⟩
  . rename_i c' hc
    split at h
    . rename_i z hz;simp at h;subst h
      have:=hev c;rw [hc] at this;cases hv:va c <;> rw [hv] at this <;> cases this
      refine ⟨if c' then va a else va b,?_,choose2_spec (hev a) (hev b) hz⟩
      simp [execOp,hv,asBool]
    . have:=hev c;rw [hc] at this;cases hv:va c <;> rw [hv] at this <;> cases this
      split at h
      . simp at h;subst h;exact ⟨va a,by simp [execOp,hv,asBool],hev a⟩
      . simp at h;subst h;exact ⟨va b,by simp [execOp,hv,asBool],hev b⟩
  . cases h
 | nilCheck x =>
  simp only [opPure] at h
  split at h
  . rename_i id off hx;simp at h;subst h
    have:=hev x;rw [hx] at this
    generalize hv:va x=v at this
    cases this with | ptr hb=>exact ⟨_,by simp [execOp,hv],.ptr hb⟩
  . rename_i a hx;simp at h;subst h
    have:=hev x;rw [hx] at this
    generalize hv:va x=v at this
    cases this;exact ⟨_,by simp [execOp,hv],.v _⟩
  . rename_i f as bs hx;simp at h;subst h
    have:=hev x;rw [hx] at this
    obtain ⟨xs,ys,hv,h1,h2⟩:=this.fn_iff
    exact ⟨.func (.func f) xs ys,by simp [execOp,hv],by have:=Rv.fn_mk (f:=.func f) h1 h2;simpa using this⟩
  . cases h
 | binOp op t x y yt =>
  have gen:∀ z,binF P E op t x y (ev x) (ev y)=some (true,z)->r=z->∃ v,(execOp va { dst,op:=.binOp op t x y yt,type,pos,after,guard }).run P w=.ok (.value v) w /\ Rv ρ r v:=by
   intro z hz hr
   subst hr
   obtain ⟨v,h1,h2⟩:=binF_run hE (hev x) (hev y) hz w
   refine ⟨v,?_,h2⟩
   show ((do eqGuard op t x y (va x) (va y);binOp op t (va x) (va y):Sem Value) >>= fun r=>pure (Next.value r)).run P w=_
   rw [Sem.run_bind,h1]
   simp
  simp only [opPure] at h
  split at h
  . rename_i id off hx hy
    have hyv:va y=.pointer none:=by have:=hev y;rw [hy] at this;generalize va y=v at this;cases this;rfl
    split at h
    . rename_i u hu;simp at h;subst h
      have:=hev x;rw [hx] at this
      generalize hv:va x=v at this
      cases this
      refine ⟨.bool false,?_,.lit _⟩
      simp [execOp,hv,hyv,eqGuard,binOp,equal_ptr_nil hu]
    . rename_i u hu;simp at h;subst h
      have:=hev x;rw [hx] at this
      generalize hv:va x=v at this
      cases this
      refine ⟨.bool true,?_,.lit _⟩
      simp [execOp,hv,hyv,eqGuard,binOp,equal_ptr_nil hu]
    . cases h
  . rename_i hx hy
    split at h
    . rename_i u hu;simp at h;subst h
      have h1:=hev x;rw [hx] at h1
      have h2:=hev y;rw [hy] at h2
      generalize hv:va x=v at h1
      generalize hyv:va y=v' at h2
      cases h1
      cases h2
      refine ⟨.bool false,?_,.lit _⟩
      simp [execOp,hv,hyv,eqGuard,binOp,equal_slc_nil hu]
    . rename_i u hu;simp at h;subst h
      have h1:=hev x;rw [hx] at h1
      have h2:=hev y;rw [hy] at h2
      generalize hv:va x=v at h1
      generalize hyv:va y=v' at h2
      cases h1
      cases h2
      refine ⟨.bool true,?_,.lit _⟩
      simp [execOp,hv,hyv,eqGuard,binOp,equal_slc_nil hu]
    . cases h
  . rename_i hx hy
    split at h
    . rename_i u hu;simp at h;subst h
      have h1:=hev x;rw [hx] at h1
      have h2:=hev y;rw [hy] at h2
      generalize hv:va x=v at h1
      generalize hyv:va y=v' at h2
      cases h1 <;> cases h2
      all_goals
       refine ⟨.bool false,?_,.lit _⟩
       simp [execOp,hv,hyv,eqGuard,binOp,equal_slc_nil hu]
    . rename_i u hu;simp at h;subst h
      have h1:=hev x;rw [hx] at h1
      have h2:=hev y;rw [hy] at h2
      generalize hv:va x=v at h1
      generalize hyv:va y=v' at h2
      cases h1 <;> cases h2
      all_goals
       refine ⟨.bool true,?_,.lit _⟩
       simp [execOp,hv,hyv,eqGuard,binOp,equal_slc_nil hu]
    . cases h
  . exact gen _ h rfl
 | unOp op t x =>
  simp only [opPure] at h
  split at h
  . rename_i u hu
    have hux:=(hev x).toU hu
    split at h
    . simp at h;subst h
      refine ⟨uval (~~~u),?_,.u _⟩
      have hm:IntKind.u64.max=((BitVec.allOnes 64).toNat:Int):=by rfl
      have:Op.unary .xor (va x)=pure (uval (~~~u)):=by
       rw [hux]
       show Op.intBits .xor .u64 IntKind.u64.max (u.toNat:Int)=_
       rw [hm]
       exact intBits_u64 .xor _ u _ (.inr (.inr (.inl ⟨rfl,by rw [BitVec.allOnes_xor]⟩)))
      simp [execOp,this]
    . simp at h;subst h
      refine ⟨uval (0#64 - u),?_,.u _⟩
      have:Op.unary .neg (va x)=pure (uval (0#64 - u)):=by
       rw [hux]
       simp only [uval,Op.unary,Op.intArith]
       refine congrArg (fun z=>(pure (Value.int .u64 z):Sem Value)) ?_
       rw [wrap_u64,BitVec.toNat_sub]
       have:=u.isLt
       simp;omega
      simp [execOp,this]
    . cases h
  . split at h
    . rename_i a hx
      split at h
      . rename_i z hz;simp at h;subst h
        refine ⟨z,?_,.v z⟩
        rw [<- flat_run hev hx] at hz
        simp [execOp,pureRun_run hz w]
      . cases h
    . cases h
 | convert s d x =>
  simp only [opPure] at h
  split at h
  . rename_i u hu
    have hux:=(hev x).toU hu
    split at h
    . rename_i k hs hd;simp at h;subst h
      refine ⟨uval u,?_,.u _⟩
      have:(convert s d (va x)).run P w=.ok (uval u) w:=by
       rw [hux]
       simp only [convert,Sem.run_bind,run_underlying hs,run_underlying hd,Result.andThen_ok,uval,Conv.intToInt]
       rw [show IntKind.u64.wrap (Int.ofNat u.toNat)=Int.ofNat u.toNat from back_u64 u];rfl
      simp [execOp,this]
    . rename_i k k' hk' hs hd;simp at h;subst h
      refine ⟨_,?_,.v _⟩
      have:(convert s d (va x)).run P w=.ok (.int k' (k'.wrap (Int.ofNat u.toNat))) w:=by
       rw [hux]
       simp only [convert,Sem.run_bind,run_underlying hs,run_underlying hd,Result.andThen_ok,uval,Conv.intToInt];rfl
      simp [execOp,this]
    . cases h
  . split at h
    . rename_i a hx
      split at h
      . rename_i k k' n hs hd;simp at h;subst h
        refine ⟨uval (BitVec.ofInt 64 n),?_,.u _⟩
        have:(convert s d (va x)).run P w=.ok (uval (BitVec.ofInt 64 n)) w:=by
         rw [flat_run hev hx]
         simp only [convert,Sem.run_bind,run_underlying hs,run_underlying hd,Result.andThen_ok,uval,Conv.intToInt]
         have:IntKind.u64.wrap n=Int.ofNat (BitVec.ofInt 64 n).toNat:=by
          rw [wrap_u64];simp [BitVec.toNat_ofInt];omega
         rw [this];rfl
        simp [execOp,this]
      . split at h
        . rename_i z hz;simp at h;subst h
          refine ⟨z,?_,.v z⟩
          rw [<- flat_run hev hx] at hz
          simp [execOp,pureRun_run hz w]
        . cases h
    . cases h
 | makeInterface t x =>
  simp only [opPure] at h
  split at h
  . cases h
  . rename_i d hd hu;simp at h;subst h
    refine ⟨.iface t (va x),?_,.ifc (hev x)⟩
    simp only [execOp,Instr.makeInterface,Sem.run_bind,run_underlying hu,Result.andThen_ok]
    simp
  . cases h
 | makeFunc f as bs =>
  simp only [opPure] at h;simp at h;subst h
  refine ⟨.func f (as.map va) (bs.map va),by simp [execOp,Instr.makeFunc],?_⟩
  have:=Rv.fn_mk (f:=f) (Rvs.maps hev as.toList) (Rvs.maps hev bs.toList)
  have e:∀ l:Array Operand,l.map va=(l.toList.map va).toArray:=fun l=>by apply Array.ext';simp
  rw [e as,e bs]
  exact this
 | sliceToArrayPointer t x =>
  simp only [opPure] at h
  split at h
  . rename_i n el id off len cap hu hx
    simp only [Option.some.injEq,Prod.mk.injEq] at h
    obtain ⟨h1,rfl⟩:=h
    have h1:=of_decide_eq_true h1
    have:=hev x;rw [hx] at this
    generalize hv:va x=v at this
    cases this with
    | slc hb =>
     refine ⟨.pointer (some ⟨_,ρ.base id+off,none⟩),?_,.ptr hb⟩
     have h1':¬ len < n:=by omega
     simp [execOp,Instr.arrayAt,hv,run_underlying hu,h1']
  . cases h
 | fieldAddr s x f =>
  simp only [opPure] at h
  split at h
  . rename_i fs id off hu hx
    split at h
    . rename_i fl hfl
      split at h
      . rename_i n hn;simp at h;subst h
        have:=hev x;rw [hx] at this
        generalize hv:va x=v at this
        cases this with
        | ptr hb =>
         refine ⟨.pointer (some ⟨_,ρ.base id+(off+fl.offset),none⟩),?_,.ptr hb⟩
         rw [<- Nat.add_assoc]
         have hfl':fs[f]?=some fl:=by simpa using hfl
         simp only [execOp,Instr.fieldAt,hv,Sem.run_bind,run_underlying hu,Result.andThen_ok,hfl',Instr.sureAddr,Sem.run_pure,fieldPlace,run_sizeOf hn]
         simp [Addr.add_none]
      . cases h
    . cases h
  . cases h
 | indexAddr t x ix =>
  simp only [opPure] at h
  split at h
  . rename_i k i hi
    have hiv:=flat_run hev hi
    split at h
    . rename_i len el id off hu hx
      split at h
      . rename_i n hn;simp only [Option.some.injEq,Prod.mk.injEq] at h
        obtain ⟨h1,rfl⟩:=h
        have h1:=of_decide_eq_true h1
        have:=hev x;rw [hx] at this
        generalize hv:va x=v at this
        cases this with
        | ptr hb =>
         refine ⟨.pointer (some ⟨_,ρ.base id+(off+i.toNat*n),none⟩),?_,.ptr hb⟩
         rw [<- Nat.add_assoc]
         simp [execOp,Instr.indexAt,hv,hiv,asIntOf,run_underlying hu,Instr.sureAddr,run_sizeOf hn,h1,Addr.add_none]
      . cases h
    . rename_i len el g off hu hx
      split at h
      . rename_i n hn;simp only [Option.some.injEq,Prod.mk.injEq] at h
        obtain ⟨h1,rfl⟩:=h
        have h1:=of_decide_eq_true h1
        have:=hev x;rw [hx] at this
        generalize hv:va x=v at this
        cases this with
        | v _ =>
         refine ⟨.pointer (some ⟨g,off+i.toNat*n,none⟩),?_,.v _⟩
         simp [execOp,Instr.indexAt,hv,hiv,asIntOf,run_underlying hu,Instr.sureAddr,run_sizeOf hn,h1,Addr.add_none]
      . cases h
    . rename_i el id off len cap hu hx
      split at h
      . rename_i n hn;simp only [Option.some.injEq,Prod.mk.injEq] at h
        obtain ⟨h1,rfl⟩:=h
        have h1:=of_decide_eq_true h1
        have:=hev x;rw [hx] at this
        generalize hv:va x=v at this
        cases this with
        | slc hb =>
         refine ⟨.pointer (some ⟨_,ρ.base id+(off+i.toNat*n),none⟩),?_,.ptr hb⟩
         rw [<- Nat.add_assoc]
         simp [execOp,Instr.indexAt,hv,hiv,asIntOf,run_underlying hu,run_sizeOf hn,h1,Addr.add_none]
      . cases h
    . rename_i el id es k' len hu hx
      split at h
      . rename_i n hn;simp only [Option.some.injEq,Prod.mk.injEq] at h
        obtain ⟨h1,rfl⟩:=h
        have h1:=of_decide_eq_true h1
        have:=hev x;rw [hx] at this
        generalize hv:va x=v at this
        cases this with
        | own hb h0 _ _ _ =>
         refine ⟨.pointer (some ⟨_,ρ.base id+(k'*es+i.toNat*n),none⟩),?_,.ptr hb⟩
         rw [h0,Nat.zero_add]
         simp [execOp,Instr.indexAt,hv,hiv,asIntOf,run_underlying hu,run_sizeOf hn,h1,Addr.add_none]
        | ownE _ _=>exact absurd h1.2 (by omega)
      . cases h
    . cases h
  . cases h
 | field t x f =>
  simp only [opPure] at h
  split at h
  . rename_i fs cs hu hx
    split at h
    . rename_i fl hfl
      split at h
      . rename_i r' hr;simp at h;subst h
        obtain ⟨xs,hv,hxs⟩:=(hev x).aggOf hx
        obtain ⟨v,h1,h2⟩:=partA_run hr hxs w
        refine ⟨v,?_,h2⟩
        have hfl':fs[f]?=some fl:=by simpa using hfl
        simp [execOp,Instr.field,run_underlying hu,hfl',hv,asAgg,h1]
      . cases h
    . cases h
  . cases h
 | index t x ix =>
  simp only [opPure] at h
  split at h
  . rename_i k i hi
    have hiv:=flat_run hev hi
    split at h
    . rename_i len el hu
      split at h
      . rename_i cs hx
        split at h
        . rename_i n hn
          split at h
          . rename_i r' hr;simp only [Option.some.injEq,Prod.mk.injEq] at h
            obtain ⟨h1,rfl⟩:=h
            have h1:=of_decide_eq_true h1
            obtain ⟨xs,hv,hxs⟩:=(hev x).aggOf hx
            obtain ⟨v,h2,h3⟩:=partA_run hr hxs w
            refine ⟨v,?_,h3⟩
            simp [execOp,Instr.index,run_underlying hu,hv,hiv,asIntOf,run_sizeOf hn,h1,h2]
          . cases h
        . cases h
      . cases h
    . rename_i hu
      split at h
      . rename_i s hx;simp only [Option.some.injEq,Prod.mk.injEq] at h
        obtain ⟨h1,rfl⟩:=h
        have h1:=of_decide_eq_true h1
        obtain ⟨b,hb,hb2⟩:=strAt_run (s:=s) (i:=i.toNat) (by omega)
        have:=hev x;rw [hx] at this
        generalize hv:va x=v at this
        cases this with
        | v =>
         refine ⟨.int .u8 b.toNat,?_,by rw [hb2];exact .v _⟩
         simp only [execOp,Instr.index,hv,hiv,asIntOf,Sem.run_bind,Sem.run_pure,Result.andThen_ok,run_underlying hu,if_pos h1.1,hb]
      . cases h
    . cases h
  . cases h
 | extract x i =>
  simp only [opPure] at h
  split at h
  . rename_i cs hx
    split at h
    . rename_i a ha;simp at h;subst h
      have:=hev x;rw [hx] at this
      obtain ⟨xs,hv,hxs⟩:=this.tup_iff
      obtain ⟨v,h1,h2⟩:=hxs.getD ha
      have h1':xs[i]?=some v:=by simpa using h1
      exact ⟨v,by simp [execOp,Instr.extract,hv,h1'],h2⟩
    . cases h
  . rename_i vs hx
    split at h
    . rename_i a ha;simp at h;subst h
      have:=hev x;rw [hx] at this
      generalize hv:va x=v at this
      cases this
      have ha':vs[i]?=some a:=by simpa using ha
      exact ⟨a,by simp [execOp,Instr.extract,hv,ha'],.v a⟩
    . cases h
  . cases h
 | build t parts =>
  simp only [opPure] at h
  split at h
  . rename_i r' hr;simp at h;subst h
    obtain ⟨v,h1,h2⟩:=buildA_run hev hr w
    refine ⟨v,?_,h2⟩
    have e:parts.map (fun p:Nat × Operand=>(p.1,va p.2))=(parts.toList.map fun p=>(p.1,va p.2)).toArray:=by apply Array.ext';simp
    show ((Instr.build t (parts.map fun p:Nat × Operand=>(p.1,va p.2))) >>= fun r=>pure (Next.value r)).run P w=_
    rw [Sem.run_bind,e,h1]
    simp
  . cases h
 | slice t x lo hi mx =>
  cases mx with
  | some m =>
   cases hi with
   | none=>simp [opPure] at h
   | some hi =>
   simp only [opPure] at h
   split at h
   . rename_i el id off len cap l k1 h' k2 m' hu hx hl hh hm
     split at h
     . rename_i n hn
       simp only [Option.some.injEq,Prod.mk.injEq] at h
       obtain ⟨h1,rfl⟩:=h
       have:=hev x;rw [hx] at this
       generalize hv:va x=v at this
       cases this with
       | slc hb =>
        have hs:=sliceBounds3_run (P:=P) hev hl hh hm len cap h1 w
        refine ⟨.slice (some ⟨_,ρ.base id+(bif Nat.beq m'.toNat (l.getD 0).toNat then off else off+(l.getD 0).toNat*n),none⟩) _ _,?_,.slc hb⟩
        simp only [execOp,Instr.sliceAt,Instr.slice,Sem.run_bind,run_underlying hu,Result.andThen_ok,hv,Option.map_some,hs,run_sizeOf hn]
        cases hbq:Nat.beq m'.toNat (l.getD 0).toNat with
        | true=>simp [Nat.eq_of_beq_eq_true hbq]
        | false =>
         have:m'.toNat ≠ (l.getD 0).toNat:=Nat.ne_of_beq_eq_false hbq
         simp [this,Addr.add_none,Nat.add_assoc]
     . cases h
   . rename_i el id es k len l k1 h' k2 m' hu hx hl hh hm
     split at h
     . rename_i n hn
       simp only [Option.some.injEq,Prod.mk.injEq] at h
       obtain ⟨h1,rfl⟩:=h
       rw [Bool.and_eq_true] at h1
       obtain ⟨h1,h7⟩:=h1
       have h7:=of_decide_eq_true h7
       have:=hev x;rw [hx] at this
       generalize hv:va x=v at this
       cases this with
       | ownE _ hk=>omega
       | @own _ _ _ _ b cap hb h0 hc hle hmx =>
        have h1':(decide (0 <= m' /\ m' <= ((cap - k:Nat):Int)) && (decide (0 <= h' /\ h' <= m') && decide (0 <= l.getD 0 /\ l.getD 0 <= h')))=true:=by
         simp only [Bool.and_eq_true,decide_eq_true_eq] at h1 ⊢
         exact ⟨⟨h1.1.1,by omega⟩,h1.2⟩
        have hs:=sliceBounds3_run (P:=P) hev hl hh hm len (cap - k) h1' w
        refine ⟨.slice (some ⟨b,ρ.base id+(bif Nat.beq m'.toNat (l.getD 0).toNat then k*es else k*es+(l.getD 0).toNat*n),none⟩) _ _,?_,.slc hb⟩
        rw [h0,Nat.zero_add]
        simp only [execOp,Instr.sliceAt,Instr.slice,Sem.run_bind,run_underlying hu,Result.andThen_ok,hv,Option.map_some,hs,run_sizeOf hn]
        cases hbq:Nat.beq m'.toNat (l.getD 0).toNat with
        | true=>simp [Nat.eq_of_beq_eq_true hbq]
        | false =>
         have:m'.toNat ≠ (l.getD 0).toNat:=Nat.ne_of_beq_eq_false hbq
         simp [this,Addr.add_none]
     . cases h
   . rename_i el len cap l k1 h' k2 m' hu hx hl hh hm
     split at h
     . rename_i n hn
       simp only [Option.some.injEq,Prod.mk.injEq] at h
       obtain ⟨h1,rfl⟩:=h
       have:=hev x;rw [hx] at this
       generalize hv:va x=v at this
       cases this
       have hs:=sliceBounds3_run (P:=P) hev hl hh hm len cap h1 w
       refine ⟨_,?_,.v _⟩
       simp only [execOp,Instr.sliceAt,Instr.slice,Sem.run_bind,run_underlying hu,Result.andThen_ok,hv,Option.map_some,hs,run_sizeOf hn]
       simp
     . cases h
   . cases h
  | none =>
   simp only [opPure] at h
   split at h
   . rename_i len el id off l h' hu hx hl hh
     split at h
     . rename_i n hn
       simp only [Option.some.injEq,Prod.mk.injEq] at h
       obtain ⟨h1,rfl⟩:=h
       have:=hev x;rw [hx] at this
       generalize hv:va x=v at this
       cases this with
       | ptr hb =>
        have hs:=sliceBounds_run (P:=P) hev hl hh false len len h1 w
        refine ⟨.slice (some ⟨_,ρ.base id+(bif Nat.beq len (l.getD 0).toNat then off else off+(l.getD 0).toNat*n),none⟩) _ _,?_,.slc hb⟩
        simp only [execOp,Instr.sliceAt,Sem.run_bind,run_underlying hu,Result.andThen_ok,hv,Instr.sureAddr,Sem.run_pure,Option.map_none,hs,run_sizeOf hn]
        cases hbq:Nat.beq len (l.getD 0).toNat with
        | true=>simp [Nat.eq_of_beq_eq_true hbq]
        | false =>
         have:len ≠ (l.getD 0).toNat:=Nat.ne_of_beq_eq_false hbq
         simp [this,Addr.add_none,Nat.add_assoc]
     . cases h
   . rename_i el id off len cap l h' hu hx hl hh
     split at h
     . rename_i n hn
       simp only [Option.some.injEq,Prod.mk.injEq] at h
       obtain ⟨h1,rfl⟩:=h
       have:=hev x;rw [hx] at this
       generalize hv:va x=v at this
       cases this with
       | slc hb =>
        have hs:=sliceBounds_run (P:=P) hev hl hh true len cap h1 w
        refine ⟨.slice (some ⟨_,ρ.base id+(bif Nat.beq cap (l.getD 0).toNat then off else off+(l.getD 0).toNat*n),none⟩) _ _,?_,.slc hb⟩
        simp only [execOp,Instr.sliceAt,Instr.slice,Sem.run_bind,run_underlying hu,Result.andThen_ok,hv,Option.map_none,hs,run_sizeOf hn]
        cases hbq:Nat.beq cap (l.getD 0).toNat with
        | true=>simp [Nat.eq_of_beq_eq_true hbq]
        | false =>
         have:cap ≠ (l.getD 0).toNat:=Nat.ne_of_beq_eq_false hbq
         simp [this,Addr.add_none,Nat.add_assoc]
     . cases h
   . rename_i el id es k len l h' hu hx hl hh
     split at h
     . rename_i n hn
       simp only [Option.some.injEq,Prod.mk.injEq,Bool.and_eq_true,decide_eq_true_eq] at h
       obtain ⟨⟨⟨⟨p1,p2⟩,p3,p4⟩,p6⟩,rfl⟩:=h
       have p6:=Nat.eq_of_beq_eq_true p6
       subst p6
       have:=hev x;rw [hx] at this
       generalize hv:va x=v at this
       cases this with
       | @own _ _ _ _ b cap hb h0 hc hle hm =>
        have h1:(decide (0 <= h'.getD len /\ h'.getD len <= ((cap - k:Nat):Int)) && decide (0 <= l.getD 0 /\ l.getD 0 <= h'.getD len))=true:=by
         simp only [Bool.and_eq_true,decide_eq_true_eq]
         exact ⟨⟨p1,by omega⟩,p3,p4⟩
        have hs:=sliceBounds_run (P:=P) hev hl hh true len (cap - k) h1 w
        have hk:k+(l.getD 0).toNat+((h'.getD len).toNat - (l.getD 0).toNat) <= cap:=by omega
        have e1:cap - k - (l.getD 0).toNat=cap - (k+(l.getD 0).toNat):=by omega
        by_cases p5:l.getD 0=0 \/ l.getD 0 < (len:Int)
        . have hown:=Rv.own (ρ:=ρ) (es:=n) (k:=k+(l.getD 0).toNat) (len:=(h'.getD len).toNat - (l.getD 0).toNat) hb h0 hc hk hm
          refine ⟨_,?_,hown⟩
          simp only [execOp,Instr.sliceAt,Instr.slice,Sem.run_bind,run_underlying hu,Result.andThen_ok,hv,Option.map_none,hs,run_sizeOf hn]
          by_cases hz:cap - k=(l.getD 0).toNat
          . have hl0:(l.getD 0).toNat=0:=by omega
            rw [hl0] at hz ⊢
            simp [hz]
          . simp [hz,Addr.add_none,Nat.add_mul,e1]
        . have hz0:(h'.getD len).toNat - (l.getD 0).toNat=0:=by omega
          rw [hz0]
          refine ⟨.slice (some ⟨b,bif Nat.beq (cap - k) (l.getD 0).toNat then k*n else k*n+(l.getD 0).toNat*n,none⟩) 0 (cap - k - (l.getD 0).toNat),?_,.ownE hb (by omega)⟩
          simp only [execOp,Instr.sliceAt,Instr.slice,Sem.run_bind,run_underlying hu,Result.andThen_ok,hv,Option.map_none,hs,run_sizeOf hn]
          cases hbq:Nat.beq (cap - k) (l.getD 0).toNat with
          | true=>simp [Nat.eq_of_beq_eq_true hbq,hz0]
          | false =>
           have:cap - k ≠ (l.getD 0).toNat:=Nat.ne_of_beq_eq_false hbq
           simp [this,Addr.add_none,hz0]
       | @ownE _ _ _ b j cap hb hk =>
        have h1:(decide (0 <= h'.getD (0:Nat) /\ h'.getD (0:Nat) <= (cap:Int)) && decide (0 <= l.getD 0 /\ l.getD 0 <= h'.getD (0:Nat)))=true:=by
         simp only [Bool.and_eq_true,decide_eq_true_eq]
         exact ⟨⟨p1,by omega⟩,p3,p4⟩
        have hs:=sliceBounds_run (P:=P) hev hl hh true 0 cap h1 w
        have hz0:(h'.getD (0:Nat)).toNat - (l.getD 0).toNat=0:=by omega
        have hl0:(l.getD 0).toNat=0:=by omega
        rw [hz0]
        refine ⟨.slice (some ⟨b,j,none⟩) 0 cap,?_,.ownE hb (by omega)⟩
        simp only [execOp,Instr.sliceAt,Instr.slice,Sem.run_bind,run_underlying hu,Result.andThen_ok,hv,Option.map_none,hs,run_sizeOf hn]
        rw [hz0,hl0]
        by_cases hz:cap=0 <;> simp [hz,Addr.add_none]
     . cases h
   . rename_i el len cap l h' hu hx hl hh
     split at h
     . rename_i n hn
       simp only [Option.some.injEq,Prod.mk.injEq] at h
       obtain ⟨h1,rfl⟩:=h
       have:=hev x;rw [hx] at this
       generalize hv:va x=v at this
       cases this
       have hs:=sliceBounds_run (P:=P) hev hl hh true len cap h1 w
       refine ⟨_,?_,.v _⟩
       simp only [execOp,Instr.sliceAt,Instr.slice,Sem.run_bind,run_underlying hu,Result.andThen_ok,hv,Option.map_none,hs,run_sizeOf hn]
       simp
     . cases h
   . cases h
 | _=>simp [opPure] at h
theorem cmpK_eq {k:Nat} {x y:Value} (h:cmpK k x y=some true):x=y:=by
 unfold cmpK at h
 split at h
 . simp at h;rw [h]
 . split at h
   . rename_i hk;have hk:=of_decide_eq_true hk;simp at h;rw [hk,h]
   . cases h
 . simp only [Option.some.injEq] at h
   rw [(MapKept.bytes_beq _ _).1 h]
 . cases h
theorem cmpCells_eq:∀ {ks:List Nat} {xs ys:List Value},cmpCells ks xs ys=some true->xs=ys
 | [],[],[],_=>rfl
 | k :: ks,x :: xs,y :: ys,h=>by
  simp only [cmpCells] at h
  split at h
  . cases h
  . rename_i b hb
    split at h
    . cases h
    . rename_i c hc
      simp at h
      obtain ⟨rfl,rfl⟩:=h
      rw [cmpK_eq hb,cmpCells_eq hc]
 | [],_ :: _,_,h=>by simp [cmpCells] at h
 | [],[],_ :: _,h=>by simp [cmpCells] at h
 | _ :: _,[],_,h=>by simp [cmpCells] at h
 | _ :: _,_ :: _,[],h=>by simp [cmpCells] at h
theorem sameBits_cell {k:Nat} {x:Value} {b:Bool} (h:cmpK k x x=some b) (n:Nat):Instr.sameBits n x x=true:=by
 unfold cmpK at h
 split at h
 . cases n <;> simp [Instr.sameBits]
 . cases n <;> simp [Instr.sameBits]
 . cases n <;> simp [Instr.sameBits,MapKept.bytes_beq]
 . cases h
theorem sameBits_cells {ks:List Nat}:∀ {xs:List Value} {b:Bool},cmpCells ks xs xs=some b->∀ n,((xs.zip xs).all fun (x,y)=>Instr.sameBits n x y)=true:=by
 induction ks with
 | nil=>intro xs b h n;cases xs <;> simp_all [cmpCells]
 | cons k ks ih =>
  intro xs b h n
  cases xs with
  | nil=>simp
  | cons x xs =>
   simp only [cmpCells] at h
   split at h
   . cases h
   . rename_i c hc
     split at h
     . cases h
     . rename_i e he
       have:=ih he n
       simp only [List.zip_cons_cons,List.all_cons,sameBits_cell hc n,Bool.true_and]
       exact this
theorem run_keyStays {P:Program} {ks:List Nat} {xs:List Value} {b:Bool} (h:cmpCells ks xs xs=some b) (w:World) :
 (Instr.keyThatStays (.agg xs.toArray) (.agg xs.toArray)).run P w=.ok (.agg xs.toArray) w:=by
 have:Instr.sameBits 10000 (.agg xs.toArray) (.agg xs.toArray)=true:=by
  show (xs.toArray.size == xs.toArray.size && (xs.toArray.toList.zip xs.toArray.toList).all fun (x,y)=>Instr.sameBits 9999 x y)=true
  simp only [beq_self_eq_true,Bool.true_and]
  exact sameBits_cells h 9999
 simp [Instr.keyThatStays,this]
def intRow (P:Program):List Field->Nat->Option Nat
 | [],n=>some n
 | fl :: t,n=>match P.underlying fl.type,sz P fl.type with
  | some (.int _),some 1=>bif Nat.beq fl.offset n then intRow P t (n+1) else none
  | _,_=>none
theorem intRow_le {P:Program}:∀ {fs:List Field} {n m:Nat},intRow P fs n=some m->n <= m
 | [],n,m,h=>by simp [intRow] at h;omega
 | fl :: t,n,m,h=>by
  simp only [intRow] at h
  split at h
  . cases hb:Nat.beq fl.offset n <;> rw [hb] at h
    . cases h
    . have:=intRow_le h;omega
  . cases h
theorem fields_check {P:Program} (em:Bool) (e:Nat) (xs:List Value) (w:World):∀ (fs:List Field) (n m:Nat),intRow P fs n=some m->m <= xs.length ->
 (forIn (m:=Sem) fs () fun f _=>if f.name ≠ "_" then do
  Instr.checkKey em (e+1) f.type (<- part f.type xs.toArray f.offset)
  pure (ForInStep.yield ())
  else pure (ForInStep.yield ())).run P w=.ok () w:=by
 intro fs
 induction fs with
 | nil=>intro n m _ _;simp
 | cons fl t ih =>
  intro n m h hm
  simp only [intRow] at h
  split at h
  case h_2=>cases h
  rename_i k hu hs
  cases hb:Nat.beq fl.offset n <;> rw [hb] at h
  . cases h
  have ho:=Nat.eq_of_beq_eq_true hb
  have hlt:n < xs.length:=by have:=intRow_le h;omega
  have h4:=ih (n+1) m h hm
  rw [List.forIn_cons]
  by_cases hn:fl.name= "_"
  . simp only [hn,ne_eq,not_true,if_false,Sem.run_bind,Sem.run_pure,Result.andThen_ok]
    exact h4
  . simp only [ne_eq,hn,not_false_eq_true,if_true,Sem.run_bind]
    have hp:(part fl.type xs.toArray fl.offset).run P w=.ok xs[n] w:=by
     simp [part,run_isAgg hu,isRow,ho,hlt]
    have hc:(Instr.checkKey em (e+1) fl.type xs[n]).run P w=.ok () w:=by
     unfold Instr.checkKey
     simp [run_underlying hu]
    simp only [hp,Result.andThen_ok,hc,Sem.run_pure]
    exact h4
def keyPlan (P:Program) (t:TypeId):Option (List Nat):=match P.underlying t with
 | some (.struct fs)=>match plan P 100 t,intRow P fs.toList 0 with
  | some ks,some m=>bif Nat.beq m ks.length then some ks else none
  | _,_=>none
 | _=>none
theorem keyPlan_spec {P:Program} {t:TypeId} {ks:List Nat} (h:keyPlan P t=some ks):∃ fs,P.underlying t=some (.struct fs) /\ plan P 100 t=some ks /\ intRow P fs.toList 0=some ks.length:=by
 unfold keyPlan at h
 split at h
 . rename_i fs hu
   split at h
   . rename_i k m hp hi
     cases hb:Nat.beq m k.length <;> rw [hb] at h
     . cases h
     . simp at h;subst h
       exact ⟨fs,hu,hp,by rw [hi,Nat.eq_of_beq_eq_true hb]⟩
   . cases h
 . cases h
theorem checkKey_run {P:Program} {t:TypeId} {ks:List Nat} (h:keyPlan P t=some ks) {xs:List Value} (hl:xs.length=ks.length) (em:Bool) (w:World) :
 (Instr.checkKey em 10000 t (.agg xs.toArray)).run P w=.ok () w:=by
 obtain ⟨fs,hu,-,hi⟩:=keyPlan_spec h
 have:=fields_check (P:=P) em 9998 xs w fs.toList 0 _ hi (by omega)
 simp only [Array.forIn_toList] at this
 unfold Instr.checkKey
 simp only [Sem.run_bind,run_underlying hu,Result.andThen_ok]
 rw [this];rfl
theorem equal_run {P:Program} {t:TypeId} {ks:List Nat} (h:keyPlan P t=some ks) {xs ys:List Value} {b:Bool} (hc:cmpCells ks xs ys=some b) (w:World) :
 (Op.equal t (.agg xs.toArray) (.agg ys.toArray)).run P w=.ok b w:=by
 obtain ⟨fs,hu,hp,-⟩:=keyPlan_spec h
 have:=plan_run 100 10000 (by decide) t ks xs ys b w hp hc
 unfold valOf at this
 rw [hu] at this
 simpa [isRow,Op.equal,Op.maxDepth] using this
def findA (ks:List Nat) (kc:List Value):List AV->Nat->Option (Option (Nat × AV))
 | [],_=>some none
 | .v (.agg kv) :: a :: t,i=>match cmpCells ks kc kv.toList with
  | none=>none
  | some true=>some (some (i,a))
  | some false=>findA ks kc t (i+1)
 | _,_=>none
def Found (ρ:Ren) (kc:List Value) (es:List MapEntry) (i0:Nat):Option (Nat × AV)->Option (Nat × Value)->Prop
 | none,none=>True
 | some (i,a),some (j,v)=>i=j /\ Rv ρ a v /\ i0 <= i /\ ∃ e,es[i - i0]?=some e /\ e.key=.agg kc.toArray /\ e.val=v
 | _,_=>False
theorem findAsking_run {P:Program} {kt:TypeId} {ks:List Nat} (h:keyPlan P kt=some ks) {ρ:Ren} {kc:List Value} (w:World) :
 ∀ (es:List MapEntry) (t:List AV) (i:Nat) (r:Option (Nat × AV)),Rvs ρ t (flatM es)->findA ks kc t i=some r ->
  ∃ r',(Instr.findAsking kt (.agg kc.toArray) es i).run P w=.ok r' w /\ Found ρ kc es i r r'
 | [],t,i,r,hr,hf=>by
  simp only [flatM] at hr
  cases t with
  | nil=>simp [findA] at hf;subst hf;exact ⟨none,by simp [Instr.findAsking],trivial⟩
  | cons a t=>have:=hr.1;simp at this
 | e :: es,t,i,r,hr,hf=>by
  simp only [flatM] at hr
  cases t with
  | nil=>have:=hr.1;simp at this
  | cons a t =>
   cases t with
   | nil=>have:=hr.1;simp at this
   | cons a' t =>
    obtain ⟨x,ys,hx,h1,h2⟩:=hr.uncons
    simp at hx;obtain ⟨rfl,rfl⟩:=hx
    obtain ⟨x',ys',hx',h3,h4⟩:=h2.uncons
    simp at hx';obtain ⟨rfl,rfl⟩:=hx'
    have hkey:∃ kv,a=.v (.agg kv):=by
     unfold findA at hf
     split at hf
     . rename_i q1 q2;cases q2
     . rename_i q2;simp only [List.cons.injEq] at q2;exact ⟨_,q2.1⟩
     . cases hf
    obtain ⟨kv,rfl⟩:=hkey
    simp only [findA] at hf
    . obtain ⟨key,val,born⟩:=e
      simp only at h1 h3
      cases h1
      have ke:(Value.agg kv)=.agg kv.toList.toArray:=by simp
      split at hf
      . cases hf
      . rename_i hc
        simp at hf;subst hf
        have:=equal_run h hc w
        have hkk:=cmpCells_eq hc
        refine ⟨some (i,val),?_,rfl,h3,Nat.le_refl _,⟨_,by rw [Nat.sub_self];rfl,by rw [hkk],rfl⟩⟩
        simp only [Instr.findAsking,Sem.run_bind]
        rw [ke,this]
        simp
      . rename_i hc
        have:=equal_run h hc w
        obtain ⟨r',g1,g2⟩:=findAsking_run h w es t (i+1) r h4 hf
        refine ⟨r',?_,?_⟩
        . simp only [Instr.findAsking,Sem.run_bind]
          rw [ke,this]
          simp [g1]
        . cases r with
          | none=>cases r' with
           | none=>trivial
           | some q=>exact g2.elim
          | some q=>cases r' with
           | none=>exact g2.elim
           | some q' =>
            obtain ⟨e1,e2,e3,e',e4,e5⟩:=g2
            refine ⟨e1,e2,by omega,e',?_,e5⟩
            rw [show q.1 - i=(q.1 - (i+1))+1 by omega,List.getElem?_cons_succ]
            exact e4
theorem findKey_run {P:Program} {kt:TypeId} {ks:List Nat} (h:keyPlan P kt=some ks) {ρ:Ren} {kc:List Value} (w:World) (es:List MapEntry) (t:List AV) (r:Option (Nat × AV)) (hr:Rvs ρ t (flatM es)) (hf:findA ks kc t 0=some r) :
 ∃ r',(Instr.findKey kt (.agg kc.toArray) es).run P w=.ok r' w /\ Found ρ kc es 0 r r':=by
 obtain ⟨r',h1,h2⟩:=findAsking_run h w es t 0 r hr hf
 refine ⟨r',?_,h2⟩
 obtain ⟨fs,hu,-,-⟩:=keyPlan_spec h
 simp only [Instr.findKey,Sem.run_bind,run_underlying hu,Result.andThen_ok]
 cases es with
 | nil =>
  simp only [Instr.findNow]
  simpa [Instr.findAsking] using h1
 | cons e es =>
  have:Instr.findNow (.struct fs) (.agg kc.toArray) (e :: es) 0=none:=by simp [Instr.findNow,Instr.sameNow]
  rw [this]
  exact h1
def setVal:List AV->Nat->AV->List AV
 | k :: _ :: t,0,a=>k :: a :: t
 | k :: v :: t,n+1,a=>k :: v :: setVal t n a
 | l,_,_=>l
theorem setVal_ok {ρ:Ren} {a:AV} {x:Value} (hx:Rv ρ a x) (kv:Value):∀ (es:List MapEntry) (t:List AV) (i:Nat) (e:MapEntry),Rvs ρ t (flatM es)->es[i]?=some e->e.key=kv ->
 Rvs ρ (setVal t i a) (flatM (es.modify i fun e=>{ e with key:=kv,val:=x }))
 | [],t,i,e,_,hi,_=>by simp at hi
 | e0 :: es,t,i,e,hr,hi,hk=>by
  simp only [flatM] at hr
  cases t with
  | nil=>have:=hr.1;simp at this
  | cons b t =>
   cases t with
   | nil=>have:=hr.1;simp at this
   | cons b' t =>
    obtain ⟨_,_,hx',h1,h2⟩:=hr.uncons
    simp at hx';obtain ⟨rfl,rfl⟩:=hx'
    obtain ⟨_,_,hx',h3,h4⟩:=h2.uncons
    simp at hx';obtain ⟨rfl,rfl⟩:=hx'
    cases i with
    | zero =>
     simp at hi;subst hi
     subst hk
     simp only [setVal,List.modify_zero_cons,flatM]
     exact .cons h1 (.cons hx h4)
    | succ i =>
     simp at hi
     simp only [setVal,List.modify_succ_cons,flatM]
     exact .cons h1 (.cons h3 (setVal_ok hx kv es t i e h4 hi hk))
theorem flatM_append:∀ (a b:List MapEntry),flatM (a ++ b)=flatM a ++ flatM b
 | [],b=>rfl
 | e :: a,b=>by simp [flatM,flatM_append a b]
def mapOf (h:AH):AV->Option (List AV)
 | .mp i=>match AH.get h i with
  | some B=>match B.cs with
   | .mk :: t=>some t
   | _=>none
  | none=>none
 | .v (.map none)=>some []
 | _=>none
theorem mapOf_ok {F:Fr} {ρ:Ren} {h:AH} {w:World} (r:RW F ρ h w) {a:AV} {t:List AV} {v:Value} (hm:mapOf h a=some t) (hv:Rv ρ a v) :
 ∃ es:Array MapEntry,((v=.map none /\ es=#[]) \/ ∃ b n,v=.map (some b) /\ w.heap[b]?=some (.map es n)) /\ Rvs ρ t (flatM es.toList):=by
 unfold mapOf at hm
 split at hm
 . rename_i i
   split at hm
   . rename_i B hB
     split at hm
     . rename_i t' hcs
       simp at hm;subst hm
       obtain ⟨b,o,h1,h2,h3,-⟩:=r.blk i B hB
       obtain ⟨es,n,rfl,h4⟩:=h3.maps hcs
       cases hv with
       | mp hb =>
        rw [h1] at hb;simp at hb;subst hb
        exact ⟨es,.inr ⟨b,n,rfl,h2⟩,h4⟩
     . cases hm
   . cases hm
 . simp at hm;subst hm
   cases hv
   exact ⟨#[],.inl ⟨rfl,rfl⟩,.nil⟩
 . cases hm
def keyOf (a:AV):Option (List Value):=match flat a with
 | some (.agg xs)=>some xs.toList
 | _=>none
theorem keyOf_ok {ρ:Ren} {a:AV} {v:Value} {kc:List Value} (h:keyOf a=some kc) (hv:Rv ρ a v):v=.agg kc.toArray:=by
 unfold keyOf at h
 split at h
 . rename_i xs hf
   simp at h;subst h
   rw [hv.flat_eq hf]
 . cases h
def zeroFalse (P:Program) (t:TypeId):Bool:=match P.info? t with
 | some i=>match i.zero with
  | some (.bool false)=>true
  | _=>false
 | none=>false
theorem zeroFalse_run {P:Program} {t:TypeId} (h:zeroFalse P t=true) (w:World):(zeroValue t).run P w=.ok (.bool false) w:=by
 unfold zeroFalse at h
 split at h
 . rename_i i hi
   split at h
   . rename_i hz
     simp [zeroValue,typeInfo,hi,hz]
   . cases h
 . cases h
def lookupA (P:Program) (h:AH) (t:TypeId) (x ix:AV) (ok:Bool):Option AV :=
 match P.underlying t with
 | some (.map key elem)=>match keyPlan P key,zeroFalse P elem,mapOf h x,keyOf ix with
  | some ks,true,some es,some kc=>match Nat.beq kc.length ks.length,findA ks kc es 0 with
   | true,some (some (_,a))=>some (bif ok then .tup [a,.v (.bool true)] else a)
   | true,some none=>some (bif ok then .tup [.v (.bool false),.v (.bool false)] else .v (.bool false))
   | _,_=>none
  | _,_,_,_=>none
 | _=>none
theorem lookupA_run {P:Program} {F:Fr} {ρ:Ren} {h:AH} {w:World} (r:RW F ρ h w) {t:TypeId} {x ix q:AV} {ok:Bool} (hl:lookupA P h t x ix ok=some q) {v u:Value} (hv:Rv ρ x v) (hu:Rv ρ ix u) :
 ∃ y,(Instr.lookup t v u ok).run P w=.ok y w /\ Rv ρ q y:=by
 unfold lookupA at hl
 split at hl
 case h_2=>cases hl
 rename_i key elem ht
 split at hl
 case h_2=>cases hl
 rename_i ks es kc hks hz hm hk
 obtain ⟨ms,h1,h2⟩:=mapOf_ok r hm hv
 have hk':=keyOf_ok hk hu
 subst hk'
 have key:∀ b z,Nat.beq kc.length ks.length=b->findA ks kc es 0=z->b=true->∀ r0,z=some r0->∃ y,(Instr.lookup t v (.agg kc.toArray) ok).run P w=.ok y w /\
  ∀ q,(match r0 with | some (_,a)=>some (bif ok then AV.tup [a,.v (.bool true)] else a) | none=>some (bif ok then AV.tup [.v (.bool false),.v (.bool false)] else .v (.bool false)))=some q->Rv ρ q y:=by
  intro b z hb hz' hbt r0 hr0
  subst hb;subst hz'
  have hlen:=Nat.eq_of_beq_eq_true hbt
  have hc:=checkKey_run hks hlen ms.isEmpty w
  obtain ⟨r',g1,g2⟩:=findKey_run hks w ms.toList es r0 h2 hr0
  cases r0 with
  | none =>
   cases r' with
   | some _=>exact g2.elim
   | none =>
    refine ⟨if ok then .tuple #[.bool false,.bool false] else .bool false,?_,fun q hq=>?_⟩
    . rcases h1 with ⟨rfl,rfl⟩ | ⟨b,n,rfl,hb⟩
      . simp only [Instr.lookup,Sem.run_bind,run_underlying ht,Result.andThen_ok,hc,g1,zeroFalse_run hz,Sem.run_pure]
      . simp only [Instr.lookup,Sem.run_bind,run_underlying ht,Result.andThen_ok,MapKept.run_getObj_map hb,hc,g1,zeroFalse_run hz,Sem.run_pure]
    . simp only [Option.some.injEq] at hq;subst hq
      cases ok with
      | true=>exact Rv.tup_mk (xs:=[.bool false,.bool false]) (.cons (.v _) (.cons (.v _) .nil))
      | false=>exact .v _
  | some p =>
   cases r' with
   | none=>exact g2.elim
   | some p' =>
    obtain ⟨e1,e2,-,-⟩:=g2
    refine ⟨if ok then .tuple #[p'.2,.bool true] else p'.2,?_,fun q hq=>?_⟩
    . rcases h1 with ⟨rfl,rfl⟩ | ⟨b,n,rfl,hb⟩
      . simp only [Instr.lookup,Sem.run_bind,run_underlying ht,Result.andThen_ok,hc,g1,Sem.run_pure]
      . simp only [Instr.lookup,Sem.run_bind,run_underlying ht,Result.andThen_ok,MapKept.run_getObj_map hb,hc,g1,Sem.run_pure]
    . simp only [Option.some.injEq] at hq;subst hq
      cases ok with
      | true=>exact Rv.tup_mk (xs:=[p'.2,.bool true]) (.cons e2 (.cons (.v _) .nil))
      | false=>exact e2
 split at hl
 . rename_i a hb hf
   obtain ⟨y,k1,k2⟩:=key _ _ rfl rfl hb _ hf
   exact ⟨y,k1,k2 q hl⟩
 . rename_i hb hf
   obtain ⟨y,k1,k2⟩:=key _ _ rfl rfl hb _ hf
   exact ⟨y,k1,k2 q hl⟩
 . cases hl
def updateA (P:Program) (h:AH) (t:TypeId) (m k x:AV):Option (Nat × Blk) :=
 match P.underlying t,m with
 | some (.map key _),.mp i=>match AH.get h i with
  | some B=>match B.wr,B.cs,keyPlan P key,keyOf k with
   | true,.mk :: es,some ks,some kc=>match Nat.beq kc.length ks.length,findA ks kc es 0 with
    | true,some (some (j,_))=>match cmpCells ks kc kc with
     | some _=>some (i,⟨true,B.ty,.mk :: setVal es j x⟩)
     | none=>none
    | true,some none=>some (i,⟨true,B.ty,.mk :: (es ++ [.v (.agg kc.toArray),x])⟩)
    | _,_=>none
   | _,_,_,_=>none
  | none=>none
 | _,_=>none
theorem updateA_run {P:Program} {F:Fr} {ρ:Ren} {h:AH} {w:World} (r:RW F ρ h w) {t:TypeId} {m k x:AV} {i:Nat} {B':Blk} (hu:updateA P h t m k x=some (i,B')) {vm vk vx:Value} (hm:Rv ρ m vm) (hk:Rv ρ k vk) (hx:Rv ρ x vx) :
 ∃ w',(Instr.mapUpdate t vm vk vx).run P w=.ok () w' /\ RW F ρ ((i,some B') :: h) w':=by
 unfold updateA at hu
 split at hu
 case h_2=>cases hu
 rename_i key elem i' ht
 split at hu
 case h_2=>cases hu
 rename_i B hB
 split at hu
 case h_2=>cases hu
 rename_i es ks kc hwr hcs hks hkc
 obtain ⟨b,o,h1,h2,h3,-⟩:=r.blk i' B hB
 obtain ⟨ms,n,rfl,h4⟩:=h3.maps hcs
 have hk':=keyOf_ok hkc hk
 subst hk'
 have hvm:vm=.map (some b):=by cases hm with | mp hb=>rw [h1] at hb;simp at hb;rw [hb]
 subst hvm
 have hget:(getObj b).run P w=.ok (.map ms n) w:=by simp [getObj,Sem.run,h2]
 have hset:∀ o':Obj,(setObj b o').run P w=.ok () { w with heap:=w.heap.setIfInBounds b o' }:=fun o'=>by simp [setObj,Sem.run,h2]
 have hlt:b < w.heap.size:=(Array.getElem?_eq_some_iff.1 h2).1
 have fin:∀ (es':Array MapEntry) (n':Nat) (l:List AV),Rvs ρ l (flatM es'.toList)->RW F ρ ((i',some ⟨true,B.ty,.mk :: l⟩) :: h) { w with heap:=w.heap.setIfInBounds b (.map es' n') }:=by
  intro es' n' l hl
  have:=r.storeM (w':={ w with heap:=w.heap.setIfInBounds b (.map es' n') }) (n':=n') hB h1 hwr h2 l hl (by simp [hlt]) (fun k hk=>by simp [Ne.symm hk]) rfl rfl rfl
  rw [hwr] at this
  exact this
 split at hu
 . rename_i j a hb hf
   split at hu
   case h_2=>cases hu
   rename_i c hcc
   simp only [Option.some.injEq,Prod.mk.injEq] at hu
   obtain ⟨rfl,rfl⟩:=hu
   have hlen:=Nat.eq_of_beq_eq_true hb
   obtain ⟨r',g1,g2⟩:=findKey_run hks w ms.toList es _ h4 hf
   cases r' with
   | none=>exact g2.elim
   | some p =>
    obtain ⟨rfl,e2,-,e,e4,e5,e6⟩:=g2
    rw [Nat.sub_zero] at e4
    have e4':ms[p.1]?=some e:=by simpa using e4
    refine ⟨{ w with heap:=w.heap.setIfInBounds b (.map (ms.modify p.1 fun e=>{ e with key:=.agg kc.toArray,val:=vx }) n) },?_,fin _ n _ ?_⟩
    . simp only [Instr.mapUpdate,Sem.run_bind,run_underlying ht,Result.andThen_ok,hget,checkKey_run hks hlen false w,g1,e4',Option.map_some,Option.getD_some,e5,run_keyStays hcc,hset]
    . have:=setVal_ok hx (.agg kc.toArray) ms.toList es p.1 e h4 e4 e5
      simpa using this
 . rename_i hb hf
   simp only [Option.some.injEq,Prod.mk.injEq] at hu
   obtain ⟨rfl,rfl⟩:=hu
   have hlen:=Nat.eq_of_beq_eq_true hb
   obtain ⟨r',g1,g2⟩:=findKey_run hks w ms.toList es _ h4 hf
   cases r' with
   | some p=>exact g2.elim
   | none =>
    refine ⟨{ w with heap:=w.heap.setIfInBounds b (.map (ms.push { key:=.agg kc.toArray,val:=vx,born:=n }) (n+1)) },?_,fin _ (n+1) _ ?_⟩
    . simp only [Instr.mapUpdate,Sem.run_bind,run_underlying ht,Result.andThen_ok,hget,checkKey_run hks hlen false w,g1,hset]
    . rw [Array.toList_push,flatM_append]
      exact h4.append (.cons (.v _) (.cons hx .nil))
 . cases hu
theorem mapOf_cong {h h':AH} {a:AV} {t:List AV} (hh:∀ i B,a=.mp i->h.get i=some B->h'.get i=some B) (e:mapOf h a=some t):mapOf h' a=some t:=by
 unfold mapOf at e ⊢
 split at e
 . rename_i i
   split at e
   . rename_i B hB
     simp only [hh i B rfl hB]
     exact e
   . cases e
 . exact e
 . cases e
theorem lookupA_cong {P:Program} {h h':AH} {t:TypeId} {x ix q:AV} {ok:Bool} (hh:∀ i B,x=.mp i->h.get i=some B->h'.get i=some B) (e:lookupA P h t x ix ok=some q):lookupA P h' t x ix ok=some q:=by
 unfold lookupA at e ⊢
 split at e
 case h_2=>cases e
 split at e
 case h_2=>cases e
 rename_i h1 h2 h3 h4
 rw [h1,h2,mapOf_cong hh h3,h4]
 exact e
theorem updateA_cong {P:Program} {h h':AH} {t:TypeId} {m k x:AV} {q:Nat × Blk} (hh:∀ i B,m=.mp i->h.get i=some B->h'.get i=some B) (e:updateA P h t m k x=some q):updateA P h' t m k x=some q:=by
 unfold updateA at e ⊢
 split at e
 case h_2=>cases e
 split at e
 case h_2=>cases e
 rename_i hB
 simp only [hh _ _ rfl hB]
 exact e
theorem updateA_dom {P:Program} {h:AH} {t:TypeId} {m k x:AV} {i:Nat} {B':Blk} (e:updateA P h t m k x=some (i,B')):m=.mp i /\ (∃ B,h.get i=some B /\ B.wr=true) /\ B'.wr=true:=by
 unfold updateA at e
 split at e
 case h_2=>cases e
 rename_i key elem i' ht
 split at e
 case h_2=>cases e
 rename_i B hB
 split at e
 case h_2=>cases e
 rename_i hwr _ _ _
 split at e
 . split at e
   . simp at e;obtain ⟨rfl,rfl⟩:=e;exact ⟨rfl,⟨B,hB,hwr⟩,rfl⟩
   . cases e
 . simp at e;obtain ⟨rfl,rfl⟩:=e;exact ⟨rfl,⟨B,hB,hwr⟩,rfl⟩
 . cases e
def constA:Value->AV
 | .bool b=>.lit b
 | .int .u64 n=>match decide (n=0) with
  | true=>.bit false
  | false=>match decide (n=1) with
   | true=>.bit true
   | false=>canon (.int .u64 n)
 | x=>.v x
theorem Rv.constA {ρ:Ren} (x:Value):Rv ρ (Rq.constA x) x:=by
 unfold Rq.constA
 split
 . exact .lit _
 . rename_i n
   split
   . rename_i h;have h:=of_decide_eq_true h;subst h;exact .bit false
   . split
     . rename_i h;have h:=of_decide_eq_true h;subst h;exact .bit true
     . exact .canon _
 . exact .v _
def look (tm:List AV):Operand->AV
 | .tmp t=>tm.getD t .any
 | .const v=>constA v
 | .global g=>.v (.pointer (some ⟨g,0,none⟩))
 | .func f=>.fn (.func f) [] []
def oneA:AV->Bool
 | .v x=>x.oneCell'
 | .lit _=>true
 | .u _=>true
 | .bit _=>true
 | .ptr _ _=>true
 | .slc _ _ _ _=>true
 | .own _ _ _ _=>true
 | .fn _ _ _=>true
 | .ifc _ _=>true
 | _=>false
def allOne:List AV->Bool
 | []=>true
 | a :: t=>oneA a && allOne t
theorem Rv.one {ρ:Ren} {a:AV} {x:Value} (h:Rv ρ a x) (e:oneA a=true):x.oneCell'=true:=by
 cases h <;> simp_all [oneA,Value.oneCell',uval]
theorem Rvs.one {ρ:Ren}:∀ {as:List AV} {xs:List Value},Rvs ρ as xs->allOne as=true->∀ x ∈ xs,x.oneCell'=true
 | [],xs,h,_=>by rw [h.unnil];simp
 | a :: t,xs,h,e=>by
  obtain ⟨x,ys,rfl,hx,ht⟩:=h.uncons
  simp only [allOne,Bool.and_eq_true] at e
  intro y hy
  rcases List.mem_cons.1 hy with rfl | hy
  . exact hx.one e.1
  . exact Rvs.one ht e.2 y hy
def loadA (P:Program) (t:TypeId) (cs:List AV) (off:Nat):Option AV :=
 match P.underlying t with
 | none=>none
 | some d=>match isRow d with
  | true=>match sz P t with
   | none=>none
   | some n=>match cut cs off n with
    | none=>none
    | some l=>some (.agg l)
  | false=>cs[off]?
def wordsOf:List AV->Option (List (BitVec 64))
 | []=>some []
 | a :: t=>match toU a with
  | none=>none
  | some x=>match wordsOf t with
   | none=>none
   | some l=>some (x :: l)
def loadE (P:Program) (wide:Bool) (t:TypeId) (cs:List AV) (off:Nat):Option (Bool × AV) :=
 match wide with
 | true=>match wordsOf cs,P.underlying t with
  | some ws,some (.int .u64)=>some (decide (off < ws.length),.u (ws.getD off 0#64))
  | _,_=>match loadA P t cs off with
   | some r=>some (true,r)
   | none=>none
 | false=>match loadA P t cs off with
  | some r=>some (true,r)
  | none=>none
def storeA (P:Program) (t:TypeId) (cs:List AV) (off:Nat) (x:AV):Option (List AV) :=
 match cellsOf x,sz P t with
 | some l,some n=>bif Nat.beq l.length n && (Nat.ble (off+n) cs.length && allOne l) then some (setAt cs off l) else none
 | _,_=>none
def setW (u:BitVec 64) (off:Nat):List (BitVec 64)->Nat->List AV
 | [],_=>[]
 | w :: t,j=>.u (bif Nat.beq off j then u else w) :: setW u off t (j+1)
def storeE (P:Program) (wide:Bool) (t:TypeId) (cs:List AV) (off:Nat) (x:AV):Option (Bool × List AV) :=
 match wide with
 | true=>match wordsOf cs,toU x,sz P t with
  | some ws,some u,some 1=>some (Nat.blt off ws.length,setW u off ws 0)
  | _,_,_=>match storeA P t cs off x with
   | some cs=>some (true,cs)
   | none=>none
 | false=>match storeA P t cs off x with
  | some cs=>some (true,cs)
  | none=>none
theorem wordsOf_length:∀ {cs:List AV} {ws:List (BitVec 64)},wordsOf cs=some ws->ws.length=cs.length
 | [],ws,h=>by simp [wordsOf] at h;subst h;rfl
 | a :: t,ws,h=>by
  simp only [wordsOf] at h
  split at h
  . cases h
  . split at h
    . cases h
    . rename_i l hl
      simp at h;subst h
      simp [wordsOf_length hl]
theorem setW_length (u:BitVec 64) (off:Nat):∀ (ws:List (BitVec 64)) (j:Nat),(setW u off ws j).length=ws.length
 | [],_=>rfl
 | _ :: t,j=>by simp [setW,setW_length u off t (j+1)]
theorem setW_get (u:BitVec 64) (off:Nat):∀ {cs:List AV} {ws:List (BitVec 64)} (j:Nat),wordsOf cs=some ws->∀ {i:Nat} {a:AV},(setW u off ws j)[i]?=some a ->
 ∃ c y,cs[i]?=some c /\ toU c=some y /\ a=.u (bif Nat.beq off (j+i) then u else y)
 | [],ws,j,h,i,a,ha=>by
  simp [wordsOf] at h;subst h
  simp [setW] at ha
 | b :: t,ws,j,h,i,a,ha=>by
  simp only [wordsOf] at h
  split at h
  . cases h
  . rename_i x hx
    split at h
    . cases h
    . rename_i l hl
      simp at h;subst h
      cases i with
      | zero =>
       simp [setW] at ha
       exact ⟨b,x,rfl,hx,ha.symm⟩
      | succ i =>
       simp only [setW,List.getElem?_cons_succ] at ha
       obtain ⟨c,y,h1,h2,h3⟩:=setW_get u off (j+1) hl ha
       exact ⟨c,y,by simpa using h1,h2,by rw [h3,show j+1+i=j+(i+1) by omega]⟩
theorem toU_mk {a:AV} {u:BitVec 64} {ρ:Ren} {v:Value} (h:toU a=some u) (hv:Rv ρ a v):Rv ρ (.u u) v:=by
 rw [hv.toU h];exact .u _
theorem storeE_is {P:Program} {wide:Bool} {t:TypeId} {cs l:List AV} {off:Nat} {x:AV} (h:storeE P wide t cs off x=some (true,l)) :
 ∃ l0,storeA P t cs off x=some l0 /\ l.length=l0.length /\ ∀ (ρ:Ren) (i:Nat) (a:AV),l[i]?=some a->∃ a0,l0[i]?=some a0 /\ ∀ v,Rv ρ a0 v->Rv ρ a v:=by
 have plain:(match storeA P t cs off x with
  | some cs=>some (true,cs)
  | none=>none)=some (true,l)->∃ l0,storeA P t cs off x=some l0 /\ l.length=l0.length /\ ∀ (ρ:Ren) (i:Nat) (a:AV),l[i]?=some a->∃ a0,l0[i]?=some a0 /\ ∀ v,Rv ρ a0 v->Rv ρ a v:=by
  intro h
  split at h
  . rename_i l0 hl
    simp only [Option.some.injEq,Prod.mk.injEq,true_and] at h
    subst h
    exact ⟨l0,hl,rfl,fun ρ i a ha=>⟨a,ha,fun v hv=>hv⟩⟩
  . cases h
 unfold storeE at h
 split at h
 . split at h
   . rename_i ws u hws hu hs
     simp only [Option.some.injEq,Prod.mk.injEq] at h
     obtain ⟨h1,rfl⟩:=h
     have h1:off < ws.length:=Nat.le_of_ble_eq_true h1
     have hlen:=wordsOf_length hws
     have hx:cellsOf x=some [x] /\ allOne [x]=true:=by
      unfold toU at hu
      split at hu
      . exact ⟨rfl,rfl⟩
      . exact ⟨rfl,rfl⟩
      . cases hu
     have hs0:storeA P t cs off x=some (setAt cs off [x]):=by
      unfold storeA
      rw [hx.1,hs]
      simp only [List.length_singleton,hx.2,Bool.and_true]
      have e1:Nat.beq 1 1=true:=rfl
      have e2:Nat.ble (off+1) cs.length=true:=Nat.ble_eq_true_of_le (by omega)
      rw [e1,e2];rfl
     refine ⟨_,hs0,by rw [setAt_length,setW_length,hlen],fun ρ i a ha=>?_⟩
     obtain ⟨c,y,k1,k2,k3⟩:=setW_get u off 0 hws ha
     rw [Nat.zero_add] at k3
     have hi:i < cs.length:=(List.getElem?_eq_some_iff.1 k1).1
     show ∃ a0,(cs.set off x)[i]?=some a0 /\ _
     rw [List.getElem?_set]
     by_cases e:off=i
     . subst e
       rw [if_pos rfl,if_pos hi]
       refine ⟨x,rfl,fun v hv=>?_⟩
       rw [k3,show Nat.beq off off=true from Nat.beq_refl off,cond_true]
       exact toU_mk hu hv
     . rw [if_neg e]
       refine ⟨c,k1,fun v hv=>?_⟩
       rw [k3,show Nat.beq off i=false from Bool.eq_false_iff.2 fun hb=>e (Nat.eq_of_beq_eq_true hb),cond_false]
       exact toU_mk k2 hv
   . exact plain h
 . exact plain h
def inR (z k j:Nat):Prop:=z <= j /\ j < z+k
def inB (z k j:Nat):Bool:=Nat.ble z j && Nat.blt j (z+k)
def allB (z k:Nat):AH->Bool
 | []=>true
 | p :: t=>inB z k p.1 && allB z k t
theorem inB_spec {z k j:Nat} (h:inB z k j=true):inR z k j:=by
 unfold inB at h
 rw [Bool.and_eq_true] at h
 exact ⟨Nat.le_of_ble_eq_true h.1,Nat.le_of_ble_eq_true h.2⟩
theorem allB_spec {z k:Nat}:∀ {u:AH},allB z k u=true->∀ p ∈ u,inR z k p.1
 | [],_,p,hp=>by simp at hp
 | q :: t,h,p,hp=>by
  simp only [allB,Bool.and_eq_true] at h
  rcases List.mem_cons.1 hp with rfl | hp
  . exact inB_spec h.1
  . exact allB_spec h.2 p hp
theorem inR_self {z k:Nat} (hk:1 <= k):inR z k z:=⟨Nat.le_refl _,by omega⟩
theorem inR_top {b k n i id:Nat} (h:inR (b+k*i) k id) (hi:i < n):id < b+k*n:=by
 have h1:k*(i+1) <= k*n:=Nat.mul_le_mul_left k hi
 have h2:k*(i+1)=k*i+k:=Nat.mul_succ k i
 have:=h.2
 omega
theorem inR_ge {b k i id:Nat} (h:inR (b+k*i) k id):b <= id:=by have:=h.1;omega
theorem inR_inj {b k i j id:Nat} (h:inR (b+k*i) k id) (h':inR (b+k*j) k id):i=j:=by
 rcases Nat.lt_trichotomy i j with hl | he | hl
 . have:=inR_top h hl;have:=h'.1;omega
 . exact he
 . have:=inR_top h' hl;have:=h.1;omega
def freeR (ρ:Ren) (z k:Nat):Prop:=∀ j,inR z k j->ρ j=none
def memN (f:Nat):List Nat->Bool
 | []=>false
 | x :: l=>bif Nat.beq f x then true else memN f l
def effCall (E:Env) (ev:Operand->AV) (h:AH) (id:Nat) (f:Operand) (args:List Operand):Option (Bool × AV × AH) :=
 match ev f with
 | .fn (.func fid) as bs=>match E.pure fid with
  | some g=>match g (as ++ (maps ev args ++ bs)) with
   | some (c,r)=>some (c,r,[])
   | none=>none
  | none=>match f with
   | .func f'=>match E.heap f' with
    | some g=>match memN f' E.ro with
     | false=>g (maps ev args) h
     | true=>match g (maps ev args) h with
      | some (c,r,[])=>some (c,r,[])
      | _=>none
    | none=>match E.lay f' with
     | some g=>match g (maps ev args) id with
      | some (c,r,B)=>some (c,r,[(id,some B)])
      | none=>none
     | none=>match E.act f' with
      | some g=>match memN f' E.ro with
       | false=>g (maps ev args) h id
       | true=>match g (maps ev args) h id with
        | some (c,r,ups)=>match allB id E.kk ups with
         | true=>some (c,r,ups)
         | false=>none
        | none=>none
      | none=>none
   | _=>match E.dyn with
    | false=>none
    | true=>match E.act fid with
     | some g=>g (as ++ (maps ev args ++ bs)) h id
     | none=>none
 | _=>none
def zerosA (z:List AV) (n:Nat):Nat->Nat->List AV
 | _,0=>[]
 | j,m+1=>z.getD (j % n) .any :: zerosA z n (j+1) m
theorem zerosA_get (z:List AV) (n:Nat):∀ (m j i:Nat) (a:AV),(zerosA z n j m)[i]?=some a->i < m /\ a=z.getD ((j+i) % n) .any
 | 0,j,i,a,h=>by simp [zerosA] at h
 | m+1,j,i,a,h=>by
  cases i with
  | zero=>simp [zerosA] at h;subst h;simp
  | succ i =>
   simp [zerosA] at h
   obtain ⟨h1,h2⟩:=zerosA_get z n m (j+1) i a h
   exact ⟨by omega,by rw [h2];congr 2;omega⟩
theorem zerosA_length (z:List AV) (n:Nat):∀ (m j:Nat),(zerosA z n j m).length=m
 | 0,j=>rfl
 | m+1,j=>by simp [zerosA,zerosA_length z n m]
def effBuildSlice (P:Program) (ev:Operand->AV) (id:Nat) (t:TypeId) (len:Nat) (parts:List (Nat × Operand)):Option (Bool × AV × AH) :=
 match P.underlying t with
 | some (.slice e)=>match zeroOf P e with
  | none=>none
  | some z=>match sz P e with
   | none=>none
   | some n=>bif Nat.beq z.length n && (Nat.blt 0 n && Nat.ble (len*n) 16777216) then
    match fillA (fun i=>some (i*n,n)) (evs ev parts) (zerosA z n 0 (len*n)) with
    | some l=>some (true,.slc id 0 len len,[(id,some ⟨true,e,l⟩)])
    | none=>none
    else none
 | _=>none
def toldN (n:Nat):Nat:=bif Nat.blt 2000 n then 0 else n
def effMake (P:Program) (ev:Operand->AV) (id:Nat) (t:TypeId) (l c:Operand):Option (Bool × AV × AH) :=
 match P.underlying t,flat (ev l),flat (ev c) with
 | some (.slice e),some (.int _ len),some (.int _ cap)=>match P.info? e with
  | none=>none
  | some i=>match i.zero with
   | none=>none
   | some z=>bif Nat.beq z.cells.size i.size && Nat.blt 0 i.size then
    some (decide (0 <= len /\ len <= cap /\ (i.bytes:Int)*cap <= 281474976710656 /\ cap <= 9223372036854775807),.slc id 0 len.toNat cap.toNat,[(id,some ⟨true,e,zerosA (canons z.cells.toList) i.size 0 (toldN (cap.toNat*i.size))⟩)])
    else none
 | _,_,_=>none
def sliceCells (size:Nat) (h:AH):AV->Option (Nat × List AV)
 | .slc i off len _=>match h.getC i with
  | none=>none
  | some B=>match cut B.cs off (len*size) with
   | none=>none
   | some l=>some (len,l)
 | .own i es k len=>match Nat.beq es size with
  | false=>none
  | true=>match h.getC i with
   | none=>none
   | some B=>match cut B.cs (k*size) (len*size) with
    | none=>none
    | some l=>some (len,l)
 | _=>none
def appendTo (h:AH) (id:Nat) (e:TypeId) (size bytes m:Nat) (news:List AV):AV->Option (Bool × AV × AH)
 | .v (.slice none 0 0)=>bif Nat.blt 0 m && (Nat.ble m maxLen && Nat.ble (m*bytes) 140737488355328) then some (true,.own id size 0 m,[(id,some ⟨true,e,news⟩)]) else none
 | .own i es 0 n=>match h.getC i with
  | none=>none
  | some B=>match cut B.cs 0 (n*size) with
   | none=>none
   | some olds=>bif Nat.beq es size && (B.wr && (Nat.beq B.ty e && (Nat.ble (n+m) maxLen && Nat.ble ((n+m)*bytes) 140737488355328))) then
    some (true,.own id size 0 (n+m),[(id,some ⟨true,e,olds ++ news⟩),(i,none)]) else none
 | .slc i off n cap=>match h.getC i with
  | none=>none
  | some B=>match cut B.cs off (n*size) with
   | none=>none
   | some olds=>bif Nat.blt cap (n+m) && (Nat.ble (n+m) maxLen && Nat.ble ((n+m)*bytes) 140737488355328) then
    some (true,.own id size 0 (n+m),[(id,some ⟨true,e,olds ++ news⟩)]) else none
 | _=>none
def effAppendZ (P:Program) (h:AH) (id:Nat) (t t':TypeId) (a x:AV):Option (Bool × AV × AH) :=
 match P.underlying t,P.underlying t',flat x,a with
 | some (.slice e),some (.int _),some (.int _ n),.slc i off len cap=>match P.info? e,AH.getC h i with
  | some ti,some B=>match ti.zero,cut B.cs off (len*ti.size) with
   | some z,some olds=>bif Nat.beq z.cells.size ti.size && (Nat.blt 0 ti.size && (decide (0 < n) && (Nat.blt cap (len+n.toNat) && (Nat.ble (len+n.toNat) maxLen && Nat.ble ((len+n.toNat)*ti.bytes) 140737488355328)))) then
    some (true,.own id ti.size 0 (len+n.toNat),[(id,some ⟨true,e,olds ++ zerosA (canons z.cells.toList) ti.size 0 (n.toNat*ti.size)⟩)]) else none
   | _,_=>none
  | _,_=>none
 | _,_,_,_=>none
def effAppendT (P:Program) (h:AH) (id:Nat) (t t':TypeId) (a x:AV):Option (Bool × AV × AH) :=
 match P.underlying t,P.underlying t',x,a with
 | some (.slice e),some .string,.v (.string s),.own i es k n=>match P.info? e with
  | some ti=>match ti.zero with
   | some z=>bif Nat.beq z.cells.size ti.size && (Nat.beq ti.size 1 && Nat.beq k 0) then appendTo h id e ti.size ti.bytes s.data.toList.length (s.data.toList.map fun b=>.v (.int .u8 (b.toNat:Nat))) (.own i es 0 n) else none
   | none=>none
  | none=>none
 | _,_,_,_=>none
def effAppendO (P:Program) (h:AH) (id:Nat) (t t':TypeId) (a x:AV):Option (Bool × AV × AH):=match P.underlying t' with
 | some .string=>effAppendT P h id t t' a x
 | _=>effAppendZ P h id t t' a x
theorem effAppendT_own {P:Program} {h:AH} {id:Nat} {t t':TypeId} {a x r:AV} {c:Bool} {ups:AH} (he:effAppendT P h id t t' a x=some (c,r,ups)) :
 ∃ i es k n,a=.own i es k n /\ ∃ B b,h.get i=some B /\ ups=[(id,b),(i,none)]:=by
 unfold effAppendT at he
 split at he
 case h_2=>cases he
 rename_i e s i es k n hu hs
 split at he
 case h_2=>cases he
 split at he
 case h_2=>cases he
 cases hb:(Nat.beq _ _ && (Nat.beq _ 1 && Nat.beq k 0)) with
 | false=>rw [hb] at he;cases he
 | true =>
  rw [hb,cond_true] at he
  simp only [appendTo] at he
  split at he
  . cases he
  rename_i B hB
  split at he
  . cases he
  cases hc:(Nat.beq es _ && (B.wr && (Nat.beq B.ty e && (Nat.ble _ maxLen && Nat.ble _ 140737488355328)))) with
  | false=>rw [hc] at he;cases he
  | true =>
   rw [hc,cond_true] at he
   simp only [Option.some.injEq,Prod.mk.injEq] at he
   exact ⟨i,es,k,n,rfl,B,_,getC_get hB,he.2.2.symm⟩
def sameT (P:Program) (t t':TypeId):Bool:=match Nat.beq t t' with
 | true=>true
 | false=>match P.underlying t,P.underlying t' with
  | some (.slice _),some (.slice _)=>true
  | _,_=>false
def effAppend (P:Program) (ev:Operand->AV) (h:AH) (id:Nat) (c:Call):Option (Bool × AV × AH) :=
 match c.args.toList,c.argTypes.toList with
 | [s,x],[t,t']=>match sameT P t t' with
  | false=>effAppendO P h id t t' (ev s) (ev x)
  | true=>match P.underlying t with
   | some (.slice e)=>match P.info? e with
    | none=>none
    | some i=>match i.zero with
     | none=>none
     | some z=>match sliceCells i.size h (ev x) with
      | none=>none
      | some (m,news)=>bif allOne news && (Nat.beq z.cells.size i.size && Nat.blt 0 i.size) then appendTo h id e i.size i.bytes m news (ev s) else none
   | _=>none
 | _,_=>none
def ownArg (ev:Operand->AV) (c:Call):Bool:=match c.args.toList with
 | s :: _=>match ev s with
  | .own _ _ _ _=>true
  | _=>false
 | _=>false
def isNoS (dyn:Bool):AV->Bool
 | .v (.slice none 0 0)=>true
 | .slc _ _ n _=>dyn && Nat.beq n 0
 | .own _ _ _ n=>dyn && Nat.beq n 0
 | _=>false
def nilSrc (P:Program) (dyn:Bool) (ev:Operand->AV) (c:Call):Option AV :=
 match c.args.toList,c.argTypes.toList with
 | [s,x],[t,t']=>match sameT P t t' with
  | false=>none
  | true=>match P.underlying t with
   | some (.slice e)=>match P.info? e with
    | none=>none
    | some _=>match isNoS dyn (ev x) with
     | false=>none
     | true=>match ev s with
      | .own i es k n=>some (.own i es k n)
      | .v (.slice none 0 0)=>some (.v (.slice none 0 0))
      | .slc i off n m=>bif dyn && Nat.ble n m then some (.slc i off n m) else none
      | _=>none
   | _=>none
 | _,_=>none
def effAppendF (P:Program) (E:Env) (ev:Operand->AV) (h:AH) (id:Nat) (c:Call):Option (Bool × AV × AH) :=
 match E.fresh && ownArg ev c with
 | true=>none
 | false=>match E.fresh with
  | true=>effAppend P ev h id c
  | false=>match nilSrc P E.dyn ev c with
   | some r=>some (true,r,[])
   | none=>effAppend P ev h id c
theorem effAppendF_cases {P:Program} {E:Env} {ev:Operand->AV} {h:AH} {id:Nat} {c:Call} {x:Bool × AV × AH} (he:effAppendF P E ev h id c=some x) :
 effAppend P ev h id c=some x \/ ∃ r,nilSrc P E.dyn ev c=some r /\ x=(true,r,[]):=by
 unfold effAppendF at he
 split at he
 . cases he
 split at he
 . exact .inl he
 split at he
 . rename_i r hr
   simp only [Option.some.injEq] at he
   exact .inr ⟨r,hr,he.symm⟩
 . exact .inl he
theorem effAppendF_to {P:Program} {E:Env} {ev:Operand->AV} {h h':AH} {id:Nat} {c:Call} {x:Bool × AV × AH} (hh:effAppend P ev h id c=some x->effAppend P ev h' id c=some x)
 (he:effAppendF P E ev h id c=some x):effAppendF P E ev h' id c=some x:=by
 cases h1:(E.fresh && ownArg ev c) with
 | true =>
  unfold effAppendF at he
  simp only [h1] at he
  cases he
 | false =>
  unfold effAppendF at he ⊢
  simp only [h1] at he ⊢
  cases h2:E.fresh with
  | true =>
   simp only [h2] at he ⊢
   exact hh he
  | false =>
   simp only [h2] at he ⊢
   cases h3:nilSrc P E.dyn ev c with
   | some r =>
    simp only [h3] at he ⊢
    exact he
   | none =>
    simp only [h3] at he ⊢
    exact hh he
def effLen (P:Program) (ev:Operand->AV) (c:Call):Option AV :=
 match c.args.toList,c.argTypes.toList with
 | x :: _,t :: _=>match P.underlying t,ev x with
  | some (.slice _),.slc _ _ len _=>some (.v (.int .i64 len))
  | some (.slice _),.own _ _ _ len=>some (.v (.int .i64 len))
  | some (.slice _),.v (.slice _ len _)=>some (.v (.int .i64 len))
  | some (.array n _),_=>some (.v (.int .i64 n))
  | some .string,.v (.string s)=>some (.v (.int .i64 s.size))
  | _,_=>none
 | _,_=>none
def effCopy (P:Program) (ev:Operand->AV) (h:AH) (c:Call):Option (Bool × AV × AH) :=
 match c.args.toList,c.argTypes.toList with
 | [d,s],t :: _=>match P.underlying t,ev d with
  | some (.slice e),.slc i off dl _=>match sz P e,AH.getC h i with
   | some n,some B=>match sliceCells n h (ev s) with
    | some (m,cs)=>match cut cs 0 (Nat.min m dl*n) with
     | some l=>bif B.wr && (allOne l && Nat.ble (off+Nat.min m dl*n) B.cs.length) then
      some (true,.v (.int .i64 ((Nat.min m dl:Nat):Int)),[(i,some ⟨true,B.ty,setAt B.cs off l⟩)]) else none
     | none=>none
    | none=>none
   | _,_=>none
  | _,_=>none
 | _,_=>none
def effCap (P:Program) (ev:Operand->AV) (c:Call):Option AV :=
 match c.args.toList,c.argTypes.toList with
 | x :: _,t :: _=>match P.underlying t,ev x with
  | some (.slice _),.slc _ _ _ cap=>some (.v (.int .i64 cap))
  | some (.slice _),.v (.slice _ _ cap)=>some (.v (.int .i64 cap))
  | _,_=>none
 | _,_=>none
def inL (t:Nat):List Nat->Bool
 | []=>false
 | x :: l=>bif Nat.beq x t then true else inL t l
def isSl:AV->Bool
 | .slc _ _ _ _=>true
 | .own _ _ _ _=>true
 | _=>false
def bytesA:List AV->Option (List Int)
 | []=>some []
 | a :: t=>match flat a with
  | some (.int .u8 n)=>match bytesA t with
   | none=>none
   | some l=>some (n :: l)
  | _=>none
def effStr (P:Program) (h:AH) (s d:TypeId) (a:AV):Option AV :=
 match P.underlying s,P.underlying d with
 | some (.slice e),some .string=>match P.underlying e with
  | some (.int .u8)=>match sliceCells 1 h a with
   | none=>none
   | some (_,l)=>match bytesA l with
    | none=>none
    | some ns=>some (.v (.string (ns.foldl (fun r n=>r.push (UInt8.ofNat n.toNat)) ByteArray.empty)))
  | _=>none
 | _,_=>none
def flatAll:List AV->Option (List Value)
 | []=>some []
 | a :: t=>match flat a with
  | none=>none
  | some x=>match flatAll t with
   | none=>none
   | some l=>some (x :: l)
def effMax (P:Program) (ev:Operand->AV) (c:Call):Option AV :=
 match flatAll (maps ev c.args.toList) with
 | none=>none
 | some vs=>match pureRun P (Builtin.max_ #[] 0 vs.toArray) with
  | none=>none
  | some r=>some (.v r)
def effMin (P:Program) (ev:Operand->AV) (c:Call):Option AV :=
 match flatAll (maps ev c.args.toList) with
 | none=>none
 | some vs=>match pureRun P (Builtin.min_ #[] 0 vs.toArray) with
  | none=>none
  | some r=>some (.v r)
def effBytes (P:Program) (id:Nat) (s d:TypeId) (a:AV):Option (Bool × AV × AH) :=
 match P.underlying s,P.underlying d,a with
 | some .string,some (.slice e),.v (.string t)=>match P.underlying e with
  | some (.int .u8)=>bif Nat.ble t.data.toList.length maxLen then
   some (true,.own id 1 0 t.data.toList.length,[(id,some ⟨false,e,t.data.toList.map fun b=>.v (.int .u8 (b.toNat:Nat))⟩)]) else none
  | _=>none
 | _,_,_=>none
def slName:AV->Option Nat
 | .slc i _ _ _=>some i
 | .own i _ _ _=>some i
 | _=>none
def slTo (id:Nat):AV->AV
 | .slc _ off n c=>.slc id off n c
 | .own _ es k n=>.own id es k n
 | a=>a
def effMark (P:Program) (id:Nat) (h:AH) (s:TypeId) (a:AV):Option (Bool × AV × AH) :=
 match P.underlying s with
 | some (.slice e)=>match P.underlying e with
  | some (.int .u8)=>match slName a with
   | some i=>match h.getC i with
    | some B=>match B.wr with
     | true=>some (true,slTo id a,[(id,some ⟨false,B.ty,B.cs⟩),(i,none)])
     | false=>none
    | none=>none
   | none=>none
  | _=>none
 | _=>none
def isMark (E:Env) (s d:TypeId) (a:AV):Bool:=(E.dyn && Nat.beq s d) && isSl a
def hintOk (P:Program) (ev:Operand->AV) (t:TypeId):Option Operand->Bool
 | none=>true
 | some o=>match P.underlying t,flat (ev o) with
  | some (.map _ _),some (.int _ _)=>true
  | _,_=>false
def effOp (P:Program) (E:Env) (ev:Operand->AV) (h:AH) (id:Nat) (op:Op):Option (Bool × AV × AH) :=
 match op with
 | .alloc t=>match zeroOf P t with
  | some z=>some (true,.ptr id 0,[(id,some ⟨true,t,z⟩)])
  | none=>none
 | .box t x=>match cellsOf (ev x) with
  | some z=>some (true,.ptr id 0,[(id,some ⟨true,t,z⟩)])
  | none=>none
 | .buildSlice t len parts=>effBuildSlice P ev id t len parts.toList
 | .makeSlice t l c=>effMake P ev id t l c
 | .load t a=>match ev a with
  | .ptr i off=>match h.getC i with
   | some B=>match loadE P E.wide t B.cs off with
    | some (c,r)=>some (c,r,[])
    | none=>none
   | none=>none
  | .v (.pointer (some ⟨g,off,none⟩))=>match gTab g with
   | some cs=>match loadE P E.wide t (cs.map .v) off with
    | some (c,r)=>some (c,r,[])
    | none=>none
   | none=>none
  | _=>none
 | .store t a x=>match ev a with
  | .ptr i off=>match h.getC i with
   | some B=>match B.wr with
    | true=>match storeE P E.wst t B.cs off (ev x) with
     | some (c,cs)=>some (c,.v undef,[(i,some ⟨true,B.ty,cs⟩)])
     | none=>none
    | false=>none
   | none=>none
  | _=>none
 | .call c=>match c.callee with
  | .value f=>effCall E ev h id f c.args.toList
  | .builtin .len=>match effLen P ev c with
   | some r=>some (true,r,[])
   | none=>none
  | .builtin .append=>effAppendF P E ev h id c
  | .builtin .max=>match effMax P ev c with
   | some r=>some (true,r,[])
   | none=>none
  | .builtin .min=>match effMin P ev c with
   | some r=>some (true,r,[])
   | none=>none
  | .builtin .copy=>effCopy P ev h c
  | .builtin .cap=>match effCap P ev c with
   | some r=>some (true,r,[])
   | none=>none
  | _=>none
 | .convert s d x=>match isMark E s d (ev x) with
  | true=>effMark P id h s (ev x)
  | false=>match inL d E.strT && isSl (ev x) with
   | true=>match effStr P h s d (ev x) with
    | some r=>some (true,r,[])
    | none=>none
   | false=>match effBytes P id s d (ev x) with
    | some r=>some r
    | none=>match opPure P E ev (.convert s d x) with
     | some (c,r)=>some (c,r,[])
     | none=>none
 | .makeMap t r=>match hintOk P ev t r with
  | true=>some (true,.mp id,[(id,some ⟨true,t,[.mk]⟩)])
  | false=>none
 | .lookup t x ix ok=>match lookupA P h t (ev x) (ev ix) ok with
  | some r=>some (true,r,[])
  | none=>none
 | .mapUpdate t m k x=>match updateA P h t (ev m) (ev k) (ev x) with
  | some (i,B)=>some (true,.v undef,[(i,some B)])
  | none=>none
 | op=>match opPure P E ev op with
  | some (c,r)=>some (c,r,[])
  | none=>none
def isWr (E:Env):Op->Bool
 | .store _ _ _=>true
 | .mapUpdate _ _ _ _=>true
 | .convert s d _=>E.dyn && Nat.beq s d
 | .call c=>match c.callee with
  | .value (.func f)=>match E.pure f with
   | some _=>false
   | none=>match E.heap f with
    | some _=>!memN f E.ro
    | none=>match E.lay f with
     | some _=>false
     | none=>match E.act f with
      | some _=>!memN f E.ro
      | none=>false
  | .value _=>E.dyn
  | .builtin .append=>!E.fresh
  | .builtin .copy=>true
  | _=>false
 | _=>false
def isRd (E:Env):Op->Bool
 | .load _ _=>true
 | .lookup _ _ _ _=>true
 | .convert _ d _=>inL d E.strT
 | .call c=>match c.callee with
  | .builtin .append=>E.fresh
  | .value (.func f)=>match E.pure f with
   | some _=>false
   | none=>match E.heap f with
    | some _=>memN f E.ro
    | none=>match E.lay f with
     | some _=>false
     | none=>match E.act f with
      | some _=>memN f E.ro
      | none=>false
  | _=>false
 | _=>false
def PureOk (P:Program) (f:FuncId) (g:List AV->Option (Bool × AV)):Prop :=
 ∀ (ρ:Ren) (as:List AV) (xs:List Value) (r:AV),g as=some (true,r)->Rvs ρ as xs ->
  ∀ w,GW w->Calls P f xs.toArray w (fun e w'=>∃ v,e=.returned v /\ Rv ρ r v /\ RowKit.Below w.heap.size w w')
def idsOf:List AV->List Nat
 | []=>[]
 | a :: t=>match a with
  | .ptr id _=>id :: idsOf t
  | .slc id _ _ _=>id :: idsOf t
  | .own id _ _ _=>id :: idsOf t
  | _=>idsOf t
structure HeapOk (P:Program) (f:FuncId) (g:List AV->AH->Option (Bool × AV × AH)):Prop where
 run:∀ (F:Fr) (ρ:Ren) (as:List AV) (xs:List Value) (h:AH) (r:AV) (ups:AH) (w:World),g as h=some (true,r,ups)->Rvs ρ as xs->RW F ρ h w ->
  Calls P f xs.toArray w (fun e w'=>∃ v,e=.returned v /\ Rv ρ r v /\ RW F ρ (ups ++ h) w')
 mono:∀ (as:List AV) (h h':AH) (x:Bool × AV × AH),(∀ id B,h.get id=some B->h'.get id=some B)->g as h=some x->g as h'=some x
 local_:∀ (ρ:Ren) (as:List AV) (xs:List Value) (z:Nat) (b:Option Blk) (h:AH) (x:Bool × AV × AH),Rvs ρ as xs->ρ z=none->g as ((z,b) :: h)=some x->g as h=some x
 dom:∀ (as:List AV) (h:AH) (c:Bool) (r:AV) (ups:AH),g as h=some (c,r,ups)->∀ p ∈ ups,∃ B,h.get p.1=some B
 loc:∀ (as:List AV) (h h':AH) (x:Bool × AV × AH),(∀ i ∈ idsOf as,∀ B,h.get i=some B->h'.get i=some B)->g as h=some x->g as h'=some x
structure LayOk (P:Program) (f:FuncId) (g:List AV->Nat->Option (Bool × AV × Blk)):Prop where
 run:∀ (F:Fr) (ρ:Ren) (as:List AV) (xs:List Value) (h:AH) (z:Nat) (r:AV) (B:Blk) (w:World),g as z=some (true,r,B)->Rvs ρ as xs->RW F ρ h w->ρ z=none ->
  Calls P f xs.toArray w (fun e w'=>∃ v ρ',e=.returned v /\ ρ.le ρ' /\ (∀ j,j ≠ z->ρ' j=ρ j) /\ Rv ρ' r v /\ RW F ρ' ((z,some B) :: h) w')
structure ActOk (P:Program) (kk:Nat) (f:FuncId) (g:List AV->AH->Nat->Option (Bool × AV × AH)):Prop where
 run:∀ (F:Fr) (ρ:Ren) (as:List AV) (xs:List Value) (h:AH) (z:Nat) (r:AV) (ups:AH) (w:World),g as h z=some (true,r,ups)->Rvs ρ as xs->RW F ρ h w->freeR ρ z kk ->
  Calls P f xs.toArray w (fun e w'=>∃ v ρ',e=.returned v /\ ρ.le ρ' /\ (∀ j,¬ inR z kk j->ρ' j=ρ j) /\ Rv ρ' r v /\ RW F ρ' (ups ++ h) w')
 mono:∀ (as:List AV) (h h':AH) (z:Nat) (x:Bool × AV × AH),(∀ id B,h.get id=some B->h'.get id=some B)->g as h z=some x->g as h' z=some x
 local_:∀ (F:Fr) (ρ:Ren) (as:List AV) (xs:List Value) (z:Nat) (u h:AH) (w:World) (x:Bool × AV × AH),Rvs ρ as xs->RW F ρ h w->(∀ p ∈ u,ρ p.1=none)->g as (u ++ h) z=some x->g as h z=some x
 dom:∀ (as:List AV) (h:AH) (z:Nat) (c:Bool) (r:AV) (ups:AH),g as h z=some (c,r,ups)->∀ p ∈ ups,inR z kk p.1 \/ ∃ B,h.get p.1=some B
def Enters (P:Program) (f:FuncId):Prop:=∃ fn,P.funcs[f]?=some fn /\ (fn.name == "runtime.NumGoroutine")=false /\ fn.body.isNone=false
def ExtOk (P:Program) (f:FuncId) (g:List AV->Option (Bool × AV)):Prop :=
 ∀ (ρ:Ren) (as:List AV) (xs:List Value) (r:AV),g as=some (true,r)->Rvs ρ as xs ->
  ∀ w,∃ v,(callFunc f xs.toArray).run P w=.ok (.value v) w /\ Rv ρ r v
def CallOk (P:Program) (f:FuncId) (g:List AV->Option (Bool × AV)):Prop:=(Enters P f /\ PureOk P f g) \/ ExtOk P f g
structure EnvOk (P:Program) (E:Env):Prop where
 eq:E.eqOk P
 pure:∀ f g,E.pure f=some g->CallOk P f g
 heap:∀ f g,E.heap f=some g->Enters P f /\ HeapOk P f g
 lay:∀ f g,E.lay f=some g->Enters P f /\ LayOk P f g
 act:∀ f g,E.act f=some g->Enters P f /\ ActOk P E.kk f g
 kk:1 <= E.kk
theorem callFunc_run {P:Program} {f:FuncId} (h:Enters P f) (args:Array Value) (w:World):(callFunc f args).run P w=.ok (.enter f args) w:=by
 obtain ⟨fn,h1,h2,h3⟩:=h
 have h2':¬ fn.name= "runtime.NumGoroutine":=by simpa using h2
 have h3':¬ fn.body=none:=by cases hb:fn.body <;> simp_all
 simp [callFunc,h1,h2',h3']
theorem storeCells_run {P:Program} {b:Nat} {ty:TypeId}:∀ (l:List Value) (off i:Nat) (xs:Array Value) (w:World),w.heap[b]?=some (.cells xs ty (0,0))->off+i+l.length <= xs.size ->
 (∀ v ∈ l,v.oneCell'=true)->∃ w',(storeCells ⟨b,off,none⟩ l i).run P w=.ok () w' /\ w'.heap[b]?=some (.cells (setAt xs.toList (off+i) l).toArray ty (0,0)) /\
  (∀ k,k ≠ b->w'.heap[k]?=w.heap[k]?) /\ w'.os=w.os /\ w'.tape=w.tape /\ w'.output=w.output:=by
 intro l
 induction l with
 | nil=>intro off i xs w hb _ _;exact ⟨w,by simp [storeCells],by simpa [setAt] using hb,fun _ _=>rfl,rfl,rfl,rfl⟩
 | cons v t ih =>
  intro off i xs w hb hl h1
  have hv:=h1 v (by simp)
  have hlt:off+i < xs.size:=by simp at hl;omega
  have hc:w.cell? ⟨b,off+i,none⟩=some xs[off+i]:=by simp [World.cell?,hb,hlt]
  have hf:w.frozen? ⟨b,off+i,none⟩=false:=by simp [World.frozen?,hb]
  have hb2:(w.setCell ⟨b,off+i,none⟩ v).heap[b]?=some (.cells (xs.setIfInBounds (off+i) v) ty (0,0)):=by
   simp [World.setCell,Array.getElem?_modify,hb]
  obtain ⟨w',h2,h3,h4,h5,h6,h7⟩:=ih off (i+1) (xs.setIfInBounds (off+i) v) (w.setCell ⟨b,off+i,none⟩ v) hb2 (by simp at hl ⊢;omega) (fun x hx=>h1 x (by simp [hx]))
  refine ⟨w',?_,?_,fun k hk=>?_,h5,h6,h7⟩
  . simp only [storeCells,Sem.run_bind,Addr.add_none,run_store P w _ v _ hv,hc,hf]
    simp [h2]
  . rw [h3];simp [setAt,Nat.add_assoc]
  . rw [h4 k hk];exact RowKit.Below.heap_setCell w _ _ k hk
theorem loadA_run {P:Program} {t:TypeId} {cs:List AV} {off:Nat} {r:AV} {ρ:Ren} {bs:Nat} {xs:Array Value} {b:Nat} {ty:TypeId} {fr:Nat × Nat} {w:World} (h:loadA P t cs off=some r)
 (hb:w.heap[b]?=some (.cells xs ty fr)) (hl:bs+cs.length <= xs.size) (hx:∀ (i:Nat) (a:AV) (x:Value),cs[i]?=some a->xs[bs+i]?=some x->Rv ρ a x) :
 ∃ v,(loadVar t ⟨b,bs+off,none⟩).run P w=.ok v w /\ Rv ρ r v:=by
 unfold loadA at h
 split at h
 . cases h
 . rename_i d hd
   split at h
   . rename_i hr
     split at h
     . cases h
     . rename_i n hn
       split at h
       . cases h
       . rename_i l hc
         simp at h;subst h
         obtain ⟨hle,rfl⟩:=cut_some hc
         have hrel:Rvs ρ ((cs.drop off).take n) ((xs.toList.drop (bs+off)).take n):=by
          refine ⟨by simp;omega,fun i a x ha hx'=>?_⟩
          rw [List.getElem?_take] at ha hx'
          split at ha
          . rename_i hlt
            rw [if_pos hlt] at hx'
            rw [List.getElem?_drop] at ha hx'
            exact hx _ a x ha (by rw [<- Nat.add_assoc];simpa using hx')
          . cases ha
         refine ⟨.agg ((xs.toList.drop (bs+off)).take n).toArray,?_,.agg_mk hrel⟩
         have hlen:((xs.toList.drop (bs+off)).take n).length=n:=by simp;omega
         have hll:=run_loadCells_list (P:=P) w ⟨b,bs+off,none⟩ ((xs.toList.drop (bs+off)).take n) (fun j v hv=>by
          rw [Addr.add_none]
          rw [List.getElem?_take] at hv
          split at hv
          . rw [List.getElem?_drop] at hv
            simp [World.cell?,hb]
            simpa using hv
          . cases hv)
         rw [hlen] at hll
         simp [loadVar,run_isAgg hd,hr,run_sizeOf hn,hll]
   . rename_i hr
     have hlt:off < cs.length:=(List.getElem?_eq_some_iff.1 h).1
     have hlt':bs+off < xs.size:=by omega
     refine ⟨xs[bs+off],?_,hx off r _ h (by simp [hlt'])⟩
     simp [loadVar,run_isAgg hd,hr,World.cell?,hb,hlt']
theorem wordsOf_get {ρ:Ren}:∀ {cs:List AV} {ws:List (BitVec 64)} {xs:Array Value},wordsOf cs=some ws->cs.length <= xs.size->(∀ (i:Nat) (a:AV) (x:Value),cs[i]?=some a->xs[i]?=some x->Rv ρ a x) ->
 ws.length=cs.length /\ ∀ i,i < ws.length->xs[i]?=some (uval (ws.getD i 0#64)):=by
 intro cs
 induction cs with
 | nil=>intro ws xs h _ _;simp [wordsOf] at h;subst h;simp
 | cons a t ih =>
  intro ws xs h hl hx
  simp only [wordsOf] at h
  split at h
  . cases h
  . rename_i u hu
    split at h
    . cases h
    . rename_i l hl'
      simp at h;subst h
      have hpos:0 < xs.size:=by simp at hl;omega
      obtain ⟨h1,h2⟩:=ih (xs:=xs.extract 1 xs.size) hl' (by simp at hl ⊢;omega) (fun i b y hb hy=>by
       refine hx (i+1) b y (by simpa using hb) ?_
       rw [Array.getElem?_extract] at hy
       split at hy
       . rw [Nat.add_comm];exact hy
       . cases hy)
      refine ⟨by simp [h1],fun i hi=>?_⟩
      cases i with
      | zero =>
       have h0:xs[0]?=some xs[0]:=by simp [hpos]
       rw [h0,(hx 0 a xs[0] rfl h0).toU hu]
       simp
      | succ i =>
       have:=h2 i (by simpa using hi)
       rw [Array.getElem?_extract] at this
       split at this
       . rw [Nat.add_comm] at this;simpa using this
       . cases this
theorem loadE_run {P:Program} {wide:Bool} {t:TypeId} {cs:List AV} {off:Nat} {r:AV} {ρ:Ren} {bs:Nat} {xs:Array Value} {b:Nat} {ty:TypeId} {fr:Nat × Nat} {w:World} (h:loadE P wide t cs off=some (true,r))
 (hb:w.heap[b]?=some (.cells xs ty fr)) (hl:bs+cs.length <= xs.size) (hx:∀ (i:Nat) (a:AV) (x:Value),cs[i]?=some a->xs[bs+i]?=some x->Rv ρ a x) :
 ∃ v,(loadVar t ⟨b,bs+off,none⟩).run P w=.ok v w /\ Rv ρ r v:=by
 have plain:(match loadA P t cs off with
  | some r=>some (true,r)
  | none=>none)=some (true,r)->∃ v,(loadVar t ⟨b,bs+off,none⟩).run P w=.ok v w /\ Rv ρ r v:=by
  intro h
  split at h
  . rename_i r' hr;simp at h;subst h;exact loadA_run hr hb hl hx
  . cases h
 unfold loadE at h
 split at h
 . split at h
   . rename_i ws hws hu
     simp only [Option.some.injEq,Prod.mk.injEq,decide_eq_true_eq] at h
     obtain ⟨h1,rfl⟩:=h
     obtain ⟨h2,h3⟩:=wordsOf_get (ρ:=ρ) (xs:=xs.extract bs xs.size) hws (by simp;omega) (fun i a x ha hy=>by
      refine hx i a x ha ?_
      rw [Array.getElem?_extract] at hy
      split at hy
      . exact hy
      . cases hy)
     have h4:xs[bs+off]?=some (uval (ws.getD off 0#64)):=by
      have:=h3 off h1
      rw [Array.getElem?_extract] at this
      split at this
      . exact this
      . cases this
     refine ⟨uval (ws.getD off 0#64),?_,.u _⟩
     have hd:isRow (.int .u64)=false:=rfl
     simp only [loadVar,Sem.run_bind,run_isAgg hu,hd,Result.andThen_ok,Bool.false_eq_true,if_false]
     simp [World.cell?,hb,h4]
   . exact plain h
 . exact plain h
end Go.Rq
