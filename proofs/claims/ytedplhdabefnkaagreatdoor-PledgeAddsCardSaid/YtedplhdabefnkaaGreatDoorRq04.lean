import Derived.Test.YtedplhdabefnkaaGreatDoorRq03
import Derived.RangeFuncBox
import Derived.RangeFuncCalls
namespace Go.Rq
open Go
structure XS where
 s:St
 n:Nat
inductive Tree (α:Type) where
 | leaf (a:α)
 | br (b:Bool) (t f:Tree α)
 | need (b:Bool) (t:Tree α)
 | same (x y:XS) (t:Tree α)
 | fail
def Tree.holds {α:Type} (K:α->Prop):Tree α->Prop
 | .leaf a=>K a
 | .br b t f=>(b=true->t.holds K) /\ (b=false->f.holds K)
 | .need b t=>b=true /\ t.holds K
 | .same x y t=>x=y /\ t.holds K
 | .fail=>False
def Tree.bind {α β:Type} (g:α->Tree β):Tree α->Tree β
 | .leaf a=>g a
 | .br b t f=>.br b (t.bind g) (f.bind g)
 | .need b t=>.need b (t.bind g)
 | .same x y t=>.same x y (t.bind g)
 | .fail=>.fail
def Tree.strict {α:Type}:Tree α->Tree α
 | .leaf a=>.leaf a
 | .br b t f=>.br b t.strict f.strict
 | .need b t=>match b with
  | true=>t.strict
  | false=>.fail
 | .same x y t=>.same x y t.strict
 | .fail=>.fail
def memb (t:Nat):List Nat->Bool
 | []=>false
 | x :: l=>bif Nat.beq x t then true else memb t l
def Tree.but {α:Type} (l:List Nat):Nat->Tree α->Tree α
 | _,.leaf a=>.leaf a
 | i,.br b t f=>.br b (Tree.but l i t) (Tree.but l i f)
 | i,.need b t=>bif memb i l then .need b (Tree.but l (i+1) t) else match b with
  | true=>Tree.but l (i+1) t
  | false=>.fail
 | i,.same x y t=>.same x y (Tree.but l i t)
 | _,.fail=>.fail
theorem Tree.holds_mono {α:Type} {K L:α->Prop} (h:∀ a,K a->L a):∀ {t:Tree α},t.holds K->t.holds L
 | .leaf _,k=>h _ k
 | .br _ _ _,k=>⟨fun hb=>Tree.holds_mono h (k.1 hb),fun hb=>Tree.holds_mono h (k.2 hb)⟩
 | .need _ _,k=>⟨k.1,Tree.holds_mono h k.2⟩
 | .same _ _ _,k=>⟨k.1,Tree.holds_mono h k.2⟩
 | .fail,k=>k.elim
theorem Tree.holds_bind {α β:Type} {K:β->Prop} {g:α->Tree β}:∀ {t:Tree α},(t.bind g).holds K->t.holds (fun a=>(g a).holds K)
 | .leaf _,k=>k
 | .br _ _ _,k=>⟨fun hb=>Tree.holds_bind (k.1 hb),fun hb=>Tree.holds_bind (k.2 hb)⟩
 | .need _ _,k=>⟨k.1,Tree.holds_bind k.2⟩
 | .same _ _ _,k=>⟨k.1,Tree.holds_bind k.2⟩
 | .fail,k=>k.elim
theorem Tree.bind_holds {α β:Type} {K:β->Prop} {g:α->Tree β}:∀ {t:Tree α},t.holds (fun a=>(g a).holds K)->(t.bind g).holds K
 | .leaf _,k=>k
 | .br _ _ _,k=>⟨fun hb=>Tree.bind_holds (k.1 hb),fun hb=>Tree.bind_holds (k.2 hb)⟩
 | .need _ _,k=>⟨k.1,Tree.bind_holds k.2⟩
 | .same _ _ _,k=>⟨k.1,Tree.bind_holds k.2⟩
 | .fail,k=>k.elim
theorem Tree.holds_strict {α:Type} {K:α->Prop}:∀ {t:Tree α},t.strict.holds K->t.holds K
 | .leaf _,k=>k
 | .br _ _ _,k=>⟨fun hb=>Tree.holds_strict (k.1 hb),fun hb=>Tree.holds_strict (k.2 hb)⟩
 | .need b _,k=>by
  simp only [Tree.strict] at k
  cases b with
  | true=>exact ⟨rfl,Tree.holds_strict k⟩
  | false=>exact k.elim
 | .same _ _ _,k=>⟨k.1,Tree.holds_strict k.2⟩
 | .fail,k=>k.elim
theorem Tree.holds_but {α:Type} {K:α->Prop} {l:List Nat}:∀ {i:Nat} {t:Tree α},(Tree.but l i t).holds K->t.holds K
 | _,.leaf _,k=>k
 | i,.br _ _ _,k=>⟨fun hb=>Tree.holds_but (i:=i) (k.1 hb),fun hb=>Tree.holds_but (i:=i) (k.2 hb)⟩
 | i,.need b _,k=>by
  simp only [Tree.but] at k
  cases hm:memb i l with
  | true=>rw [hm] at k;exact ⟨k.1,Tree.holds_but (i:=i+1) k.2⟩
  | false =>
   rw [hm] at k
   cases b with
   | true=>exact ⟨rfl,Tree.holds_but (i:=i+1) k⟩
   | false=>exact k.elim
 | i,.same _ _ _,k=>⟨k.1,Tree.holds_but (i:=i) k.2⟩
 | _,.fail,k=>k.elim
def runT (P:Program) (E:Env) (sym:List Tmp) (base:Nat) (ops:Array Oper):List Nat->St->Tree St
 | [],s=>.need s.ok (.leaf ⟨s.tm,s.h,true⟩)
 | i :: t,s=>match eff P E (fun _=>none) base ops i s.tm s.h with
  | none=>.fail
  | some e=>match e.d,e.r with
   | some d,.v (.bool g)=>bif memb d sym then
    .br g (runT P E sym base ops t (s.put ⟨e.c,e.d,.lit true,e.ups⟩)) (runT P E sym base ops t (s.put ⟨e.c,e.d,.lit false,e.ups⟩))
    else runT P E sym base ops t (s.put e)
   | _,_=>runT P E sym base ops t (s.put e)
theorem eff_gamma {P:Program} {E:Env} {γ γ':Nat->Option Bool} {base:Nat} {ops:Array Oper} {i:Nat} {tm:List AV} {h:AH} (hg:γ i=γ' i):eff P E γ base ops i tm h=eff P E γ' base ops i tm h:=by
 unfold eff
 rw [hg]
theorem runL_gamma {P:Program} {E:Env} {γ γ':Nat->Option Bool} {base:Nat} {ops:Array Oper}:∀ {l:List Nat} {s:St},(∀ i ∈ l,γ i=γ' i)->runL P E γ base ops l s=runL P E γ' base ops l s
 | [],s,_=>rfl
 | i :: l,s,h=>by
  simp only [runL]
  rw [eff_gamma (h i (by simp))]
  split
  . rfl
  . exact runL_gamma fun j hj=>h j (by simp [hj])
theorem eff_assume {P:Program} {E:Env} {γ:Nat->Option Bool} {base:Nat} {ops:Array Oper} {i:Nat} {tm:List AV} {h:AH} {e:Eff} {g:Bool} (hg:γ i=some g) (hr:e.r=.v (.bool g))
 (he:eff P E (fun _=>none) base ops i tm h=some e):eff P E γ base ops i tm h=some ⟨e.c,e.d,.lit g,e.ups⟩:=by
 unfold eff at he ⊢
 split at he
 . cases he
 . split at he
   . cases he
   . simp at he;subst he;cases hr
   . split at he
     . cases he
     split at he
     . cases he
     . rename_i c r ups hop
       simp at he;subst he
       simp only at hr
       simp only [hg,hr]
       simp
theorem runT_sound {P:Program} {E:Env} {sym:List Tmp} {base:Nat} {ops:Array Oper} {K:St->Prop}:∀ {l:List Nat} {s:St},l.Nodup->(runT P E sym base ops l s).holds K ->
 ∃ γ s',runL P E γ base ops l s=some s' /\ s'.ok=true /\ K ⟨s'.tm,s'.h,true⟩
 | [],s,_,h=>⟨fun _=>none,s,rfl,h.1,h.2⟩
 | i :: l,s,hnd,h=>by
  simp only [runT] at h
  have hni:=(List.nodup_cons.1 hnd).1
  have plain:∀ e,eff P E (fun _=>none) base ops i s.tm s.h=some e->(runT P E sym base ops l (s.put e)).holds K ->
   ∃ γ s',runL P E γ base ops (i :: l) s=some s' /\ s'.ok=true /\ K ⟨s'.tm,s'.h,true⟩:=by
   intro e he hh
   obtain ⟨γ,s',h1,h2,h3⟩:=runT_sound (List.nodup_cons.1 hnd).2 hh
   refine ⟨fun j=>if j=i then none else γ j,s',?_,h2,h3⟩
   simp only [runL]
   rw [eff_gamma (γ':=fun _=>none) (by simp),he]
   simp only
   rw [<- h1]
   exact runL_gamma fun j hj=>if_neg (fun hh=>hni (by rw [<- hh];exact hj))
  split at h
  . exact h.elim
  . rename_i e he
    split at h
    . rename_i d g hd hr
      cases hm:memb d sym with
      | false=>rw [hm] at h;exact plain e he h
      | true =>
       rw [hm] at h
       simp only [cond_true] at h
       have main:(runT P E sym base ops l (s.put ⟨e.c,e.d,.lit g,e.ups⟩)).holds K:=by
        cases g with
        | true=>exact h.1 rfl
        | false=>exact h.2 rfl
       obtain ⟨γ,s',h1,h2,h3⟩:=runT_sound (List.nodup_cons.1 hnd).2 main
       refine ⟨fun j=>if j=i then some g else γ j,s',?_,h2,h3⟩
       simp only [runL]
       rw [eff_assume (g:=g) (by simp) hr he]
       simp only
       rw [<- h1]
       exact runL_gamma fun j hj=>if_neg (fun hh=>hni (by rw [<- hh];exact hj))
    . exact plain e he h
theorem list_sim {P:Program} {E:Env} (hE:EnvOk P E) {F:Fr} {ds:List Deferred} {γ:Nat->Option Bool} {base:Nat} {ops:Array Oper} {s':St} (hok:s'.ok=true) {Q:Exit->Act->World->Prop} :
 ∀ (l:List Nat) (s:St) (ρ:Ren) (a:Act) (w:World),l.Nodup->runL P E γ base ops l s=some s'->Sim F ds ρ s a w->(∀ j ∈ l,freeR ρ (base+E.kk*j) E.kk) ->
  (∀ a' w' ρ',ρ.le ρ'->(∀ id,(∀ j ∈ l,¬ inR (base+E.kk*j) E.kk id)->ρ' id=ρ id)->Sim F ds ρ' s' a' w'->Q .normal a' w')->wpOps P ops Q l a w:=by
 intro l
 induction l with
 | nil =>
  intro s ρ a w _ h hs _ hQ
  simp [runL] at h;subst h
  exact hQ a w ρ (Ren.le_refl _) (fun _ _=>rfl) hs
 | cons i l ih =>
  intro s ρ a w hnd h hs hr hQ
  simp only [runL] at h
  split at h
  . cases h
  . rename_i e he
    rw [wpOps_cons]
    have hok1:=runL_ok h hok
    have hec:e.c=true:=by simp [St.put] at hok1;exact hok1.1
    refine step_sim hE he hec hs (hr i (by simp)) ?_
    intro a' w' ρ' hle hne hs'
    refine ih (s.put e) ρ' a' w' (List.nodup_cons.1 hnd).2 h hs' (fun j hj id hin=>?_) ?_
    . rw [hne]
      . exact hr j (by simp [hj]) id hin
      . intro hh
        have:j=i:=inR_inj hin hh
        subst this
        exact (List.nodup_cons.1 hnd).1 hj
    . intro a2 w2 ρ2 hle2 hne2 hs2
      refine hQ a2 w2 ρ2 (Ren.le_trans hle hle2) (fun id hid=>?_) hs2
      rw [hne2 id (fun j hj=>hid j (by simp [hj])),hne id (hid i (by simp))]
inductive AExit where
 | normal
 | exit (id:Nat)
 | ret
def AExit.is:AExit->Exit->Prop
 | .normal,.normal=>True
 | .exit i,.exit j=>i=j
 | .ret,.ret=>True
 | _,_=>False
def Tri (P:Program) (F:Fr) (ds:List Deferred) (m:Nat) (c:Code) (x:XS) (K:AExit->XS->Prop):Prop :=
 ∀ ρ a w,Sim F ds ρ x.s a w->m <= x.n->(∀ id,x.n <= id->ρ id=none) ->
  c.wp P (fun e a' w'=>∃ e' y ρ',K e' y /\ e'.is e /\ Sim F ds ρ' y.s a' w' /\ m <= y.n /\ (∀ id,y.n <= id->ρ' id=none) /\ (∀ id,id < m->Ren.eqAt ρ' ρ id)) a w
def rangeL (k:Nat):Nat->List Nat->List Nat
 | 0,acc=>acc
 | n+1,acc=>rangeL k n (n :: acc)
theorem rangeL_eq (k:Nat):∀ (n:Nat) (acc:List Nat),rangeL k n acc=List.range n ++ acc
 | 0,acc=>by simp [rangeL]
 | n+1,acc=>by simp [rangeL,rangeL_eq k n,List.range_succ]
theorem todo_all (n:Nat):todo n (Array.replicate n false)=List.range n:=by
 unfold todo
 rw [List.filter_eq_self]
 intro i hi
 have:i < n:=by simpa using hi
 simp [Array.getD,this]
theorem region_sound {P:Program} {E:Env} (hE:EnvOk P E) (hm:P.follows .mixedOrders=true) {F:Fr} {ds:List Deferred} {m:Nat} {sym:List Tmp} {id:Nat} {ops:Array Oper} {draw:Bool} (hchk:draw=true->chk E ops=true) {x:XS}
 {K:AExit->XS->Prop} (h:(runT P E sym x.n ops (rangeL 0 ops.size []) x.s).holds (fun s=>K .normal ⟨s,x.n+E.kk*ops.size⟩)):Tri P F ds m (.region id ops draw) x K:=by
 rw [rangeL_eq,List.append_nil] at h
 obtain ⟨γ,s',h1,h2,h3⟩:=runT_sound List.nodup_range h
 intro ρ a w hs hmn hfr
 have fin:∀ a' w' ρ',ρ.le ρ'->(∀ id,(∀ j ∈ List.range ops.size,¬ inR (x.n+E.kk*j) E.kk id)->ρ' id=ρ id)->Sim F ds ρ' s' a' w' ->
  ∃ e' y ρ'',K e' y /\ e'.is .normal /\ Sim F ds ρ'' y.s a' w' /\ m <= y.n /\ (∀ id,y.n <= id->ρ'' id=none) /\ (∀ id,id < m->Ren.eqAt ρ'' ρ id):=by
  intro a' w' ρ' hle hne hs'
  refine ⟨.normal,_,ρ',h3,trivial,⟨hs'.tm,hs'.h,hs'.ds⟩,by simp;omega,fun id hid=>?_,fun id hid=>?_⟩
  . simp at hid
    rw [hne id (fun j hj hin=>by
     have h1:j < ops.size:=by simpa using hj
     have:=inR_top hin h1
     omega)]
    exact hfr id (by omega)
  . exact ⟨hne id (fun j hj hin=>by have:=inR_ge hin;omega),fun b hb=>(hle id b hb).2⟩
 cases draw with
 | false =>
  refine wp_region (list_sim hE h2 _ _ ρ a w List.nodup_range h1 hs (fun j _ id hin=>hfr id (inR_ge hin)) fin)
 | true =>
  refine wp_region_any hm ?_
  refine any_sim hE (hchk rfl) h2 ops.size _ x.s ρ a { w with drawn:=w.drawn+1 } (by simp) (by rw [todo_all];simp) ?_ s' (by rw [todo_all];exact h1) (Eqv.refl _) ⟨hs.tm,hs.h.drawn _,hs.ds⟩ (fun j _ id hin=>hfr id (inR_ge hin)) ?_
  . intro y o hy
    simp [Array.getD] at hy
  . rw [todo_all];exact fin
def AV.lt0 (n:Nat):AV->Bool
 | .any=>true
 | .v _=>true
 | .lit _=>true
 | .u _=>true
 | .bit _=>true
 | .ptr id _=>Nat.blt id n
 | .slc id _ _ _=>Nat.blt id n
 | .own id _ _ _=>Nat.blt id n
 | .mp id=>Nat.blt id n
 | .mk=>true
 | .fn _ [] []=>true
 | _=>false
def allLt0 (n:Nat):List AV->Bool
 | []=>true
 | a :: t=>a.lt0 n && allLt0 n t
def AV.lt (n:Nat):AV->Bool
 | .agg cs=>allLt0 n cs
 | .tup cs=>allLt0 n cs
 | .fn _ as bs=>allLt0 n as && allLt0 n bs
 | .ifc _ a=>a.lt0 n
 | a=>a.lt0 n
def trimTm (keep:List Tmp) (n:Nat):List AV->Nat->Option (List AV)
 | [],_=>some []
 | a :: t,i=>match trimTm keep n t (i+1) with
  | none=>none
  | some l=>bif memb i keep then (bif a.lt n then some (a :: l) else none) else some (.any :: l)
def allLt (n:Nat):List AV->Bool
 | []=>true
 | a :: t=>a.lt n && allLt n t
def trimH (n:Nat) (h:AH):List Nat->Option AH
 | []=>some []
 | i :: t=>match AH.get h i with
  | none=>none
  | some B=>match trimH n h t with
   | none=>none
   | some l=>bif allLt n B.cs then some ((i,some B) :: l) else none
def trim (keep:List Tmp) (ids:List Nat) (n:Nat) (x:XS):Option XS :=
 match trimTm keep n x.s.tm 0,trimH n x.s.h ids with
 | some tm,some h=>some ⟨⟨tm,h,true⟩,n⟩
 | _,_=>none
structure BEnt where
 keep:List Tmp
 ids:List Nat
 n:Nat
 pre:XS
 post:Tree (AExit × XS)
abbrev BTab:=Nat->Option BEnt
theorem Rv.lt0 {ρ:Ren} {n:Nat} {a:AV} {x:Value} (h:Rv ρ a x) (e:a.lt0 n=true):Rv (ρ.cut n) a x:=by
 cases h with
 | any x=>exact .any x
 | v x=>exact .v x
 | lit b=>exact .lit b
 | u x=>exact .u x
 | bit b=>exact .bit b
 | @ptr id off b hb =>
  have hlt:id < n:=Nat.le_of_ble_eq_true e
  exact .ptr (by rw [Ren.cut_lt hlt];exact hb)
 | @slc id off len cap b hb =>
  have hlt:id < n:=Nat.le_of_ble_eq_true e
  exact .slc (by rw [Ren.cut_lt hlt];exact hb)
 | @own id es k len b cap hb h0 hc hl hm =>
  have hlt:id < n:=Nat.le_of_ble_eq_true e
  exact .own (by rw [Ren.cut_lt hlt];exact hb) h0 hc hl hm
 | @ownE id es k b j cap hb hk =>
  have hlt:id < n:=Nat.le_of_ble_eq_true e
  exact .ownE (by rw [Ren.cut_lt hlt];exact hb) hk
 | agg _ _=>simp [AV.lt0] at e
 | tup _ _=>simp [AV.lt0] at e
 | @fn f as bs xs ys hl h kl k =>
  cases as with
  | cons=>simp [AV.lt0] at e
  | nil =>
   cases bs with
   | cons=>simp [AV.lt0] at e
   | nil=>exact .fn hl (fun i a x ha=>by simp at ha) kl (fun i a x ha=>by simp at ha)
 | ifc _=>simp [AV.lt0] at e
 | @mp id b hb =>
  have hlt:id < n:=Nat.le_of_ble_eq_true e
  exact .mp (by rw [Ren.cut_lt hlt];exact hb)
theorem Rvs.lt0 {ρ:Ren} {n:Nat}:∀ {as:List AV} {xs:List Value},Rvs ρ as xs->allLt0 n as=true->Rvs (ρ.cut n) as xs
 | [],xs,h,_=>by rw [h.unnil];exact .nil
 | a :: t,xs,h,e=>by
  obtain ⟨x,ys,rfl,hx,ht⟩:=h.uncons
  simp only [allLt0,Bool.and_eq_true] at e
  exact .cons (hx.lt0 e.1) (Rvs.lt0 ht e.2)
theorem Rv.lt {ρ:Ren} {n:Nat} {a:AV} {x:Value} (h:Rv ρ a x) (e:a.lt n=true):Rv (ρ.cut n) a x:=by
 cases a with
 | agg cs=>obtain ⟨xs,rfl,hx⟩:=h.agg_iff;simpa using Rv.agg_mk (Rvs.lt0 hx e)
 | tup cs=>obtain ⟨xs,rfl,hx⟩:=h.tup_iff;simpa using Rv.tup_mk (Rvs.lt0 hx e)
 | fn f as bs =>
  obtain ⟨xs,ys,rfl,hx,hy⟩:=h.fn_iff
  simp only [AV.lt,Bool.and_eq_true] at e
  simpa using Rv.fn_mk (f:=f) (Rvs.lt0 hx e.1) (Rvs.lt0 hy e.2)
 | ifc t a=>cases h with | ifc h=>exact .ifc (h.lt0 e)
 | _=>exact h.lt0 e
theorem allLt_spec {n:Nat}:∀ {l:List AV},allLt n l=true->∀ a ∈ l,a.lt n=true
 | [],_,a,h=>by simp at h
 | b :: t,e,a,h=>by
  simp only [allLt,Bool.and_eq_true] at e
  rcases List.mem_cons.1 h with rfl | h
  . exact e.1
  . exact allLt_spec e.2 a h
theorem trimTm_spec {ρ:Ren} {keep:List Tmp} {n:Nat}:∀ {as:List AV} {xs:List Value} {i:Nat} {l:List AV},Rvs ρ as xs->trimTm keep n as i=some l->Rvs (ρ.cut n) l xs
 | [],xs,i,l,h,e=>by simp [trimTm] at e;subst e;rw [h.unnil];exact .nil
 | a :: t,xs,i,l,h,e=>by
  obtain ⟨x,ys,rfl,hx,ht⟩:=h.uncons
  simp only [trimTm] at e
  split at e
  . cases e
  . rename_i m hm
    have:=trimTm_spec ht hm
    cases hk:memb i keep with
    | false=>rw [hk] at e;simp at e;subst e;exact .cons (.any _) this
    | true =>
     rw [hk] at e
     cases hl:a.lt n with
     | false=>rw [hl] at e;simp at e
     | true=>rw [hl] at e;simp at e;subst e;exact .cons (hx.lt hl) this
theorem trimH_get {n:Nat} {h:AH}:∀ {ids:List Nat} {l:AH},trimH n h ids=some l->∀ id B,l.get id=some B->h.get id=some B /\ allLt n B.cs=true
 | [],l,e,id,B,g=>by simp [trimH] at e;subst e;simp [AH.get] at g
 | i :: t,l,e,id,B,g=>by
  simp only [trimH] at e
  split at e
  . cases e
  . rename_i C hC
    split at e
    . cases e
    . rename_i m hm
      cases hl:allLt n C.cs with
      | false=>rw [hl] at e;simp at e
      | true =>
       rw [hl] at e;simp at e;subst e
       rw [AH.get_cons] at g
       split at g
       . rename_i hi;subst hi;simp at g;subst g;exact ⟨hC,hl⟩
       . exact trimH_get hm id B g
theorem trim_sim {F:Fr} {ds:List Deferred} {ρ:Ren} {keep:List Tmp} {ids:List Nat} {n m:Nat} {x y:XS} {a:Act} {w:World} (hs:Sim F ds ρ x.s a w) (ht:trim keep ids n x=some y) (hid:∀ i ∈ ids,i < n) (hmn:m <= n) :
 ∃ ρ',Sim F ds ρ' y.s a w /\ m <= y.n /\ (∀ id,y.n <= id->ρ' id=none) /\ (∀ id,id < m->Ren.eqAt ρ' ρ id):=by
 unfold trim at ht
 split at ht
 . rename_i tm h htm hh
   simp at ht;subst ht
   refine ⟨ρ.cut n,⟨trimTm_spec hs.tm htm,?_,hs.ds⟩,hmn,fun id hge=>Ren.cut_ge hge,fun id hlt=>⟨Ren.cut_lt (by omega),fun _ _=>⟨rfl,rfl⟩⟩⟩
   have key:∀ id B,h.get id=some B->id ∈ ids:=by
    intro id B hB
    clear htm
    revert h
    induction ids with
    | nil=>intro h hh hB;simp [trimH] at hh;subst hh;simp [AH.get] at hB
    | cons i t ih =>
     intro h hh hB
     simp only [trimH] at hh
     split at hh
     . cases hh
     . split at hh
       . cases hh
       . rename_i C _ _ l hl
         cases hlt:allLt n C.cs with
         | false=>rw [hlt] at hh;simp at hh
         | true =>
          rw [hlt] at hh;simp at hh;subst hh
          rw [AH.get_cons] at hB
          split at hB
          . rename_i hi;subst hi;simp
          . exact List.mem_cons_of_mem _ (ih (fun j hj=>hid j (by simp [hj])) l hl hB)
   refine ⟨fun id B hB=>?_,fun id id' B B' b hB hB' hw hb hb'=>?_,hs.h.fr,hs.h.os,hs.h.tape,hs.h.out,hs.h.gc⟩
   . obtain ⟨hg,hl⟩:=trimH_get hh id B hB
     obtain ⟨b,o,h1,h2,h3,h6⟩:=hs.h.blk id B hg
     have hlt:=hid id (key id B hB)
     exact ⟨b,_,by rw [Ren.cut_lt hlt];exact h1,h2,h3.keep rfl (fun hh=>hh) rfl rfl (fun a' ha x' hx=>hx.lt (allLt_spec hl a' ha)),h6⟩
   . have h1:=(trimH_get hh id B hB).1
     have h2:=(trimH_get hh id' B' hB').1
     rw [Ren.cut_lt (hid id (key id B hB))] at hb
     rw [Ren.cut_lt (hid id' (key id' B' hB'))] at hb'
     exact hs.h.inj id id' B B' b h1 h2 hw hb hb'
 . cases ht
def allBlt (n:Nat):List Nat->Bool
 | []=>true
 | i :: t=>Nat.blt i n && allBlt n t
theorem allBlt_spec {n:Nat}:∀ {l:List Nat},allBlt n l=true->∀ i ∈ l,i < n
 | [],_,i,h=>by simp at h
 | j :: t,e,i,h=>by
  simp only [allBlt,Bool.and_eq_true] at e
  rcases List.mem_cons.1 h with rfl | h
  . exact Nat.le_of_ble_eq_true e.1
  . exact allBlt_spec e.2 i h
def iter (f:XS->Tree (AExit × XS)):Nat->XS->Tree (AExit × XS)
 | 0,_=>.fail
 | k+1,x=>(f x).bind fun (e,y)=>match e with
  | .normal=>iter f k y
  | e=>.leaf (e,y)
def boolOf:AV->Option Bool
 | .lit b=>some b
 | .v (.bool b)=>some b
 | _=>none
def condA (E:Env) (sym:List Tmp) (c:Operand) (a b:Code) (x:XS):Option (AV × AV × Nat) :=
 match c with
 | .tmp ct=>match inL ct E.mrg && x.s.ok with
  | false=>none
  | true=>match a,b with
   | .region _ ops false,.skip=>match ops.toList with
    | [o]=>match o.op,o.dst,o.guard with
     | .assign y,some d,none=>match memb d sym with
      | true=>none
      | false=>match look x.s.tm c with
       | .v (.bool g)=>match choose2 g (look x.s.tm y) (x.s.tm.getD d .any) with
        | some r=>some (look x.s.tm y,r,d)
        | none=>none
       | _=>none
     | _,_,_=>none
    | _=>none
   | _,_=>none
 | _=>none
theorem condA_spec {E:Env} {sym:List Tmp} {c:Operand} {a b:Code} {x:XS} {u r:AV} {d:Nat} (h:condA E sym c a b x=some (u,r,d)) :
 ∃ id ops o y g,a=.region id ops false /\ b=.skip /\ ops.toList=[o] /\ o.op=.assign y /\ o.dst=some d /\ o.guard=none /\ memb d sym=false /\ look x.s.tm c=.v (.bool g) /\ u=look x.s.tm y /\
  choose2 g u (x.s.tm.getD d .any)=some r /\ x.s.ok=true:=by
 unfold condA at h
 split at h
 . split at h
   . cases h
   . rename_i hok
     simp only [Bool.and_eq_true] at hok
     split at h
     . rename_i id ops
       split at h
       . rename_i o ho
         split at h
         . rename_i y d' hop hd hg
           split at h
           . cases h
           . rename_i hm
             split at h
             . rename_i g hc
               split at h
               . rename_i r' hr
                 simp at h
                 obtain ⟨rfl,rfl,rfl⟩:=h
                 exact ⟨id,ops,o,y,g,rfl,rfl,ho,hop,hd,hg,hm,hc,rfl,hr,hok.2⟩
               . cases h
             . cases h
         . cases h
       . cases h
     . cases h
 . cases h
theorem tauOk_assign (E:Env) (i:Nat) (y:Operand) (ev:Operand->AV):tauOk E i (.assign y) ev=true:=by
 unfold tauOk
 split <;> rfl
theorem upsOk_assign (E:Env) (y:Operand) (u:AH):upsOk E (.assign y) u=true:=by
 unfold upsOk
 split <;> rfl
def writer (p:Tmp):List Oper->Nat->Option (Nat × Op)
 | [],_=>none
 | o :: t,i=>match o.dst with
  | some d=>bif Nat.beq d p then some (i,o.op) else writer p t (i+1)
  | none=>writer p t (i+1)
def blkOf:AV->Option Nat
 | .ptr id _=>some id
 | .slc id _ _ _=>some id
 | .own id _ _ _=>some id
 | _=>none
def orgA (kk:Nat) (ops:List Oper) (base:Nat) (lk:Operand->AV):Nat->Operand->Option Nat
 | 0,_=>none
 | k+1,x=>match x with
  | .tmp p=>match writer p ops 0 with
   | none=>blkOf (lk x)
   | some (i,op)=>match op with
    | .alloc _=>some (base+kk*i)
    | .box _ _=>some (base+kk*i)
    | .fieldAddr _ y _=>orgA kk ops base lk k y
    | .indexAddr _ y _=>orgA kk ops base lk k y
    | .slice _ y _ _ _=>orgA kk ops base lk k y
    | .sliceToArrayPointer _ y=>orgA kk ops base lk k y
    | .move y=>orgA kk ops base lk k y
    | .assign y=>orgA kk ops base lk k y
    | .nilCheck y=>orgA kk ops base lk k y
    | _=>none
  | _=>none
def evR (P:Program) (E:Env) (ops:List Oper) (base:Nat) (lk:Operand->AV) (h:AH):Nat->Operand->AV
 | 0,x=>lk x
 | k+1,x=>match x with
  | .tmp p=>match writer p ops 0 with
   | none=>lk x
   | some (i,op)=>match op with
    | .move y=>evR P E ops base lk h k y
    | .assign y=>evR P E ops base lk h k y
    | .nilCheck y=>evR P E ops base lk h k y
    | .fieldAddr t y j=>match effOp P E (evR P E ops base lk h k) h (base+E.kk*i) (.fieldAddr t y j) with
     | some (_,r,_)=>r
     | none=>lk x
    | .load t y=>match effOp P E (evR P E ops base lk h k) h (base+E.kk*i) (.load t y) with
     | some (_,r,_)=>r
     | none=>lk x
    | _=>lk x
  | _=>lk x
def orgO (id:Nat):AV->Option Nat
 | .own i _ _ _=>some i
 | .v (.slice none _ _)=>some id
 | _=>none
def firstO (f:Operand->Option Nat):List Operand->Option Nat
 | []=>none
 | x :: t=>match f x with
  | some i=>some i
  | none=>firstO f t
def lkO (lk:Operand->AV):List (Tmp × AV)->Operand->AV
 | [],x=>lk x
 | (d,v) :: t,x=>match x with
  | .tmp p=>bif Nat.beq d p then v else lkO lk t x
  | _=>lkO lk t x
def putO (d:Option Tmp) (r:AV) (ov:List (Tmp × AV)):List (Tmp × AV):=match d with
 | some d=>(d,r) :: ov
 | none=>ov
def ovT (P:Program) (E:Env) (base:Nat) (lk:Operand->AV):List Oper->Nat->List (Tmp × AV)->AH->List (Tmp × AV)
 | [],_,ov,_=>ov
 | o :: t,i,ov,h=>match effOp P E (lkO lk ov) h (base+E.kk*i) o.op with
  | some (_,r,ups)=>ovT P E base lk t (i+1) (putO o.dst r ov) (ups ++ h)
  | none=>ovT P E base lk t (i+1) ov h
def slOf:AV->Option Nat
 | .slc i _ _ _=>some i
 | .own i _ _ _=>some i
 | _=>none
def mvO (kk:Nat) (ops:List Oper) (base:Nat) (lk:Operand->AV) (x:Operand):Option Nat:=match x with
 | .tmp p=>match writer p ops 0 with
  | none=>slOf (lk x)
  | some (i,op)=>match op with
   | .buildSlice _ _ _=>some (base+kk*i)
   | _=>none
 | _=>none
def fullB (ops:List Oper) (x:Operand):Bool:=match x with
 | .tmp p=>match writer p ops 0 with
  | some (_,.convert s d (.tmp q))=>match writer q ops 0 with
   | some (_,.buildSlice _ _ _)=>Nat.beq s d
   | _=>false
  | _=>false
 | _=>false
def tauOf (P:Program) (E:Env) (ops:List Oper) (base:Nat) (lk:Operand->AV) (h:AH):List Oper->Nat->List (Option Nat)
 | [],_=>[]
 | o :: t,i=>(match o.op with
  | .load _ a=>orgA E.kk (ops.take i) base lk 8 a
  | .store _ a _=>orgA E.kk (ops.take i) base lk 8 a
  | op=>match appArg op with
   | some s=>bif fullB (ops.take i) s then some (base+E.kk*i) else orgO (base+E.kk*i) (evR P E (ops.take i) base lk h 8 s)
   | none=>match strArg E op with
    | some a=>slOf (lkO lk (ovT P E base lk (ops.take i) 0 [] h) a)
    | none=>match rdArgs E op with
     | some as=>firstO (orgA E.kk (ops.take i) base lk 8) as
     | none=>match mvArg E op with
      | some a=>mvO E.kk (ops.take i) base lk a
      | none=>none) :: tauOf P E ops base lk h t (i+1)
def Env.withTau (E:Env) (l:List (Option Nat)):Env:=⟨E.pure,E.heap,E.cellEq,E.wide,E.late,E.strT,E.mrg,E.lay,some l,E.act,E.fresh,E.ro,E.kk⟩
theorem withTau_ok {P:Program} {E:Env} (h:EnvOk P E) (l:List (Option Nat)):EnvOk P (E.withTau l):=⟨h.eq,h.pure,h.heap,h.lay,h.act,h.kk⟩
def exec (P:Program) (E:Env) (sym:List Tmp) (tab:BTab) (lf:Nat):Code->XS->Tree (AExit × XS)
 | .skip,x=>.leaf (.normal,x)
 | .label _,x=>.leaf (.normal,x)
 | .ret,x=>.leaf (.ret,x)
 | .exit id,x=>.leaf (.exit id,x)
 | .region _ ops d,x=>bif E.late && (d && !chk E ops) then
  (bif chk (E.withTau (tauOf P E ops.toList x.n (look x.s.tm) x.s.h ops.toList 0)) ops then
   (runT P (E.withTau (tauOf P E ops.toList x.n (look x.s.tm) x.s.h ops.toList 0)) sym x.n ops (rangeL 0 ops.size []) x.s).bind fun s=>.leaf (.normal,⟨s,x.n+E.kk*ops.size⟩)
  else .fail)
  else (runT P E sym x.n ops (rangeL 0 ops.size []) x.s).bind fun s=>.leaf (.normal,⟨s,x.n+E.kk*ops.size⟩)
 | .seq a b,x=>(exec P E sym tab lf a x).bind fun (e,y)=>match e with
  | .normal=>exec P E sym tab lf b y
  | e=>.leaf (e,y)
 | .cond c a b,x=>match condA E sym c a b x with
  | some (_,r,d)=>.leaf (.normal,⟨⟨x.s.tm.set d r,x.s.h,true⟩,x.n+E.kk⟩)
  | none=>match boolOf (look x.s.tm c) with
   | some true=>exec P E sym tab lf a x
   | some false=>exec P E sym tab lf b x
   | none=>.fail
 | .block id c,x=>match tab id with
  | some b=>match trim b.keep b.ids b.n x with
   | some y=>.same y b.pre (.need (allBlt b.n b.ids) b.post)
   | none=>.fail
  | none=>(exec P E sym tab lf c x).bind fun (e,y)=>match e with
   | .exit i=>bif Nat.beq i id then .leaf (.normal,y) else .leaf (e,y)
   | e=>.leaf (e,y)
 | .loop c,x=>iter (exec P E sym tab lf c) lf x
 | _,_=>.fail
def TabOk (P:Program) (m:Nat) (tab:BTab):Code->Prop
 | .block id c=>match tab id with
  | some b=>m <= b.n /\ ∀ F ds K,b.post.holds (fun r=>K r.1 r.2)->Tri P F ds m (.block id c) b.pre K
  | none=>TabOk P m tab c
 | .seq a b=>TabOk P m tab a /\ TabOk P m tab b
 | .cond _ a b=>TabOk P m tab a /\ TabOk P m tab b
 | .loop c=>TabOk P m tab c
 | _=>True
def codeOk (E:Env):Code->Bool
 | .region _ ops d=>E.late || (!d || chk E ops)
 | .seq a b=>codeOk E a && codeOk E b
 | .cond _ a b=>codeOk E a && codeOk E b
 | .block _ c=>codeOk E c
 | .loop c=>codeOk E c
 | _=>true
theorem Tri.mono {P:Program} {F:Fr} {ds:List Deferred} {m:Nat} {c:Code} {x:XS} {K L:AExit->XS->Prop} (h:∀ e y,K e y->L e y) (t:Tri P F ds m c x K):Tri P F ds m c x L :=
 fun ρ a w hs hm hf=>wp_mono (t ρ a w hs hm hf) fun _ _ _ ⟨e',y,ρ',hk,r⟩=>⟨e',y,ρ',h _ _ hk,r⟩
theorem Tri.seq {P:Program} {F:Fr} {ds:List Deferred} {m:Nat} {a b:Code} {x:XS} {K L:AExit->XS->Prop} (h:Tri P F ds m a x K)
 (hb:∀ y,K .normal y->Tri P F ds m b y L) (ho:∀ e y,e ≠ .normal->K e y->L e y):Tri P F ds m (.seq a b) x L:=by
 intro ρ ac w hs hm hf
 refine wp_seq (wp_mono (h ρ ac w hs hm hf) ?_)
 rintro e a' w' ⟨e',y,ρ',hk,he,hs',hm',hf',hp⟩
 cases e' with
 | normal =>
  cases e <;> simp only [AExit.is] at he
  refine wp_mono (hb y hk ρ' a' w' hs' hm' hf') ?_
  rintro e2 a2 w2 ⟨e2',z,ρ2,hk2,he2,hs2,hm2,hf2,hp2⟩
  exact ⟨e2',z,ρ2,hk2,he2,hs2,hm2,hf2,fun id hid=>(hp2 id hid).trans (hp id hid)⟩
 | exit i =>
  cases e <;> simp only [AExit.is] at he
  exact ⟨.exit i,y,ρ',ho _ _ (by simp) hk,he,hs',hm',hf',hp⟩
 | ret =>
  cases e <;> simp only [AExit.is] at he
  exact ⟨.ret,y,ρ',ho _ _ (by simp) hk,trivial,hs',hm',hf',hp⟩
theorem Tri.block {P:Program} {F:Fr} {ds:List Deferred} {m id:Nat} {c:Code} {x:XS} {L:AExit->XS->Prop}
 (h:Tri P F ds m c x (fun e y=>match e with
  | .exit i=>if i=id then L .normal y else L (.exit i) y
  | e=>L e y)):Tri P F ds m (.block id c) x L:=by
 intro ρ ac w hs hm hf
 refine wp_block (wp_mono (h ρ ac w hs hm hf) ?_)
 rintro e a' w' ⟨e',y,ρ',hk,he,hs',hm',hf',hp⟩
 cases e' with
 | normal =>
  cases e <;> simp only [AExit.is] at he
  exact ⟨.normal,y,ρ',hk,trivial,hs',hm',hf',hp⟩
 | exit i =>
  cases e <;> simp only [AExit.is] at he
  subst he
  simp only at hk
  simp only [Exit.inBlock]
  split at hk
  . rename_i hid
    rw [if_pos hid]
    exact ⟨.normal,y,ρ',hk,trivial,hs',hm',hf',hp⟩
  . rename_i hid
    rw [if_neg hid]
    exact ⟨.exit i,y,ρ',hk,rfl,hs',hm',hf',hp⟩
 | ret =>
  cases e <;> simp only [AExit.is] at he
  exact ⟨.ret,y,ρ',hk,trivial,hs',hm',hf',hp⟩
theorem Tri.loop {P:Program} {F:Fr} {ds:List Deferred} {m:Nat} {c:Code} {x:XS} {L:AExit->XS->Prop} {α:Type} (I:α->XS) (R:α->Prop) (μ:α->Nat) (i0:α) (h0:I i0=x) (hR:R i0)
 (round:∀ i,R i->Tri P F ds m c (I i) (fun e y=>match e with
  | .normal=>∃ j,R j /\ μ j < μ i /\ y=I j
  | e=>L e y)):Tri P F ds m (.loop c) x L:=by
 intro ρ0 a0 w0 hs0 hm0 hf0
 subst h0
 let J:Act->World->Nat->Prop:=fun a w k=>∃ i ρ,R i /\ μ i=k /\ Sim F ds ρ (I i).s a w /\ m <= (I i).n /\ (∀ id,(I i).n <= id->ρ id=none) /\ (∀ id,id < m->Ren.eqAt ρ ρ0 id)
 have hex:∀ a w,(∃ k,J a w k)->∃ k,J a w k /\ ∀ k',J a w k'->k <= k':=by
  intro a w ⟨k,hk⟩
  induction k using Nat.strongRecOn with
  | _ k ih =>
   by_cases hh:∃ k',k' < k /\ J a w k'
   . obtain ⟨k',hlt,hk'⟩:=hh;exact ih k' hlt hk'
   . exact ⟨k,hk,fun k' hk'=>Nat.le_of_not_lt fun hlt=>hh ⟨k',hlt,hk'⟩⟩
 refine wp_loop (fun a w=>∃ k,J a w k) (fun a w=>(Classical.epsilon fun k=>J a w k /\ ∀ k',J a w k'->k <= k')) ⟨μ i0,i0,ρ0,hR,rfl,hs0,hm0,hf0,fun _ _=>Ren.eqAt.refl _ _⟩ ?_
 intro a w hJ
 have hmin:=Classical.epsilon_spec (hex a w hJ)
 obtain ⟨⟨i,ρ,hRi,hμ,hs,hm,hf,hp⟩,hle⟩:=hmin
 refine wp_mono (round i hRi ρ a w hs hm hf) ?_
 rintro e a' w' ⟨e',y,ρ',hk,he,hs',hm',hf',hp'⟩
 cases e' with
 | normal =>
  cases e <;> simp only [AExit.is] at he
  obtain ⟨j,hRj,hlt,rfl⟩:=hk
  have hJ':J a' w' (μ j):=⟨j,ρ',hRj,rfl,hs',hm',hf',fun id hid=>(hp' id hid).trans (hp id hid)⟩
  refine ⟨⟨_,hJ'⟩,?_⟩
  have hmin':=Classical.epsilon_spec (hex a' w' ⟨_,hJ'⟩)
  have:=hmin'.2 _ hJ'
  omega
 | exit i =>
  cases e <;> simp only [AExit.is] at he
  exact ⟨.exit i,y,ρ',hk,he,hs',hm',hf',fun id hid=>(hp' id hid).trans (hp id hid)⟩
 | ret =>
  cases e <;> simp only [AExit.is] at he
  exact ⟨.ret,y,ρ',hk,trivial,hs',hm',hf',fun id hid=>(hp' id hid).trans (hp id hid)⟩
theorem Tri.leaf {P:Program} {F:Fr} {ds:List Deferred} {m:Nat} {c:Code} {x:XS} {K:AExit->XS->Prop} {e:Exit} {e':AExit} (he:e'.is e) (hk:K e' x)
 (hw:∀ (Q:Exit->Act->World->Prop) a w,Q e a w->c.wp P Q a w):Tri P F ds m c x K :=
 fun ρ a w hs hm hf=>hw _ a w ⟨e',x,ρ,hk,he,hs,hm,hf,fun _ _=>Ren.eqAt.refl _ _⟩
theorem boolOf_ok {ρ:Ren} {a:AV} {x:Value} {b:Bool} (h:Rv ρ a x) (e:boolOf a=some b):x=.bool b:=by
 unfold boolOf at e
 split at e
 . simp at e;subst e;cases h;rfl
 . simp at e;subst e;cases h;rfl
 . cases e
theorem exec_sound {P:Program} {E:Env} (hE:EnvOk P E) (hm:P.follows .mixedOrders=true) {F:Fr} {ds:List Deferred} {m:Nat} {sym:List Tmp} {tab:BTab} {lf:Nat} :
 ∀ (c:Code) (x:XS) (K:AExit->XS->Prop),codeOk E c=true->TabOk P m tab c->(exec P E sym tab lf c x).holds (fun r=>K r.1 r.2)->Tri P F ds m c x K:=by
 intro c
 induction c with
 | skip=>intro x K _ _ h;exact Tri.leaf (e:=.normal) (e':=.normal) trivial h fun Q a w hq=>wp_skip hq
 | label l=>intro x K _ _ h;exact Tri.leaf (e:=.normal) (e':=.normal) trivial h fun Q a w hq=>wp_label hq
 | ret=>intro x K _ _ h;exact Tri.leaf (e:=.ret) (e':=.ret) trivial h fun Q a w hq=>wp_ret hq
 | exit id=>intro x K _ _ h;exact Tri.leaf (e:=.exit id) (e':=.exit id) rfl h fun Q a w hq=>wp_exit hq
 | region id ops d =>
  intro x K hk _ h
  simp only [exec] at h
  cases hl:(E.late && (d && !chk E ops)) with
  | true =>
   rw [hl,cond_true] at h
   cases hc:chk (E.withTau (tauOf P E ops.toList x.n (look x.s.tm) x.s.h ops.toList 0)) ops with
   | false=>rw [hc] at h;exact h.elim
   | true =>
    rw [hc,cond_true] at h
    exact region_sound (withTau_ok hE _) hm (fun _=>hc) (Tree.holds_bind h)
  | false =>
   rw [hl,cond_false] at h
   refine region_sound hE hm ?_ (Tree.holds_bind h)
   intro hd;subst hd
   cases hc:chk E ops with
   | true=>rfl
   | false =>
    simp [codeOk,hc] at hk hl
    rw [hk] at hl;cases hl
 | seq a b iha ihb =>
  intro x K hk ht h
  simp only [exec] at h
  simp only [codeOk,Bool.and_eq_true] at hk
  refine Tri.seq (K:=fun e y=>match e with
   | .normal=>(exec P E sym tab lf b y).holds (fun r=>K r.1 r.2)
   | e=>K e y) (iha x _ hk.1 ht.1 ?_) (fun y hy=>ihb y K hk.2 ht.2 hy) (fun e y hne hy=>by cases e <;> first | exact absurd rfl hne | exact hy)
  refine Tree.holds_mono ?_ (Tree.holds_bind h)
  rintro ⟨e,y⟩ hy
  cases e <;> exact hy
 | cond c a b iha ihb =>
  intro x K hk ht h
  simp only [exec] at h
  simp only [codeOk,Bool.and_eq_true] at hk
  intro ρ ac w hs hmn hf
  split at h
  . rename_i u r d hq
    obtain ⟨id,ops,o,y,g,rfl,rfl,ho,hop,hd,hg,hm',hc,rfl,hr,hok⟩:=condA_spec hq
    have hcv:=look_ok hs.tm c
    rw [hc] at hcv
    have hcv:ac.eval c=.bool g:=by generalize ac.eval c=v at hcv;cases hcv;rfl
    have hsz:ops.size=1:=by rw [<- Array.length_toList,ho];rfl
    have weak:∀ {ρ':Ren} {a':Act} {w':World} {t0:List AV},Sim F ds ρ' ⟨t0,x.s.h,true⟩ a' w'->(∀ (i:Nat) (q:AV) (v:Value),(x.s.tm.set d r)[i]?=some q->a'.tmps.toList[i]?=some v->Rv ρ' q v)->(x.s.tm.set d r).length=t0.length->Sim F ds ρ' ⟨x.s.tm.set d r,x.s.h,true⟩ a' w' :=
     fun hs1 hrel hlen=>⟨⟨hlen.trans hs1.tm.1,hrel⟩,hs1.h,hs1.ds⟩
    cases g with
    | true =>
     refine wp_cond_true hcv ?_
     have hrun:(exec P E sym tab lf (.region id ops false) x).holds (fun q:AExit × XS=>q.1=.normal /\ q.2=⟨⟨x.s.tm.set d (look x.s.tm y),x.s.h,true⟩,x.n+E.kk⟩):=by
      have heff:eff P E (fun _=>none) x.n ops 0 x.s.tm x.s.h=some ⟨true,some d,look x.s.tm y,[]⟩:=by
       unfold eff wantedA effT
       simp only [ho,List.getElem?_cons_zero,hg,hop,effOp,opPure,hd,tauOk_assign,upsOk_assign]
      have hp:x.s.put ⟨true,some d,look x.s.tm y,[]⟩=⟨x.s.tm.set d (look x.s.tm y),x.s.h,true⟩:=by
       simp [St.put,putA,hok]
      have hrt:runT P E sym x.n ops (rangeL 0 ops.size []) x.s=.need true (.leaf ⟨x.s.tm.set d (look x.s.tm y),x.s.h,true⟩):=by
       rw [hsz]
       show runT P E sym x.n ops [0] x.s=_
       simp only [runT,heff]
       split
       . rename_i d' g' hd' hg'
         simp at hd';subst hd'
         rw [hm',cond_false,hp]
       . rw [hp]
      simp only [exec,Bool.false_and,Bool.and_false,cond_false,hrt]
      exact ⟨rfl,rfl,by rw [hsz,Nat.mul_one]⟩
     refine wp_mono (iha x (fun e z=>e=.normal /\ z=⟨⟨x.s.tm.set d (look x.s.tm y),x.s.h,true⟩,x.n+E.kk⟩) hk.1 ht.1 hrun ρ ac w hs hmn hf) ?_
     rintro e a' w' ⟨e',z,ρ',⟨rfl,rfl⟩,he,hs',hm2,hf2,hp2⟩
     refine ⟨.normal,_,ρ',h,he,weak hs' (fun i q v hi hv=>?_) (by simp),hm2,hf2,hp2⟩
     rw [List.getElem?_set] at hi
     by_cases hdi:d=i
     . subst hdi
       rw [if_pos rfl] at hi
       split at hi
       . rename_i hlt
         simp at hi;subst hi
         exact choose2_t (hs'.tm.2 d (look x.s.tm y) v (by simp [hlt]) hv) hr
       . cases hi
     . rw [if_neg hdi] at hi
       exact hs'.tm.2 i q v (by rw [List.getElem?_set,if_neg hdi];exact hi) hv
    | false =>
     refine wp_cond_false hcv ?_
     refine wp_skip ?_
     refine ⟨.normal,_,ρ,h,trivial,weak (t0:=x.s.tm) ⟨hs.tm,hs.h,hs.ds⟩ (fun i q v hi hv=>?_) (by simp),by simp;omega,fun id hid=>hf id (by simp at hid;omega),fun _ _=>Ren.eqAt.refl _ _⟩
     rw [List.getElem?_set] at hi
     by_cases hdi:d=i
     . subst hdi
       rw [if_pos rfl] at hi
       split at hi
       . rename_i hlt
         simp at hi;subst hi
         have e1:x.s.tm.getD d .any=x.s.tm[d]:=by simp [List.getD,hlt]
         rw [e1] at hr
         exact choose2_f (hs.tm.2 d x.s.tm[d] v (by simp [hlt]) hv) hr
       . cases hi
     . rw [if_neg hdi] at hi
       exact hs.tm.2 i q v hi hv
  split at h
  . rename_i hb
    exact wp_cond_true (boolOf_ok (look_ok hs.tm c) hb) (iha x K hk.1 ht.1 h ρ ac w hs hmn hf)
  . rename_i hb
    exact wp_cond_false (boolOf_ok (look_ok hs.tm c) hb) (ihb x K hk.2 ht.2 h ρ ac w hs hmn hf)
  . exact h.elim
 | block id c ih =>
  intro x K hk ht h
  simp only [exec] at h
  simp only [codeOk] at hk
  simp only [TabOk] at ht
  split at h
  . rename_i b hg
    rw [hg] at ht
    split at h
    . rename_i y hy
      obtain ⟨rfl,hn,hpost⟩:=h
      have hids:=allBlt_spec hn
      intro ρ ac w hs hmn hf
      obtain ⟨ρ1,hs1,hm1,hf1,hp1⟩:=trim_sim (m:=m) hs hy hids ht.1
      refine wp_mono (ht.2 F ds K hpost ρ1 ac w hs1 hm1 hf1) ?_
      rintro e a' w' ⟨e',z,ρ2,hk2,he2,hs2,hm2,hf2,hp2⟩
      exact ⟨e',z,ρ2,hk2,he2,hs2,hm2,hf2,fun id hlt=>(hp2 id hlt).trans (hp1 id hlt)⟩
    . exact h.elim
  . rename_i hg
    rw [hg] at ht
    refine Tri.block (ih x _ hk ht ?_)
    refine Tree.holds_mono ?_ (Tree.holds_bind h)
    rintro ⟨e,y⟩ hy
    cases e with
    | normal=>exact hy
    | exit i =>
     simp only at hy ⊢
     cases hb:Nat.beq i id with
     | true =>
      rw [hb] at hy
      rw [if_pos (Nat.eq_of_beq_eq_true hb)]
      exact hy
     | false =>
      rw [hb] at hy
      rw [if_neg (Nat.ne_of_beq_eq_false hb)]
      exact hy
    | ret=>exact hy
 | loop c ih =>
  intro x K hk ht h
  simp only [exec] at h
  simp only [codeOk] at hk
  refine Tri.loop (α:=Nat × XS) (fun p=>p.2) (fun p=>(iter (exec P E sym tab lf c) p.1 p.2).holds (fun r=>K r.1 r.2)) (fun p=>p.1) (lf,x) rfl h ?_
  rintro ⟨k,y⟩ hR
  cases k with
  | zero=>exact hR.elim
  | succ k =>
   simp only [iter] at hR
   refine ih y _ hk ht ?_
   refine Tree.holds_mono ?_ (Tree.holds_bind hR)
   rintro ⟨e,z⟩ hz
   cases e with
   | normal=>exact ⟨(k,z),hz,by simp,rfl⟩
   | exit i=>exact hz
   | ret=>exact hz
 | _=>intro x K _ _ h;exact h.elim
def resA (P:Program) (tm:List AV) (h:AH):ResultVar->Option AV
 | .tmp t=>tm[t]?
 | .cell a t=>match tm.getD a .any with
  | .ptr id off=>match h.getC id with
   | some B=>loadA P t B.cs off
   | none=>none
  | _=>none
def resAll (P:Program) (tm:List AV) (h:AH):List ResultVar->Option (List AV)
 | []=>some []
 | r :: t=>match resA P tm h r with
  | none=>none
  | some a=>match resAll P tm h t with
   | none=>none
   | some l=>some (a :: l)
def one1:List AV->AV
 | [a]=>a
 | l=>.tup l
def undefs:Nat->List AV
 | 0=>[]
 | n+1=>.v undef :: undefs n
theorem undefs_eq {ρ:Ren} (n:Nat):Rvs ρ (undefs n) (List.replicate n undef):=by
 induction n with
 | zero=>exact .nil
 | succ n ih=>rw [List.replicate_succ];exact .cons (.v _) ih
def afun (P:Program) (E:Env) (sym:List Tmp) (tab:BTab) (lf:Nat) (f:FuncId) (args:List AV) (h:AH) (n:Nat):Tree (AV × AH) :=
 match P.funcs.toList[f]? with
 | none=>.fail
 | some fn=>match fn.body with
  | none=>.fail
  | some c=>(exec P E sym tab lf c ⟨⟨args ++ undefs (fn.ntmps - args.length),h,true⟩,n⟩).bind fun (e,y)=>match e with
   | .exit _=>.fail
   | _=>match resAll P y.s.tm y.s.h fn.results.toList with
    | none=>.fail
    | some l=>.leaf (one1 l,y.s.h)
theorem resA_run {P:Program} {F:Fr} {ds:List Deferred} {ρ:Ren} {s:St} {a:Act} {w:World} (hs:Sim F ds ρ s a w) {r:ResultVar} {x:AV} (h:resA P s.tm s.h r=some x) :
 ∃ v,(match r with | .tmp t=>pure (a.tmps.getD t undef) | .cell c t=>do loadVar t (<- asAddr (a.tmps.getD c undef)):Sem Value).run P w=.ok v w /\ Rv ρ x v:=by
 cases r with
 | tmp t =>
  simp only [resA] at h
  obtain ⟨v,hv,hr⟩:=hs.tm.getD h
  have hv':a.tmps[t]?=some v:=by simpa using hv
  exact ⟨v,by simp [hv'],hr⟩
 | cell c t =>
  simp only [resA] at h
  split at h
  . rename_i id off hc
    split at h
    . rename_i B hB
      obtain ⟨b,o,h1,h2,⟨xs,fr,rfl,h3,h4,h5⟩,h6⟩:=hs.h.blkC hB
      have:=look_ok hs.tm (.tmp c)
      simp only [look,Act.eval] at this
      rw [hc] at this
      generalize hv:a.tmps.getD c undef=v at this
      cases this with
      | ptr hb =>
       rw [h1] at hb;simp at hb;subst hb
       obtain ⟨u,h7,h8⟩:=loadA_run h h2 h4 h5
       refine ⟨u,?_,h8⟩
       simp only [hv,asAddr,Sem.run_bind,Sem.run_pure,Result.andThen_ok,h7]
    . cases h
  . cases h
theorem results_run {P:Program} {F:Fr} {ds:List Deferred} {ρ:Ren} {s:St} {a:Act} {w:World} (hs:Sim F ds ρ s a w):∀ {rs:List ResultVar} {l:List AV},resAll P s.tm s.h rs=some l ->
 ∃ vs:List Value,(rs.mapM (fun (r:ResultVar)=>(match r with | .tmp t=>pure (a.tmps.getD t undef) | .cell c t=>do loadVar t (<- asAddr (a.tmps.getD c undef)):Sem Value))).run P w=.ok vs w /\ Rvs ρ l vs
 | [],l,h=>by simp [resAll] at h;subst h;exact ⟨[],by simp,.nil⟩
 | r :: t,l,h=>by
  simp only [resAll] at h
  split at h
  . cases h
  . rename_i x hx
    split at h
    . cases h
    . rename_i m hm
      simp at h;subst h
      obtain ⟨v,h1,h2⟩:=resA_run hs hx
      obtain ⟨vs,h3,h4⟩:=results_run hs hm
      refine ⟨v :: vs,?_,.cons h2 h4⟩
      rw [List.mapM_cons]
      simp only [Sem.run_bind,h1,h3,Result.andThen_ok,Sem.run_pure]
theorem one1_ok {ρ:Ren} {l:List AV} {vs:List Value} (h:Rvs ρ l vs):Rv ρ (one1 l) (if h:vs.toArray.size=1 then vs.toArray[0] else .tuple vs.toArray):=by
 cases l with
 | nil=>rw [h.unnil];exact .tup_mk .nil
 | cons a t =>
  obtain ⟨x,ys,rfl,hx,ht⟩:=h.uncons
  cases t with
  | nil=>rw [ht.unnil];exact hx
  | cons b u =>
   obtain ⟨y,zs,rfl,hy,hu⟩:=ht.uncons
   rw [dif_neg (by simp)]
   exact .tup_mk (.cons hx (.cons hy hu))
theorem afun_calls {P:Program} {E:Env} (hE:EnvOk P E) (hm:P.follows .mixedOrders=true) {sym:List Tmp} {tab:BTab} {lf f:Nat} {fn:Func} {c:Code} (hf:P.funcs.toList[f]?=some fn) (hb:fn.body=some c)
 (hok:codeOk E c=true) {args:List AV} {h:AH} {n:Nat} (htab:TabOk P n tab c) {K:AV->AH->Prop} (ht:(afun P E sym tab lf f args h n).holds (fun r=>K r.1 r.2))
 {F:Fr} {ρ:Ren} {xs:List Value} {w:World} (hx:Rvs ρ args xs) (hw:RW F ρ h w) (hn:∀ id,n <= id->ρ id=none) :
 Calls P f xs.toArray w (fun e w'=>∃ v r h' ρ',e=.returned v /\ K r h' /\ Rv ρ' r v /\ RW F ρ' h' w' /\ (∀ id,id < n->Ren.eqAt ρ' ρ id)):=by
 have hf':P.funcs[f]?=some fn:=by simpa using hf
 unfold afun at ht
 rw [hf] at ht
 simp only [hb] at ht
 refine calls_of_wp hf' hb ?_
 have hlen:=hx.1
 have hs:Sim F [] ρ ⟨args ++ undefs (fn.ntmps - args.length),h,true⟩ { tmps:=xs.toArray ++ Array.replicate (fn.ntmps - xs.toArray.size) undef,defers:=[] } w:=by
  refine ⟨?_,hw,rfl⟩
  have:=hx.append (undefs_eq (ρ:=ρ) (fn.ntmps - args.length))
  simpa [hlen] using this
 have main:=exec_sound hE hm (F:=F) (ds:=[]) (m:=n) c ⟨⟨args ++ undefs (fn.ntmps - args.length),h,true⟩,n⟩
  (fun e y=>Tree.holds (fun r:AV × AH=>K r.1 r.2) (match e with
   | AExit.exit _=>Tree.fail
   | _=>match resAll P y.s.tm y.s.h fn.results.toList with
    | none=>Tree.fail
    | some l=>Tree.leaf (one1 l,y.s.h))) hok htab (Tree.holds_mono (fun _ k=>k) (Tree.holds_bind ht)) ρ _ w hs (Nat.le_refl _) hn
 refine wp_mono main ?_
 rintro e a' w' ⟨e',y,ρ',hk,he,hs',hmy,hfr',hp⟩
 have fin:e=.normal \/ e=.ret->Tree.holds (fun r:AV × AH=>K r.1 r.2) (match resAll P y.s.tm y.s.h fn.results.toList with
  | none=>Tree.fail
  | some l=>Tree.leaf (one1 l,y.s.h))->bodyPost P fn (fun e w'=>∃ v r h' ρ',e=.returned v /\ K r h' /\ Rv ρ' r v /\ RW F ρ' h' w' /\ (∀ id,id < n->Ren.eqAt ρ' ρ id)) e a' w':=by
  intro hcase hh
  split at hh
  . exact hh.elim
  . rename_i l hl
    obtain ⟨vs,h1,h2⟩:=results_run hs' hl
    have hres:(results fn a'.tmps).run P w'=.ok (if h:vs.toArray.size=1 then vs.toArray[0] else .tuple vs.toArray) w':=by
     unfold results
     simp only [Sem.run_bind]
     rw [Array.mapM_eq_mapM_toList]
     simp only [Sem.run_map]
     have e1:(fn.results.toList.mapM (fun (x:ResultVar)=>(match x with
      | .tmp t=>pure (a'.tmps.getD t undef)
      | .cell a t=>do loadVar t (<- asAddr (a'.tmps.getD a undef)):Sem Value))).run P w'=.ok vs w':=h1
     erw [e1]
     simp only [Result.andThen_ok,Sem.run_pure]
    have post:a'.defers=[] /\ ∃ v,(results fn a'.tmps).run P w'=.ok v w' /\ (∃ v' r h' ρ',Ending.returned v=.returned v' /\ K r h' /\ Rv ρ' r v' /\ RW F ρ' h' w' /\ (∀ id,id < n->Ren.eqAt ρ' ρ id)) :=
     ⟨hs'.ds,_,hres,_,_,_,ρ',rfl,hh,one1_ok h2,hs'.h,hp⟩
    rcases hcase with rfl | rfl
    . exact post
    . exact post
 cases e' with
 | normal =>
  cases e <;> simp only [AExit.is] at he
  exact fin (.inl rfl) hk
 | exit i=>exact hk.elim
 | ret =>
  cases e <;> simp only [AExit.is] at he
  exact fin (.inr rfl) hk
def flatL:List AV->Option (List Value)
 | []=>some []
 | a :: t=>match flat a with
  | none=>none
  | some x=>match flatL t with
   | none=>none
   | some l=>some (x :: l)
theorem Rvs.flatL_eq {ρ:Ren}:∀ {as:List AV} {xs l:List Value},Rvs ρ as xs->flatL as=some l->xs=l
 | [],xs,l,h,e=>by simp [flatL] at e;subst e;exact h.unnil
 | a :: t,xs,l,h,e=>by
  obtain ⟨x,ys,rfl,hx,ht⟩:=h.uncons
  simp only [flatL] at e
  split at e
  . cases e
  . rename_i y hy
    split at e
    . cases e
    . rename_i m hm
      simp at e;subst e
      rw [hx.flat_eq hy,Rvs.flatL_eq ht hm]
theorem Rvs.of_flatL {ρ:Ren}:∀ {as:List AV} {l:List Value},flatL as=some l->Rvs ρ as l
 | [],l,e=>by simp [flatL] at e;subst e;exact .nil
 | a :: t,l,e=>by
  simp only [flatL] at e
  split at e
  . cases e
  . rename_i y hy
    split at e
    . cases e
    . rename_i m hm
      simp at e;subst e
      exact .cons (.of_flat hy) (Rvs.of_flatL hm)
def frameOf (w:World):Fr:=⟨fun b=>w.heap[b]?,w.os,w.tape,w.output⟩
theorem RW.init (w:World) (ρ:Ren) (hg:GW w):RW (frameOf w) ρ [] w :=
 ⟨fun id B h=>by simp [AH.get] at h,fun id id' B B' b h=>by simp [AH.get] at h,fun _ _ h=>h,rfl,rfl,rfl,hg⟩
theorem RW.to_below {w w':World} {ρ:Ren} {h:AH} (r:RW (frameOf w) ρ h w'):RowKit.Below w.heap.size w w':=by
 refine ⟨r.os,r.tape,r.out,?_,fun k hk=>?_⟩
 . cases hs:w.heap.size with
   | zero=>omega
   | succ n =>
    have hlt:n < w.heap.size:=by omega
    have:=r.fr n w.heap[n] (by simp [frameOf,hlt])
    have:=(Array.getElem?_eq_some_iff.1 this).1
    omega
 . have hg:w.heap[k]?=some w.heap[k]:=Array.getElem?_eq_getElem hk
   rw [hg]
   exact r.fr k w.heap[k] hg
abbrev PureTab:=List (FuncId × (List AV->Option (Bool × AV)))
def lookP:PureTab->FuncId->Option (List AV->Option (Bool × AV))
 | [],_=>none
 | (f,g) :: t,k=>bif Nat.beq f k then some g else lookP t k
def lookE:List (TypeId × List Nat)->TypeId->Option (List Nat)
 | [],_=>none
 | (f,g) :: t,k=>bif Nat.beq f k then some g else lookE t k
def envOf (eqs:List (TypeId × List Nat)) (ps:PureTab):Env:=⟨lookP ps,fun _=>none,lookE eqs,false,false,[],[],fun _=>none,none,fun _=>none,false,[],1⟩
def envW (eqs:List (TypeId × List Nat)) (ps:PureTab):Env:=⟨lookP ps,fun _=>none,lookE eqs,true,false,[],[],fun _=>none,none,fun _=>none,false,[],1⟩
theorem lookP_mem:∀ {ps:PureTab} {f:FuncId} {g},lookP ps f=some g->(f,g) ∈ ps
 | [],f,g,h=>by simp [lookP] at h
 | (k,q) :: t,f,g,h=>by
  simp only [lookP] at h
  cases hb:Nat.beq k f with
  | true=>rw [hb] at h;simp at h;subst h;rw [Nat.eq_of_beq_eq_true hb];simp
  | false=>rw [hb] at h;exact List.mem_cons_of_mem _ (lookP_mem h)
theorem lookE_mem:∀ {ps:List (TypeId × List Nat)} {f:TypeId} {g},lookE ps f=some g->(f,g) ∈ ps
 | [],f,g,h=>by simp [lookE] at h
 | (k,q) :: t,f,g,h=>by
  simp only [lookE] at h
  cases hb:Nat.beq k f with
  | true=>rw [hb] at h;simp at h;subst h;rw [Nat.eq_of_beq_eq_true hb];simp
  | false=>rw [hb] at h;exact List.mem_cons_of_mem _ (lookE_mem h)
def EqsOk (P:Program) (eqs:List (TypeId × List Nat)):Prop:=∀ p ∈ eqs,plan P 100 p.1=some p.2 /\ (match P.underlying p.1 with | some u=>isRow u | none=>false)=true /\ P.eqGuardType P.depth p.1=false
def TabPOk (P:Program) (ps:PureTab):Prop:=∀ p ∈ ps,CallOk P p.1 p.2
theorem TabPOk.nil {P:Program}:TabPOk P []:=fun p h=>by simp at h
theorem TabPOk.cons {P:Program} {f:FuncId} {g:List AV->Option (Bool × AV)} {t:PureTab} (h:CallOk P f g) (r:TabPOk P t):TabPOk P ((f,g) :: t):=by
 intro p hp
 rcases List.mem_cons.1 hp with rfl | hp
 . exact h
 . exact r p hp
theorem envOf_ok {P:Program} {eqs:List (TypeId × List Nat)} {ps:PureTab} (he:EqsOk P eqs) (hp:TabPOk P ps):EnvOk P (envOf eqs ps) :=
 ⟨fun _ _ h=>he _ (lookE_mem h),fun _ _ h=>hp _ (lookP_mem h),fun _ _ h=>by simp [envOf] at h,fun _ _ h=>by simp [envOf] at h,fun _ _ h=>by simp [envOf] at h,Nat.le_refl 1⟩
theorem envW_ok {P:Program} {eqs:List (TypeId × List Nat)} {ps:PureTab} (he:EqsOk P eqs) (hp:TabPOk P ps):EnvOk P (envW eqs ps) :=
 ⟨fun _ _ h=>he _ (lookE_mem h),fun _ _ h=>hp _ (lookP_mem h),fun _ _ h=>by simp [envW] at h,fun _ _ h=>by simp [envW] at h,fun _ _ h=>by simp [envW] at h,Nat.le_refl 1⟩
theorem EqsOk.nil {P:Program}:EqsOk P []:=fun p h=>by simp at h
theorem EqsOk.cons {P:Program} {t:TypeId} {k:List Nat} {l:List (TypeId × List Nat)} (h1:plan P 100 t=some k) (h2:(match P.underlying t with | some u=>isRow u | none=>false)=true) (h3:P.eqGuardType P.depth t=false)
 (r:EqsOk P l):EqsOk P ((t,k) :: l):=by
 intro p hp
 rcases List.mem_cons.1 hp with rfl | hp
 . exact ⟨h1,h2,h3⟩
 . exact r p hp
theorem enters_of {P:Program} {f:FuncId} {fn:Func} (h:P.funcs.toList[f]?=some fn) (h2:(fn.name == "runtime.NumGoroutine")=false) (h3:fn.body.isNone=false):Enters P f :=
 ⟨fn,by simpa using h,h2,h3⟩
structure CC (α:Type) where
 n:Nat
 enc:α->List AV
 dec:List AV->Option α
 val:α->List Value
 len:∀ x,(enc x).length=n
 h1:∀ x,flats (enc x)=some (val x)
 h2:∀ (ρ:Ren) (as:List AV) (vs:List Value) (x:α),dec as=some x->Rvs ρ as vs->vs=val x
structure Cod (α:Type) where
 enc:α->AV
 dec:AV->Option α
 val:α->Value
 h1:∀ x,flat (enc x)=some (val x)
 h2:∀ (ρ:Ren) (a:AV) (v:Value) (x:α),dec a=some x->Rv ρ a v->v=val x
theorem flats_append:∀ {as bs:List AV} {xs ys:List Value},flats as=some xs->flats bs=some ys->flats (as ++ bs)=some (xs ++ ys)
 | [],bs,xs,ys,h,k=>by simp [flats] at h;subst h;exact k
 | a :: as,bs,xs,ys,h,k=>by
  simp only [flats] at h
  split at h
  . cases h
  . rename_i x hx
    split at h
    . rename_i l hl;simp at h;subst h
      simp only [List.cons_append,flats,hx,flats_append hl k]
    . cases h
def CC.prod {α β:Type} (A:CC α) (B:CC β):CC (α × β) where
 n:=A.n+B.n
 enc x:=A.enc x.1 ++ B.enc x.2
 dec l:=match A.dec (l.take A.n),B.dec (l.drop A.n) with
  | some x,some y=>some (x,y)
  | _,_=>none
 val x:=A.val x.1 ++ B.val x.2
 len x:=by simp [A.len,B.len]
 h1 x:=flats_append (A.h1 _) (B.h1 _)
 h2 ρ as vs x h r:=by
  split at h
  . rename_i p q hp hq
    simp at h;subst h
    rw [<- A.h2 ρ _ _ _ hp (r.take A.n),<- B.h2 ρ _ _ _ hq (r.drop A.n),List.take_append_drop]
  . cases h
def cBool:CC Bool where
 n:=1
 enc b:=[.v (.bool b)]
 dec l:=match l with
  | [a]=>boolOf a
  | _=>none
 val b:=[.bool b]
 len _:=rfl
 h1 _:=rfl
 h2 ρ as vs x h r:=by
  split at h
  . obtain ⟨v,ys,rfl,hv,ht⟩:=r.uncons
    rw [ht.unnil,boolOf_ok hv h]
  . cases h
def cU:CC (BitVec 64) where
 n:=1
 enc b:=[.u b]
 dec l:=match l with
  | [a]=>toU a
  | _=>none
 val b:=[uval b]
 len _:=rfl
 h1 _:=rfl
 h2 ρ as vs x h r:=by
  split at h
  . obtain ⟨v,ys,rfl,hv,ht⟩:=r.uncons
    rw [ht.unnil,hv.toU h]
  . cases h
def intOf (k:IntKind):AV->Option Int
 | .v (.int k' n)=>match decide (k'=k) with
  | true=>some n
  | false=>none
 | _=>none
def cInt (k:IntKind):CC Int where
 n:=1
 enc b:=[.v (.int k b)]
 dec l:=match l with
  | [a]=>intOf k a
  | _=>none
 val b:=[.int k b]
 len _:=rfl
 h1 _:=rfl
 h2 ρ as vs x h r:=by
  split at h
  . obtain ⟨v,ys,rfl,hv,ht⟩:=r.uncons
    rename_i a
    unfold intOf at h
    split at h
    . split at h
      . rename_i hk
        have hk:=of_decide_eq_true hk
        subst hk
        simp at h;subst h
        cases hv
        rw [ht.unnil]
      . cases h
    . cases h
  . cases h
structure W6 where
 w0:BitVec 64
 w1:BitVec 64
 w2:BitVec 64
 w3:BitVec 64
 w4:BitVec 64
 w5:BitVec 64
 deriving DecidableEq
def c6:CC W6 where
 n:=6
 enc x:=[.u x.w0,.u x.w1,.u x.w2,.u x.w3,.u x.w4,.u x.w5]
 dec l:=match l with
  | [a0,a1,a2,a3,a4,a5]=>match toU a0,toU a1,toU a2,toU a3,toU a4,toU a5 with
   | some x0,some x1,some x2,some x3,some x4,some x5=>some ⟨x0,x1,x2,x3,x4,x5⟩
   | _,_,_,_,_,_=>none
  | _=>none
 val x:=[uval x.w0,uval x.w1,uval x.w2,uval x.w3,uval x.w4,uval x.w5]
 len _:=rfl
 h1 _:=rfl
 h2 ρ as vs x h r:=by
  split at h
  . obtain ⟨v0,y0,rfl,h0,r⟩:=r.uncons
    obtain ⟨v1,y1,rfl,h1,r⟩:=r.uncons
    obtain ⟨v2,y2,rfl,h2,r⟩:=r.uncons
    obtain ⟨v3,y3,rfl,h3,r⟩:=r.uncons
    obtain ⟨v4,y4,rfl,h4,r⟩:=r.uncons
    obtain ⟨v5,y5,rfl,h5,r⟩:=r.uncons
    split at h
    . rename_i e0 e1 e2 e3 e4 e5
      simp at h;subst h
      rw [r.unnil,h0.toU e0,h1.toU e1,h2.toU e2,h3.toU e3,h4.toU e4,h5.toU e5]
    . cases h
  . cases h
def CC.agg {α:Type} (A:CC α):Cod α where
 enc x:=.agg (A.enc x)
 dec a:=match aggOf a with
  | some l=>A.dec l
  | none=>none
 val x:=.agg (A.val x).toArray
 h1 x:=by simp only [flat,A.h1]
 h2 ρ a v x h r:=by
  split at h
  . rename_i l hl
    obtain ⟨xs,rfl,hx⟩:=r.aggOf hl
    rw [<- A.h2 ρ _ _ _ h hx]
  . cases h
def kBool:Cod Bool where
 enc b:=.v (.bool b)
 dec a:=boolOf a
 val b:=.bool b
 h1 _:=rfl
 h2 _ _ _ _ h r:=boolOf_ok r h
def kU:Cod (BitVec 64) where
 enc b:=.u b
 dec a:=toU a
 val b:=uval b
 h1 _:=rfl
 h2 _ _ _ _ h r:=r.toU h
def kBit:Cod Bool where
 enc b:=.bit b
 dec a:=match a with
  | .bit b=>some b
  | _=>none
 val b:=uval (bitW b)
 h1 _:=rfl
 h2 ρ a v x h r:=by
  split at h
  . simp at h;subst h;cases r;rfl
  . cases h
def kInt (k:IntKind):Cod Int where
 enc b:=.v (.int k b)
 dec a:=intOf k a
 val b:=.int k b
 h1 _:=rfl
 h2 ρ a v x h r:=by
  have:=(cInt k).h2 ρ [a] [v] x h (.cons r .nil)
  simpa [cInt] using this
def tupOf:AV->Option (List AV)
 | .tup l=>some l
 | _=>none
def fn0 {β:Type} (B:Cod β) (F:β):List AV->Option (Bool × AV)
 | []=>some (true,B.enc F)
 | _=>none
def fn1 {α β:Type} (A:Cod α) (B:Cod β) (F:α->β):List AV->Option (Bool × AV)
 | [a]=>match A.dec a with
  | some x=>some (true,B.enc (F x))
  | none=>none
 | _=>none
def fn2 {α γ β:Type} (A:Cod α) (C:Cod γ) (B:Cod β) (F:α->γ->β):List AV->Option (Bool × AV)
 | [a,c]=>match A.dec a,C.dec c with
  | some x,some y=>some (true,B.enc (F x y))
  | _,_=>none
 | _=>none
def fn3 {α γ δ β:Type} (A:Cod α) (C:Cod γ) (D:Cod δ) (B:Cod β) (F:α->γ->δ->β):List AV->Option (Bool × AV)
 | [a,c,d]=>match A.dec a,C.dec c,D.dec d with
  | some x,some y,some z=>some (true,B.enc (F x y z))
  | _,_,_=>none
 | _=>none
def afunR (P:Program) (E:Env) (sym:List Tmp) (tab:BTab) (lf:Nat) (f:FuncId) (args:List AV):Tree AV :=
 (afun P E sym tab lf f args [] 0).bind fun q=>.leaf q.1
structure Ctx (P:Program) (E:Env) (sym:List Tmp) (tab:BTab) (lf f:Nat):Prop where
 env:EnvOk P E
 mixed:P.follows .mixedOrders=true
 body:∃ fn c,P.funcs.toList[f]?=some fn /\ fn.body=some c /\ codeOk E c=true /\ TabOk P 0 tab c
theorem pure_core {P:Program} {E:Env} {sym:List Tmp} {tab:BTab} {lf f:Nat} (X:Ctx P E sym tab lf f) {g:List AV->Option (Bool × AV)}
 (h:∀ as r,g as=some (true,r)->∃ as' l,(∀ (ρ:Ren) (xs:List Value),Rvs ρ as xs->xs=l) /\ flatL as'=some l /\ ∃ y,flat r=some y /\ (afunR P E sym tab lf f as').holds (fun q=>flat q=some y)):PureOk P f g:=by
 obtain ⟨fn,c,hf,hb,hok,htab⟩:=X.body
 intro ρ as xs r hg hx w hgw
 obtain ⟨as',l,h1,h2,y,h3,h4⟩:=h as r hg
 have hxl:=h1 ρ xs hx
 subst hxl
 have:=afun_calls X.env X.mixed hf hb hok htab (K:=fun q _=>flat q=some y) (Tree.holds_bind h4) (F:=frameOf w) (ρ:=Ren.empty) (xs:=xs) (w:=w) (Rvs.of_flatL h2) (RW.init w _ hgw) (fun _ _=>rfl)
 refine Calls.mono this ?_
 rintro e w' ⟨v,q,h',ρ',rfl,hk,hrv,hrw,_⟩
 have:=hrv.flat_eq hk
 subst this
 exact ⟨v,rfl,.of_flat h3,hrw.to_below⟩
structure Gives (t:Tree AV) (v:Value):Prop where
 out:t.holds (fun q=>flat q=some v)
theorem leafVal {β:Type} {B:Cod β} {y:β} {t:Tree AV} (h:t.strict=.leaf (B.enc y)):Gives t (B.val y) :=
 ⟨Tree.holds_strict (by rw [h];exact B.h1 y)⟩
theorem brVal {β:Type} {B:Cod β} {y y1 y2:β} {c:Bool} {t:Tree AV} (h:t.strict=.br c (.leaf (B.enc y1)) (.leaf (B.enc y2))) (h1:c=true->y=y1) (h2:c=false->y=y2):Gives t (B.val y) :=
 ⟨Tree.holds_strict (by rw [h];exact ⟨fun hc=>by rw [h1 hc];exact B.h1 y1,fun hc=>by rw [h2 hc];exact B.h1 y2⟩)⟩
section
variable {P:Program} {E:Env} {sym:List Tmp} {tab:BTab} {lf f:Nat} {α β γ δ:Type} {A:Cod α} {B:Cod β} {C:Cod γ} {D:Cod δ}
theorem pure0 (X:Ctx P E sym tab lf f) {F:β} (h:Gives (afunR P E sym tab lf f []) (B.val F)):PureOk P f (fn0 B F):=by
 refine pure_core X fun as r hg=>?_
 unfold fn0 at hg
 split at hg
 . simp at hg;subst hg
   exact ⟨[],[],fun ρ xs hx=>hx.unnil,rfl,_,B.h1 _,h.out⟩
 . cases hg
theorem pure1 (X:Ctx P E sym tab lf f) {F:α->β} (h:∀ x,Gives (afunR P E sym tab lf f [A.enc x]) (B.val (F x))):PureOk P f (fn1 A B F):=by
 refine pure_core X fun as r hg=>?_
 unfold fn1 at hg
 split at hg
 . rename_i a
   split at hg
   . rename_i x hx
     simp at hg;subst hg
     refine ⟨[A.enc x],[A.val x],fun ρ xs hxs=>?_,by simp [flatL,A.h1],_,B.h1 _,(h x).out⟩
     obtain ⟨v,ys,rfl,h1,h2⟩:=hxs.uncons
     rw [h2.unnil,A.h2 ρ _ _ _ hx h1]
   . cases hg
 . cases hg
theorem pure2 (X:Ctx P E sym tab lf f) {F:α->γ->β} (h:∀ x y,Gives (afunR P E sym tab lf f [A.enc x,C.enc y]) (B.val (F x y))):PureOk P f (fn2 A C B F):=by
 refine pure_core X fun as r hg=>?_
 unfold fn2 at hg
 split at hg
 . rename_i a c
   split at hg
   . rename_i x y hx hy
     simp at hg;subst hg
     refine ⟨[A.enc x,C.enc y],[A.val x,C.val y],fun ρ xs hxs=>?_,by simp [flatL,A.h1,C.h1],_,B.h1 _,(h x y).out⟩
     obtain ⟨v,ys,rfl,h1,h2⟩:=hxs.uncons
     obtain ⟨u,zs,rfl,h3,h4⟩:=h2.uncons
     rw [h4.unnil,A.h2 ρ _ _ _ hx h1,C.h2 ρ _ _ _ hy h3]
   . cases hg
 . cases hg
theorem pure3 (X:Ctx P E sym tab lf f) {F:α->γ->δ->β} (h:∀ x y z,Gives (afunR P E sym tab lf f [A.enc x,C.enc y,D.enc z]) (B.val (F x y z))):PureOk P f (fn3 A C D B F):=by
 refine pure_core X fun as r hg=>?_
 unfold fn3 at hg
 split at hg
 . rename_i a c d
   split at hg
   . rename_i x y z hx hy hz
     simp at hg;subst hg
     refine ⟨[A.enc x,C.enc y,D.enc z],[A.val x,C.val y,D.val z],fun ρ xs hxs=>?_,by simp [flatL,A.h1,C.h1,D.h1],_,B.h1 _,(h x y z).out⟩
     obtain ⟨v,ys,rfl,h1,h2⟩:=hxs.uncons
     obtain ⟨u,zs,rfl,h3,h4⟩:=h2.uncons
     obtain ⟨t,us,rfl,h5,h6⟩:=h4.uncons
     rw [h6.unnil,A.h2 ρ _ _ _ hx h1,C.h2 ρ _ _ _ hy h3,D.h2 ρ _ _ _ hz h5]
   . cases hg
 . cases hg
end
def kTup {α β:Type} (A:Cod α) (B:Cod β) (hA:∀ x,flatA (A.enc x)=some (A.val x)) (hB:∀ x,flatA (B.enc x)=some (B.val x)):Cod (α × β) where
 enc x:=.tup [A.enc x.1,B.enc x.2]
 dec a:=match a with
  | .tup [a,b]=>match A.dec a,B.dec b with
   | some x,some y=>some (x,y)
   | _,_=>none
  | _=>none
 val x:=.tuple #[A.val x.1,B.val x.2]
 h1 x:=by simp [flat,flatsA,hA,hB]
 h2 ρ a v x h r:=by
  split at h
  . split at h
    . rename_i p q hp hq
      simp at h;subst h
      obtain ⟨xs,rfl,hx⟩:=r.tup_iff
      obtain ⟨v0,y0,e0,h0,r0⟩:=hx.uncons
      obtain ⟨v1,y1,e1,h1,r1⟩:=r0.uncons
      have e2:=r1.unnil
      subst e2;subst e1
      rw [A.h2 ρ _ _ _ hp h0,B.h2 ρ _ _ _ hq h1] at e0
      have:xs=#[A.val p,B.val q]:=by apply Array.ext';simpa using e0
      rw [this]
    . cases h
  . cases h
def add64 (x y:BitVec 64) (c:Bool):BitVec 64 × Bool :=
 (x+y+bitW c,decide (2 ^ 64 <= x.toNat+y.toNat+(bif c then 1 else 0)))
def sub64 (x y:BitVec 64) (c:Bool):BitVec 64 × Bool :=
 (x - y - bitW c,decide (x.toNat < y.toNat+(bif c then 1 else 0)))
def kUB:Cod (BitVec 64 × Bool):=kTup kU kBit (fun _=>rfl) (fun _=>rfl)
theorem bitW_toNat (c:Bool):(bitW c).toNat=bif c then 1 else 0:=by cases c <;> rfl
theorem three_run {P:Program} (nm:String) (x y:BitVec 64) (z:Bool) (w:World) :
 (Extern.MathBitsCarry.three nm #[uval x,uval y,uval (bitW z)]).run P w=.ok (x.toNat,y.toNat,(bitW z).toNat) w:=by
 cases z <;> rfl
theorem add64_pair (x y:BitVec 64) (z:Bool) :
 Extern.MathBitsCarry.pair ((x.toNat+y.toNat+(bitW z).toNat) % Extern.MathBitsCarry.m64) ((x.toNat+y.toNat+(bitW z).toNat) / Extern.MathBitsCarry.m64)=kUB.val (add64 x y z):=by
 have hx64:=x.isLt
 have hy64:=y.isLt
 have hzb:(bitW z).toNat <= 1:=by cases z <;> decide
 have e1:(x.toNat+y.toNat+(bitW z).toNat) % Extern.MathBitsCarry.m64=(x+y+bitW z).toNat:=by
  simp [Extern.MathBitsCarry.m64,BitVec.toNat_add]
 have e2:(x.toNat+y.toNat+(bitW z).toNat) / Extern.MathBitsCarry.m64=(bitW (decide (2 ^ 64 <= x.toNat+y.toNat+(bif z then 1 else 0)))).toNat:=by
  rw [bitW_toNat,bitW_toNat]
  rw [bitW_toNat] at hzb
  simp only [Extern.MathBitsCarry.m64]
  by_cases hh:2 ^ 64 <= x.toNat+y.toNat+(bif z then 1 else 0)
  . simp only [hh,decide_true,cond_true];omega
  . simp only [hh,decide_false,cond_false];omega
 rw [e1,e2]
 rfl
theorem sub64_pair (x y:BitVec 64) (z:Bool) :
 Extern.MathBitsCarry.pair ((x.toNat+Extern.MathBitsCarry.m64 - y.toNat - (bitW z).toNat) % Extern.MathBitsCarry.m64) (if x.toNat < y.toNat+(bitW z).toNat then 1 else 0)=kUB.val (sub64 x y z):=by
 have hx64:=x.isLt
 have hy64:=y.isLt
 have hzb:(bitW z).toNat <= 1:=by cases z <;> decide
 have e1:(x.toNat+Extern.MathBitsCarry.m64 - y.toNat - (bitW z).toNat) % Extern.MathBitsCarry.m64=(x - y - bitW z).toNat:=by
  simp only [Extern.MathBitsCarry.m64,BitVec.toNat_sub];omega
 have e2:(if x.toNat < y.toNat+(bitW z).toNat then 1 else 0)=(bitW (decide (x.toNat < y.toNat+(bif z then 1 else 0)))).toNat:=by
  rw [bitW_toNat,bitW_toNat]
  by_cases hh:x.toNat < y.toNat+(bif z then 1 else 0)
  . simp only [hh,decide_true,cond_true,if_true]
  . simp only [hh,decide_false,cond_false,if_false]
 rw [e1,e2]
 rfl
theorem ext3 {P:Program} {f:FuncId} {fn:Func} (hf:P.funcs.toList[f]?=some fn) (h1:(fn.name == "runtime.NumGoroutine")=false) (h2:fn.body.isNone=true) (h3:(Extern.findNext fn).isNone=true)
 {r:Array Value->Sem Value} (h4:Extern.find fn=some r) {α β γ δ:Type} {A:Cod α} {B:Cod β} {C:Cod γ} {D:Cod δ} {F:α->γ->δ->β}
 (h:∀ x y z w,(r #[A.val x,C.val y,D.val z]).run P w=.ok (B.val (F x y z)) w):ExtOk P f (fn3 A C D B F):=by
 intro ρ as xs q hg hx w
 unfold fn3 at hg
 split at hg
 . rename_i a c d
   split at hg
   . rename_i x y z hx' hy hz
     simp at hg;subst hg
     obtain ⟨v,ys,rfl,h1',h2'⟩:=hx.uncons
     obtain ⟨u,zs,rfl,h3',h4'⟩:=h2'.uncons
     obtain ⟨t,us,rfl,h5',h6'⟩:=h4'.uncons
     rw [h6'.unnil,A.h2 ρ _ _ _ hx' h1',C.h2 ρ _ _ _ hy h3',D.h2 ρ _ _ _ hz h5']
     refine ⟨B.val (F x y z),?_,.of_flat (B.h1 _)⟩
     have hf':P.funcs[f]?=some fn:=by simpa using hf
     have hnext:Extern.findNext fn=none:=by simpa using h3
     have hr:=h x y z w
     simp only [callFunc,Sem.run_bind,run_program,Result.andThen_ok,hf',h1,h2,hnext,h4,Sem.run_ite]
     simp only [hr,Bool.false_eq_true,if_false,if_true,run_mark,Result.andThen_ok,Sem.run_pure]
   . cases hg
 . cases hg
def add64Row:Array Value->Sem Value:=fun args=>do
 let (x,y,c) <- Extern.MathBitsCarry.three "Add64" args
 pure (Extern.MathBitsCarry.pair ((x+y+c) % Extern.MathBitsCarry.m64) ((x+y+c) / Extern.MathBitsCarry.m64))
def sub64Row:Array Value->Sem Value:=fun args=>do
 let (x,y,b) <- Extern.MathBitsCarry.three "Sub64" args
 pure (Extern.MathBitsCarry.pair ((x+Extern.MathBitsCarry.m64 - y - b) % Extern.MathBitsCarry.m64) (if x < y+b then 1 else 0))
theorem add64_run {P:Program} (x y:BitVec 64) (z:Bool) (w:World):(add64Row #[kU.val x,kU.val y,kBit.val z]).run P w=.ok (kUB.val (add64 x y z)) w:=by
 have:=three_run (P:=P) "Add64" x y z w
 rw [<- add64_pair]
 simp only [add64Row,kU,kBit,Sem.run_bind,this,Result.andThen_ok]
 rfl
theorem sub64_run {P:Program} (x y:BitVec 64) (z:Bool) (w:World):(sub64Row #[kU.val x,kU.val y,kBit.val z]).run P w=.ok (kUB.val (sub64 x y z)) w:=by
 have:=three_run (P:=P) "Sub64" x y z w
 rw [<- sub64_pair]
 simp only [sub64Row,kU,kBit,Sem.run_bind,this,Result.andThen_ok]
 rfl
instance:Inhabited XS:=⟨⟨⟨[],[],true⟩,0⟩⟩
def XS.setT (x:XS) (i:Nat) (a:AV):XS:=⟨⟨x.s.tm.set i a,x.s.h,x.s.ok⟩,x.n⟩
def setH:AH->Nat->List AV->AH
 | [],_,_=>[]
 | (i,b) :: t,id,cs=>bif Nat.beq i id then (match b with
  | some B=>(i,some ⟨B.wr,B.ty,cs⟩) :: t
  | none=>(i,b) :: t) else (i,b) :: setH t id cs
def XS.setB (x:XS) (id:Nat) (cs:List AV):XS:=⟨⟨x.s.tm,setH x.s.h id cs,x.s.ok⟩,x.n⟩
structure Keep where
 tm:List Tmp
 ids:List Nat
 n:Nat
def trimK (k:Keep) (e:AExit) (y:XS):Tree (AExit × XS) :=
 match trim k.tm k.ids k.n y with
 | some z=>.need (allBlt k.n k.ids) (.leaf (e,z))
 | none=>.fail
def roundT (P:Program) (E:Env) (sym:List Tmp) (tab:BTab) (lf:Nat) (k kx kr:Keep) (c:Code) (x:XS):Tree (AExit × XS) :=
 (exec P E sym tab lf c x).bind fun (e,y)=>match e with
  | .normal=>trimK k e y
  | .exit _=>trimK kx e y
  | .ret=>trimK kr e y
theorem trimK_sim {F:Fr} {ds:List Deferred} {ρ:Ren} {k:Keep} {e:AExit} {x:XS} {a:Act} {w:World} {m:Nat} {K:AExit × XS->Prop} (hs:Sim F ds ρ x.s a w) (hm:m <= k.n) (h:(trimK k e x).holds K) :
 ∃ z ρ',K (e,z) /\ Sim F ds ρ' z.s a w /\ m <= z.n /\ (∀ id,z.n <= id->ρ' id=none) /\ (∀ id,id < m->Ren.eqAt ρ' ρ id):=by
 unfold trimK at h
 split at h
 . rename_i z hz
   obtain ⟨ρ',h1,h2,h3,h4⟩:=trim_sim (m:=m) hs hz (allBlt_spec h.1) hm
   exact ⟨z,ρ',h.2,h1,h2,h3,h4⟩
 . exact h.elim
theorem round_sound {P:Program} {E:Env} (hE:EnvOk P E) (hm:P.follows .mixedOrders=true) {F:Fr} {ds:List Deferred} {m:Nat} {sym:List Tmp} {tab:BTab} {lf:Nat} {k kx kr:Keep} (h1:m <= k.n) (h2:m <= kx.n) (h3:m <= kr.n)
 {c:Code} {x:XS} {K:AExit->XS->Prop} (hok:codeOk E c=true) (htab:TabOk P m tab c) (h:(roundT P E sym tab lf k kx kr c x).holds (fun r=>K r.1 r.2)):Tri P F ds m c x K:=by
 intro ρ a w hs hmx hf
 have main:=exec_sound hE hm (F:=F) (ds:=ds) (m:=m) c x
  (fun e y=>Tree.holds (fun r:AExit × XS=>K r.1 r.2) (match e with
   | .normal=>trimK k e y
   | .exit _=>trimK kx e y
   | .ret=>trimK kr e y)) hok htab (Tree.holds_mono (fun _ q=>q) (Tree.holds_bind h)) ρ a w hs hmx hf
 refine wp_mono main ?_
 rintro e a' w' ⟨e',y,ρ',hk,he,hs',hm',hf',hp'⟩
 have fin:∀ kk:Keep,m <= kk.n->(trimK kk e' y).holds (fun r=>K r.1 r.2)->∃ e2 z ρ2,K e2 z /\ e2.is e /\ Sim F ds ρ2 z.s a' w' /\ m <= z.n /\ (∀ id,z.n <= id->ρ2 id=none) /\ (∀ id,id < m->Ren.eqAt ρ2 ρ id):=by
  intro kk hkk hh
  obtain ⟨z,ρ2,g1,g2,g3,g4,g5⟩:=trimK_sim (m:=m) hs' hkk hh
  exact ⟨e',z,ρ2,g1,he,g2,g3,g4,fun id hlt=>(g5 id hlt).trans (hp' id hlt)⟩
 cases e' with
 | normal=>exact fin k h1 hk
 | exit i=>exact fin kx h2 hk
 | ret=>exact fin kr h3 hk
theorem blockLoop {P:Program} {E:Env} (hE:EnvOk P E) (hm:P.follows .mixedOrders=true) {F:Fr} {ds:List Deferred} {m id:Nat} {sym:List Tmp} {tab:BTab} {lf:Nat} {k kx kr:Keep} (h1:m <= k.n) (h2:m <= kx.n) (h3:m <= kr.n)
 {c:Code} {K:AExit->XS->Prop} (hok:codeOk E c=true) (htab:TabOk P m tab c) {α:Type} (I:α->XS) (R:α->Prop) (μ:α->Nat) (i0:α) (hR:R i0)
 (h:∀ i,R i->(roundT P E sym tab lf k kx kr c (I i)).holds (fun r=>match r.1 with
  | .normal=>∃ j,R j /\ μ j < μ i /\ r.2=I j
  | .exit q=>if q=id then K .normal r.2 else K (.exit q) r.2
  | .ret=>K .ret r.2)):Tri P F ds m (.block id (.loop c)) (I i0) K:=by
 refine Tri.block (Tri.loop (F:=F) I R μ i0 rfl hR fun i hi=>?_)
 refine (round_sound hE hm h1 h2 h3 hok htab (K:=fun e y=>match e with
  | .normal=>∃ j,R j /\ μ j < μ i /\ y=I j
  | .exit q=>if q=id then K .normal y else K (.exit q) y
  | .ret=>K .ret y) (h i hi)).mono ?_
 intro e y hy
 cases e <;> exact hy
def reach (P:Program) (E:Env) (sym:List Tmp) (tab:BTab) (lf:Nat) (target:Nat):Code->XS->Tree (Bool × AExit × XS)
 | .seq a b,x=>(reach P E sym tab lf target a x).bind fun r=>match r with
  | (true,e,y)=>.leaf (true,e,y)
  | (false,.normal,y)=>reach P E sym tab lf target b y
  | (false,e,y)=>.leaf (false,e,y)
 | .cond c a b,x=>match boolOf (look x.s.tm c) with
  | some true=>reach P E sym tab lf target a x
  | some false=>reach P E sym tab lf target b x
  | none=>.fail
 | .block id c,x=>bif Nat.beq id target then .leaf (true,.normal,x) else match tab id with
  | some b=>b.post.bind fun (e,y)=>.leaf (false,e,y)
  | none=>(reach P E sym tab lf target c x).bind fun r=>match r with
   | (false,.exit i,y)=>bif Nat.beq i id then .leaf (false,.normal,y) else .leaf (false,.exit i,y)
   | r=>.leaf r
 | .loop c,x=>reach P E sym tab lf target c x
 | c,x=>(exec P E sym tab lf c x).bind fun (e,y)=>.leaf (false,e,y)
def firstT:Tree (Bool × AExit × XS)->Option XS
 | .leaf (true,_,x)=>some x
 | .leaf (false,_,_)=>none
 | .br _ t f=>match firstT t with
  | some x=>some x
  | none=>firstT f
 | .need _ t=>firstT t
 | .same _ _ t=>firstT t
 | .fail=>none
def bodyOf (P:Program) (f:Nat):Code:=match P.funcs.toList[f]? with
 | some fn=>match fn.body with
  | some c=>c
  | none=>.skip
 | none=>.skip
def ntmpsOf (P:Program) (f:Nat):Nat:=match P.funcs.toList[f]? with
 | some fn=>fn.ntmps
 | none=>0
def entryOf (P:Program) (E:Env) (sym:List Tmp) (tab:BTab) (lf:Nat) (f:Nat) (args:List AV) (h:AH) (n:Nat) (target:Nat) (k:Keep):XS :=
 match firstT (reach P E sym tab lf target (bodyOf P f) ⟨⟨args ++ undefs (ntmpsOf P f - args.length),h,true⟩,n⟩) with
 | some x=>match trim k.tm k.ids k.n x with
  | some y=>y
  | none=>default
 | none=>default
def blockIn (id:Nat):Code->Option Code
 | .seq a b=>match blockIn id a with
  | some c=>some c
  | none=>blockIn id b
 | .cond _ a b=>match blockIn id a with
  | some c=>some c
  | none=>blockIn id b
 | .block i c=>bif Nat.beq i id then some c else blockIn id c
 | .loop c=>blockIn id c
 | _=>none
def roundOf (P:Program) (f id:Nat):Code:=match blockIn id (bodyOf P f) with
 | some (.loop c)=>c
 | _=>.skip
def tabOf:List (Nat × BEnt)->BTab
 | [],_=>none
 | (i,b) :: t,id=>bif Nat.beq i id then some b else tabOf t id
theorem ctx_of {P:Program} {E:Env} {sym:List Tmp} {tab:BTab} {lf f:Nat} (hE:EnvOk P E) (hm:P.follows .mixedOrders=true) {fn:Func} (hf:P.funcs.toList[f]?=some fn) (hb:fn.body=some (bodyOf P f)) (hok:codeOk E (bodyOf P f)=true)
 (htab:TabOk P 0 tab (bodyOf P f)):Ctx P E sym tab lf f:=⟨hE,hm,fn,_,hf,hb,hok,htab⟩
theorem tabOk_none {P:Program} {m:Nat}:∀ c:Code,TabOk P m (fun _=>none) c:=by
 intro c
 induction c with
 | seq a b ha hb=>exact ⟨ha,hb⟩
 | cond c a b ha hb=>exact ⟨ha,hb⟩
 | block id c ih=>exact ih
 | loop c ih=>exact ih
 | _=>trivial
def strip:Tree AV->Option AV
 | .leaf a=>some a
 | .need true t=>strip t
 | _=>none
def allFlat (as:List AV):Bool:=match flatL as with
 | some _=>true
 | none=>false
def isFlat (a:AV):Bool:=match flat a with
 | some _=>true
 | none=>false
def inlineG (P:Program) (E:Env) (sym:List Tmp) (lf f:Nat) (as:List AV):Option (Bool × AV) :=
 match allFlat as with
 | true=>match strip (afunR P E sym (fun _=>none) lf f as).strict with
  | some r=>match isFlat r with
   | true=>some (true,r)
   | false=>none
  | none=>none
 | false=>none
theorem strip_holds:∀ {t:Tree AV} {r:AV},strip t=some r->t.holds (fun q=>q=r)
 | .leaf a,r,h=>by simp [strip] at h;exact h
 | .need true t,r,h=>by simp only [strip] at h;exact ⟨rfl,strip_holds h⟩
 | .need false t,r,h=>by simp [strip] at h
 | .br _ _ _,r,h=>by simp [strip] at h
 | .same _ _ _,r,h=>by simp [strip] at h
 | .fail,r,h=>by simp [strip] at h
theorem inline_ok {P:Program} {E:Env} {sym:List Tmp} {lf f:Nat} (X:Ctx P E sym (fun _=>none) lf f):PureOk P f (inlineG P E sym lf f):=by
 refine pure_core X fun as r hg=>?_
 unfold inlineG at hg
 split at hg
 . rename_i hfl
   split at hg
   . rename_i q hq
     split at hg
     . rename_i hfr
       simp at hg;subst hg
       unfold allFlat at hfl
       split at hfl
       . rename_i l hl
         unfold isFlat at hfr
         split at hfr
         . rename_i y hy
           exact ⟨as,l,fun ρ xs hx=>hx.flatL_eq hl,hl,y,hy,Tree.holds_strict (Tree.holds_mono (fun a h=>by rw [h];exact hy) (strip_holds hq))⟩
         . cases hfr
       . cases hfl
     . cases hg
   . cases hg
 . cases hg
def bodyB (P:Program) (E:Env) (f:Nat):Bool:=match P.funcs.toList[f]? with
 | some fn=>match fn.body with
  | some c=>codeOk E c
  | none=>false
 | none=>false
theorem ctxB {P:Program} {E:Env} {sym:List Tmp} {lf f:Nat} (hE:EnvOk P E) (hm:P.follows .mixedOrders=true) (h:bodyB P E f=true):Ctx P E sym (fun _=>none) lf f:=by
 unfold bodyB at h
 split at h
 . rename_i fn hf
   split at h
   . rename_i c hb
     exact ⟨hE,hm,fn,c,hf,hb,h,tabOk_none c⟩
   . cases h
 . cases h
def entB (P:Program) (f:Nat):Bool:=match P.funcs.toList[f]? with
 | some fn=>match fn.name == "runtime.NumGoroutine" with
  | true=>false
  | false=>match fn.body with
   | some _=>true
   | none=>false
 | none=>false
theorem entersB {P:Program} {f:FuncId} (h:entB P f=true):Enters P f:=by
 unfold entB at h
 split at h
 . rename_i fn hf
   split at h
   . cases h
   . rename_i hn
     split at h
     . rename_i c hb
       exact enters_of hf hn (by rw [hb];rfl)
     . cases h
 . cases h
end Go.Rq

namespace Go.Rq
open Go Go.RowKit
variable {F:Fence} {n:Nat} {P:Program}
def SeqAt (F:Fence) (n:Nat) (P:Program) (g:Nat) (lb:Array Value) (encs:Nat->Array Value) (Lies:World->Prop) (N:Nat):Prop :=
 ∀ (l:Nat) (J:Nat->World->Prop) (W:World),(∀ k W1,J k W1->Lies W1) ->
  (∀ k W1,J k W1->k < N->YieldAt F (n - 1) P l (encs k) W1 fun e W'=>e=.returned (.bool true) /\ J (k+1) W') ->
  J 0 W->CallsIn F n P g (#[.func (.yield l) #[] #[]] ++ lb) W fun e W'=>(∃ v,e=.returned v) /\ J N W'
def Keeps (B:Nat) (W W':World):Prop:=∀ (k:Nat) (o:Obj),B <= k->W.heap[k]?=some o->o.isCells=false->W'.heap[k]?=some o
def endsAt (B:Nat) (I:Act->World->Prop) (W:World):Exit->Act->World->Prop
 | .normal,a,W'=>Keeps B W W' /\ I a W'
 | _,_,_=>False
theorem wpIn_rangeAt {g:Operand} {ps:Array Tmp} {assign body:Code} {Q:Exit->Act->World->Prop} {a:Act} {w:World}
 (hro:F.round=none) (h1:1 <= n) {gf:Nat} {lb:Array Value} (hg:a.eval g=.func (.func gf) #[] lb) (hFg:F.fn gf) (eg:∀ args w,(callFunc gf args).run P w=.ok (.enter gf args) w)
 {encs:Nat->Array Value} {Lies:World->Prop} {N:Nat} (hseq:SeqAt F (n - 1) P gf lb encs Lies N) (hps:∀ k,k < N->(encs k).size=ps.size)
 (I:Nat->World->Prop) (hI:OwnFrom w.heap.size I) (hlies:∀ k W,I k W->Lies W) (h0:I 0 w)
 (Mid:Nat->Act->World->Prop) (hM:OwnFrom w.heap.size (fun (p:Nat × Act) W=>Mid p.1 p.2 W))
 (hassign:∀ (l k:Nat) (W:World),I k W->k < N ->
  assign.wpIn (F.inRound l) (n - 1 - 1) P (endsAt w.heap.size (Mid k) W) { tmps:=(ps.zip (encs k)).foldl (fun t (p,v)=>t.setIfInBounds p v) a.tmps,defers:=[] } W)
 (hbody:∀ (l k:Nat) (a1:Act) (W:World),Mid k a1 W->k < N->body.wpIn (F.inRound l) (n - 1 - 1) P (endsAt w.heap.size (fun _=>I (k+1)) W) a1 W)
 (hdone:∀ (D:Nat) (W:World),w.heap.size <= D->I N W->W.heap[D]?=some (.deferred (some []))->Q .normal { a with defers:={ target:=.collected D,args:=#[] } :: a.defers } W) :
 (Code.rangeFunc g ps assign body).wpIn F n P Q a w:=by
 refine wpIn_rangeFunc fun fn hfn=>?_
 rw [hro]
 let rec':LoopState->Option Code->Loop:=fun st pe=>{ state:=st,pending:=pe,fn,tmps:=a.tmps,params:=ps,assign,body,defers:=w.heap.size }
 obtain ⟨rec,hrec⟩:∃ r,r=rec':=⟨_,rfl⟩
 obtain ⟨W1,hW1⟩:∃ W1,(w.alloc (.deferred (some []))).alloc (.loop (rec .ready none))=W1:=⟨_,rfl⟩
 have hL1:W1.heap[w.heap.size+1]?=some (.loop (rec .ready none)):=by
  rw [<- hW1]
  have:=World.alloc_heap_new (w.alloc (.deferred (some []))) (.loop (rec .ready none))
  rwa [World.size_alloc] at this
 have hK1:W1.heap[w.heap.size]?=some (.deferred (some [])):=by
  rw [<- hW1]
  exact (Below.heap_alloc _ _ _ (by simp)).trans (World.alloc_heap_new w _)
 have hI1:I 0 W1:=by
  rw [<- hW1]
  exact hI.alloc _ (hI.alloc _ h0)
 refine ⟨w.heap.size+1,[{ target:=.collected w.heap.size,args:=#[] }],W1,{ target:=.fn (.func gf) lb,args:=#[.func (.yield (w.heap.size+1)) #[] #[]] },W1,gf,
  #[.func (.yield (w.heap.size+1)) #[] #[]] ++ lb,W1,?_,?_,?_,?_,fun _=>h1,?_⟩
 . rw [<- hW1,hrec];exact run_enterLoop_outer _ _ _ _ _
 . simp only [resolve,hg]
   simp [go_sem]
 . intro f' hf'
   simp [Target.leads] at hf'
   subst hf'
   exact hFg
 . simp [invoke,go_sem,eg]
 . refine (hseq (w.heap.size+1)
    (fun k W=>I k W /\ W.heap[w.heap.size+1]?=some (.loop (rec .ready none)) /\ W.heap[w.heap.size]?=some (.deferred (some [])))
    W1 (fun k W hh=>hlies k W hh.1) ?_ ⟨hI1,hL1,hK1⟩).mono ?_
   . rintro k W ⟨hi,hl,hk⟩ hlen
     have hy:=run_yield (P:=P) (args:=encs k) hl (by rw [hrec];exact hps k hlen)
     rw [hrec] at hy
     refine ⟨fn,_,assign,body,hy,roundIn_of_wpIn hfn (wpIn_mono (hassign (w.heap.size+1) k W hi hlen) ?_)⟩
     clear hy
     rintro e a2 W2 hp
     cases e with
     | normal =>
      obtain ⟨kp,hm⟩:=hp
      have hl0:=kp _ _ (by omega) hl rfl
      have hk0:=kp _ _ (Nat.le_refl _) hk rfl
      have hlt:w.heap.size+1 < W2.heap.size:=(Array.getElem?_eq_some_iff.1 hl0).1
      refine ⟨_,run_beginRound hl0 (by rw [hrec]),?_⟩
      have hl2:(W2.putObj (w.heap.size+1) (.loop { rec .ready none with state:=.busy })).heap[w.heap.size+1]?=some (.loop { rec .ready none with state:=.busy }):=World.putObj_heap_same hlt
      have hk2:(W2.putObj (w.heap.size+1) (.loop { rec .ready none with state:=.busy })).heap[w.heap.size]?=some (.deferred (some [])):=(World.putObj_heap_other (by omega)).trans hk0
      have hm2:Mid k a2 (W2.putObj (w.heap.size+1) (.loop { rec .ready none with state:=.busy })):=hM.putObj (s:=(k,a2)) _ hm (by omega) hl0 rfl
      refine wpIn_mono (hbody (w.heap.size+1) k a2 _ hm2 hlen) ?_
      rintro e a3 W3 hp
      cases e with
      | normal =>
       obtain ⟨hk3,hi3⟩:=hp
       have hl3:=hk3 _ _ (by omega) hl2 rfl
       have hr:=run_endRound (P:=P) none hl3
       have hl4:(W3.putObj (w.heap.size+1) (.loop (rec .ready none))).heap[w.heap.size+1]?=some (.loop (rec .ready none)):=World.putObj_heap_same (Array.getElem?_eq_some_iff.1 hl3).1
       have hk4:(W3.putObj (w.heap.size+1) (.loop (rec .ready none))).heap[w.heap.size]?=some (.deferred (some [])):=(World.putObj_heap_other (by omega)).trans (hk3 _ _ (Nat.le_refl _) hk2 rfl)
       refine ⟨_,_,hr,rfl,hI.putObj _ hi3 (by omega) hl3 rfl,?_,?_⟩
       . rw [hrec] at hl4 ⊢;exact hl4
       . rw [hrec] at hk4 ⊢;exact hk4
      | _=>exact hp.elim
     | _=>exact hp.elim
   . rintro e W2 ⟨⟨v,rfl⟩,hi,hl,hk⟩
     exact ⟨none,_,by have:=run_endLoop (P:=P) hl (by rw [hrec];simp [rec']);rw [hrec] at this;exact this,hdone _ _ (Nat.le_refl _) (hI.putObj _ hi (by omega) hl rfl) ((World.putObj_heap_other (by omega)).trans hk)⟩
end Go.Rq

namespace Go.Rq
open Go
def topOf:List Nat->Nat
 | []=>0
 | i :: t=>Nat.max (i+1) (topOf t)
theorem topOf_lt:∀ {l:List Nat} {i:Nat},i ∈ l->i < topOf l
 | j :: t,i,h=>by
  simp only [topOf]
  rcases List.mem_cons.1 h with rfl | h
  . exact Nat.lt_of_lt_of_le (Nat.lt_succ_self _) (Nat.le_max_left _ _)
  . exact Nat.lt_of_lt_of_le (topOf_lt h) (Nat.le_max_right _ _)
def viewH (h:AH):List Nat->Option AH
 | []=>some []
 | i :: t=>match AH.get h i with
  | none=>none
  | some B=>match viewH h t with
   | none=>none
   | some l=>bif allLt 0 B.cs then some ((i,some ⟨false,B.ty,B.cs⟩) :: l) else none
theorem viewH_get {h:AH}:∀ {ids:List Nat} {l:AH},viewH h ids=some l->∀ id B,l.get id=some B ->
 id ∈ ids /\ ∃ B0,h.get id=some B0 /\ B=⟨false,B0.ty,B0.cs⟩ /\ allLt 0 B0.cs=true
 | [],l,e,id,B,g=>by simp [viewH] at e;subst e;simp [AH.get] at g
 | i :: t,l,e,id,B,g=>by
  simp only [viewH] at e
  split at e
  . cases e
  . rename_i B0 hB0
    split at e
    . cases e
    . rename_i l' hl'
      cases hc:allLt 0 B0.cs with
      | false=>rw [hc] at e;simp at e
      | true =>
       rw [hc] at e;simp at e;subst e
       rw [AH.get_cons] at g
       split at g
       . rename_i e;subst e;simp at g;subst g;exact ⟨by simp,B0,hB0,rfl,hc⟩
       . obtain ⟨h1,h2⟩:=viewH_get hl' id B g
         exact ⟨by simp [h1],h2⟩
theorem viewH_congr {h h':AH}:∀ {ids:List Nat} {l:AH},(∀ i ∈ ids,∀ B,h.get i=some B->h'.get i=some B)->viewH h ids=some l->viewH h' ids=some l
 | [],l,_,e=>e
 | i :: t,l,k,e=>by
  simp only [viewH] at e ⊢
  split at e
  . cases e
  . rename_i B0 hB0
    split at e
    . cases e
    . rename_i l' hl'
      rw [k i (by simp) B0 hB0,viewH_congr (fun j hj=>k j (by simp [hj])) hl']
      exact e
theorem viewH_ok {F:Fr} {ρ:Ren} {h:AH} {w:World} (r:RW F ρ h w) {ids:List Nat} {l:AH} {n:Nat} (hv:viewH h ids=some l) (hn:∀ i ∈ ids,i < n) :
 RW (frameOf w) (ρ.cut n) l w:=by
 refine ⟨fun id B hB=>?_,fun id id' B B' b hB hB' hw=>?_,fun _ _ h=>h,rfl,rfl,rfl,r.gw⟩
 . obtain ⟨hi,B0,h1,rfl,h2⟩:=viewH_get hv id B hB
   obtain ⟨b,o,h3,h4,h5,h8⟩:=r.blk id B0 h1
   refine ⟨b,_,by rw [Ren.cut_lt (hn id hi)];exact h3,h4,h5.keep rfl (fun h=>by cases h) rfl rfl (fun a ha x hx=>?_),(fun h=>by cases h),h8.2⟩
   exact (hx.lt (n:=0) (allLt_spec h2 a ha)).mono (fun j c hj=>absurd (Ren.cut_some hj).1 (by omega))
 . obtain ⟨_,B0,_,rfl,_⟩:=viewH_get hv id B hB
   cases hw
theorem Rvs.ids_ne {ρ:Ren} {z:Nat} (hz:ρ z=none):∀ {as:List AV} {xs:List Value},Rvs ρ as xs->∀ i ∈ idsOf as,i ≠ z
 | [],xs,_,i,hi=>by simp [idsOf] at hi
 | a :: t,xs,h,i,hi=>by
  obtain ⟨x,ys,rfl,hx,ht⟩:=h.uncons
  simp only [idsOf] at hi
  split at hi
  . cases hx with
    | ptr hb =>
     rcases List.mem_cons.1 hi with rfl | hi
     . intro e;subst e;rw [hz] at hb;cases hb
     . exact ht.ids_ne hz i hi
  . cases hx with
    | slc hb =>
     rcases List.mem_cons.1 hi with rfl | hi
     . intro e;subst e;rw [hz] at hb;cases hb
     . exact ht.ids_ne hz i hi
  . cases hx with
    | own hb _ _ _ =>
     rcases List.mem_cons.1 hi with rfl | hi
     . intro e;subst e;rw [hz] at hb;cases hb
     . exact ht.ids_ne hz i hi
    | ownE hb _ =>
     rcases List.mem_cons.1 hi with rfl | hi
     . intro e;subst e;rw [hz] at hb;cases hb
     . exact ht.ids_ne hz i hi
  . exact ht.ids_ne hz i hi
theorem Rvs.lt_all {ρ:Ren} {n:Nat}:∀ {as:List AV} {xs:List Value},Rvs ρ as xs->allLt n as=true->Rvs (ρ.cut n) as xs
 | [],xs,h,_=>by rw [h.unnil];exact .nil
 | a :: t,xs,h,e=>by
  obtain ⟨x,ys,rfl,hx,ht⟩:=h.uncons
  simp only [allLt,Bool.and_eq_true] at e
  exact .cons (hx.lt e.1) (ht.lt_all e.2)
abbrev HeapTab:=List (FuncId × (List AV->AH->Option (Bool × AV × AH)))
def lookHT:HeapTab->FuncId->Option (List AV->AH->Option (Bool × AV × AH))
 | [],_=>none
 | (f,g) :: t,k=>bif Nat.beq f k then some g else lookHT t k
theorem lookHT_mem:∀ {ps:HeapTab} {f:FuncId} {g},lookHT ps f=some g->(f,g) ∈ ps
 | [],f,g,h=>by simp [lookHT] at h
 | (k,q) :: t,f,g,h=>by
  simp only [lookHT] at h
  cases hb:Nat.beq k f with
  | true=>rw [hb] at h;simp at h;subst h;rw [Nat.eq_of_beq_eq_true hb];simp
  | false=>rw [hb] at h;exact List.mem_cons_of_mem _ (lookHT_mem h)
def TabHOk (P:Program) (ps:HeapTab):Prop:=∀ p ∈ ps,Enters P p.1 /\ HeapOk P p.1 p.2
theorem TabHOk.nil {P:Program}:TabHOk P []:=fun p h=>by simp at h
theorem TabHOk.cons {P:Program} {f:FuncId} {g:List AV->AH->Option (Bool × AV × AH)} {t:HeapTab} (h1:Enters P f) (h:HeapOk P f g) (r:TabHOk P t):TabHOk P ((f,g) :: t):=by
 intro p hp
 rcases List.mem_cons.1 hp with rfl | hp
 . exact ⟨h1,h⟩
 . exact r p hp
def envS (eqs:List (TypeId × List Nat)) (ps:PureTab) (hs:HeapTab) (ss:List TypeId):Env:=⟨lookP ps,lookHT hs,lookE eqs,false,true,ss,[],fun _=>none,none,fun _=>none,false,[],1⟩
def envH (eqs:List (TypeId × List Nat)) (ps:PureTab) (hs:HeapTab):Env:=envS eqs ps hs []
theorem envH_ok {P:Program} {eqs:List (TypeId × List Nat)} {ps:PureTab} {hs:HeapTab} (he:EqsOk P eqs) (hp:TabPOk P ps) (hh:TabHOk P hs):EnvOk P (envH eqs ps hs) :=
 ⟨fun _ _ h=>he _ (lookE_mem h),fun _ _ h=>hp _ (lookP_mem h),fun _ _ h=>hh _ (lookHT_mem h),(fun _ _ h=>by cases h),(fun _ _ h=>by cases h),Nat.le_refl 1⟩
def subs (a b:W6):W6 × Bool :=
 let d0:=sub64 a.w0 b.w0 false
 let d1:=sub64 a.w1 b.w1 d0.2
 let d2:=sub64 a.w2 b.w2 d1.2
 let d3:=sub64 a.w3 b.w3 d2.2
 let d4:=sub64 a.w4 b.w4 d3.2
 let d5:=sub64 a.w5 b.w5 d4.2
 (⟨d0.1,d1.1,d2.1,d3.1,d4.1,d5.1⟩,d5.2)
def adds (a b:W6):W6 × Bool :=
 let d0:=add64 a.w0 b.w0 false
 let d1:=add64 a.w1 b.w1 d0.2
 let d2:=add64 a.w2 b.w2 d1.2
 let d3:=add64 a.w3 b.w3 d2.2
 let d4:=add64 a.w4 b.w4 d3.2
 let d5:=add64 a.w5 b.w5 d4.2
 (⟨d0.1,d1.1,d2.1,d3.1,d4.1,d5.1⟩,d5.2)
def mul64 (x y:BitVec 64):BitVec 64 × BitVec 64:=(BitVec.ofNat 64 (x.toNat*y.toNat / 2 ^ 64),x*y)
def mulGo (x y:BitVec 64):BitVec 64 × BitVec 64 :=
 let x0:=x &&& 4294967295#64
 let x1:=x >>> 32
 let y0:=y &&& 4294967295#64
 let y1:=y >>> 32
 let w0:=x0*y0
 let t:=x1*y0+w0 >>> 32
 let w1:=(t &&& 4294967295#64)+x0*y1
 let w2:=t >>> 32
 (x1*y1+w2+w1 >>> 32,x*y)
theorem mask32 (x:BitVec 64):(x &&& 4294967295#64).toNat=x.toNat % 4294967296:=by
 rw [BitVec.toNat_and]
 exact Nat.and_two_pow_sub_one_eq_mod x.toNat 32
theorem high32 (x:BitVec 64):(x >>> 32).toNat=x.toNat / 4294967296:=by
 rw [BitVec.toNat_ushiftRight,Nat.shiftRight_eq_div_pow]
theorem halves_hi (x0 x1 y0 y1:Nat) (hx0:x0 < 4294967296) (hx1:x1 < 4294967296) (hy0:y0 < 4294967296) (hy1:y1 < 4294967296) :
 (x1*y1+(x1*y0+x0*y0 / 4294967296) / 4294967296+((x1*y0+x0*y0 / 4294967296) % 4294967296+x0*y1) / 4294967296)=(x1*4294967296+x0)*(y1*4294967296+y0) / 18446744073709551616 /\
 x1*y0+x0*y0 / 4294967296 < 18446744073709551616 /\ (x1*y0+x0*y0 / 4294967296) % 4294967296+x0*y1 < 18446744073709551616 /\ x0*y0 < 18446744073709551616 /\ x1*y1 < 18446744073709551616 /\ x1*y0 < 18446744073709551616 /\ x0*y1 < 18446744073709551616 /\
 (x1*4294967296+x0)*(y1*4294967296+y0) / 18446744073709551616 < 18446744073709551616:=by
 have b:∀ a b:Nat,a < 4294967296->b < 4294967296->a*b <= 4294967295*4294967295:=fun a b h1 h2=>Nat.mul_le_mul (by omega) (by omega)
 have e:(x1*4294967296+x0)*(y1*4294967296+y0)=(x1*y1)*18446744073709551616+(x1*y0+x0*y1)*4294967296+x0*y0:=by
  simp only [Nat.add_mul,Nat.mul_add]
  rw [show x1*4294967296*(y1*4294967296)=x1*y1*18446744073709551616 by
   rw [show (18446744073709551616:Nat)=4294967296*4294967296 from rfl,Nat.mul_mul_mul_comm]]
  rw [Nat.mul_right_comm x1 4294967296 y0,show x0*(y1*4294967296)=x0*y1*4294967296 from (Nat.mul_assoc _ _ _).symm]
  omega
 rw [e]
 have b00:=b x0 y0 hx0 hy0
 have b10:=b x1 y0 hx1 hy0
 have b01:=b x0 y1 hx0 hy1
 have b11:=b x1 y1 hx1 hy1
 generalize x0*y0=p00 at *
 generalize x1*y0=p10 at *
 generalize x0*y1=p01 at *
 generalize x1*y1=p11 at *
 refine ⟨?_,?_,?_,?_,?_,?_,?_,?_⟩ <;> omega
theorem mulGo_eq (x y:BitVec 64):mulGo x y=mul64 x y:=by
 have hx:x.toNat < 18446744073709551616:=x.isLt
 have hy:y.toNat < 18446744073709551616:=y.isLt
 have m0:∀ n:Nat,n % 4294967296 < 4294967296:=fun n=>Nat.mod_lt n (Nat.zero_lt_succ _)
 have d0:∀ n:Nat,n < 18446744073709551616->n / 4294967296 < 4294967296:=fun n h=>Nat.div_lt_of_lt_mul h
 obtain ⟨h1,h2,h3,h4,h5,h6,h7,h8⟩:=halves_hi (x.toNat % 4294967296) (x.toNat / 4294967296) (y.toNat % 4294967296) (y.toNat / 4294967296) (m0 _) (d0 _ hx) (m0 _) (d0 _ hy)
 have ex:x.toNat / 4294967296*4294967296+x.toNat % 4294967296=x.toNat:=Nat.div_add_mod' _ _
 have ey:y.toNat / 4294967296*4294967296+y.toNat % 4294967296=y.toNat:=Nat.div_add_mod' _ _
 rw [ex,ey] at h1 h8
 unfold mulGo mul64
 refine Prod.ext ?_ rfl
 apply BitVec.eq_of_toNat_eq
 have e64:(2:Nat) ^ 64=18446744073709551616:=rfl
 simp only [BitVec.toNat_add,BitVec.toNat_mul,mask32,high32,BitVec.toNat_ofNat,e64]
 rw [<- h1]
 rw [<- h1] at h8
 revert h2 h3 h4 h5 h6 h7 h8
 generalize x.toNat / 4294967296*(y.toNat / 4294967296)=p11
 generalize x.toNat / 4294967296*(y.toNat % 4294967296)=p10
 generalize x.toNat % 4294967296*(y.toNat / 4294967296)=p01
 generalize x.toNat % 4294967296*(y.toNat % 4294967296)=p00
 intro h2 h3 h4 h5 h6 h7 h8
 rw [Nat.mod_eq_of_lt h5,Nat.mod_eq_of_lt h4,Nat.mod_eq_of_lt h6,Nat.mod_eq_of_lt h7,Nat.mod_eq_of_lt h2,Nat.mod_eq_of_lt h3]
 omega
def primeW:W6:=⟨0xb9feffffffffaaab#64,0x1eabfffeb153ffff#64,0x6730d2a0f6b0f624#64,0x64774b84f38512bf#64,0x4b1ba7b6434bacd7#64,0x1a0111ea397fe69a#64⟩
def oneW:W6:=⟨0x760900000002fffd#64,0xebf4000bc40c0002#64,0x5f48985753c758ba#64,0x77ce585370525745#64,0x5c071a97a256ec6d#64,0x15f65ec3fa80e493#64⟩
def wideW:W6:=⟨0xf4df1f341c341746#64,0x0a76e6a609d104f1#64,0x8de5476c4c95b6d5#64,0x67eb88a9939d83c0#64,0x9a793e85b519952d#64,0x11988fe592cae3aa#64⟩
def orderW:W6:=⟨0xffffffff00000001#64,0x53bda402fffe5bfe#64,0x3339d80809a1d805#64,0x73eda753299d7d48#64,0#64,0#64⟩
def zeroW:W6:=⟨0#64,0#64,0#64,0#64,0#64,0#64⟩
def lessW (a:W6):W6:=bif (subs a primeW).2 then a else (subs a primeW).1
def mac (x a t c:BitVec 64):BitVec 64 × BitVec 64 :=
 let p:=mul64 x a
 let s:=add64 p.2 t false
 let h:=p.1+bitW s.2
 let r:=add64 s.1 c false
 (r.1,h+bitW r.2)
structure W7 where
 l:W6
 w6:BitVec 64
def mulRound (a:W6) (x:BitVec 64) (t:W7):W7 :=
 let r0:=mac x a.w0 t.l.w0 (bitW false)
 let r1:=mac x a.w1 t.l.w1 r0.2
 let r2:=mac x a.w2 t.l.w2 r1.2
 let r3:=mac x a.w3 t.l.w3 r2.2
 let r4:=mac x a.w4 t.l.w4 r3.2
 let r5:=mac x a.w5 t.l.w5 r4.2
 let t6:=t.w6+r5.2
 let q:=r0.1*9940570264628428797#64
 let m:=mul64 q primeW.w0
 let s0:=add64 m.2 r0.1 false
 let c:=m.1+bitW s0.2
 let s1:=mac q primeW.w1 r1.1 c
 let s2:=mac q primeW.w2 r2.1 s1.2
 let s3:=mac q primeW.w3 r3.1 s2.2
 let s4:=mac q primeW.w4 r4.1 s3.2
 let s5:=mac q primeW.w5 r5.1 s4.2
 let s6:=add64 t6 s5.2 false
 ⟨⟨s1.1,s2.1,s3.1,s4.1,s5.1,s6.1⟩,bitW s6.2⟩
def zero7:W7:=⟨⟨0,0,0,0,0,0⟩,0⟩
def mulRaw (a b:W6):W7:=mulRound a b.w5 (mulRound a b.w4 (mulRound a b.w3 (mulRound a b.w2 (mulRound a b.w1 (mulRound a b.w0 zero7)))))
def mulW (a b:W6):W6:=lessW (mulRaw a b).l
def addW (a b:W6):W6:=lessW (adds a b).1
def subW (a b:W6):W6:=bif (subs a b).2 then (adds (subs a b).1 primeW).1 else (subs a b).1
def negW (a:W6):W6:=subW zeroW a
def toW (a:W6):W6:=mulW wideW a
def fromW (a:W6):W6:=mulW a ⟨1#64,0#64,0#64,0#64,0#64,0#64⟩
def W6.get (x:W6) (i:Nat):BitVec 64:=[x.w0,x.w1,x.w2,x.w3,x.w4,x.w5].getD i 0#64
def W6.bit (x:W6) (i:Nat):Bool:=((x.get (i / 64) >>> (i % 64)) &&& 1#64) == 1#64
def powG (M:W6->W6->W6) (a e:W6):Nat->W6->W6
 | 0,out=>out
 | k+1,out=>powG M a e k (bif e.bit k then M (M out out) a else M out out)
def pow384 (a e:W6):W6:=powG mulW a e 384 oneW
def expInv:W6:=⟨0xb9feffffffffaaa9#64,0x1eabfffeb153ffff#64,0x6730d2a0f6b0f624#64,0x64774b84f38512bf#64,0x4b1ba7b6434bacd7#64,0x1a0111ea397fe69a#64⟩
def invW (a:W6):W6:=pow384 a expInv
structure D6 where
 a:W6
 b:W6
 deriving DecidableEq
structure FO (K:Type) where
 add:K->K->K
 sub:K->K->K
 mul:K->K->K
 neg:K->K
 inv:K->K
 to:K->K
 back:K->K
 one:K
 zero:K
def fW:FO W6:=⟨addW,subW,mulW,negW,invW,toW,fromW,oneW,zeroW⟩
section
variable (o:FO W6)
end
def blkAll (id:Nat):Code->List Code
 | .seq a b=>blkAll id a ++ blkAll id b
 | .cond _ a b=>blkAll id a ++ blkAll id b
 | .block i c=>bif Nat.beq i id then c :: blkAll id c else blkAll id c
 | .loop c=>blkAll id c
 | _=>[]
theorem tabOk_of {P:Program} {m:Nat} {tab:BTab}:∀ {c:Code},(∀ id b,tab id=some b->m <= b.n /\ ∀ q ∈ blkAll id c,∀ F ds K,b.post.holds (fun r=>K r.1 r.2)->Tri P F ds m (.block id q) b.pre K)->TabOk P m tab c:=by
 intro c
 induction c with
 | seq a b ha hb =>
  intro h
  exact ⟨ha fun id e he=>⟨(h id e he).1,fun q hq=>(h id e he).2 q (List.mem_append_left _ hq)⟩,hb fun id e he=>⟨(h id e he).1,fun q hq=>(h id e he).2 q (List.mem_append_right _ hq)⟩⟩
 | cond c a b ha hb =>
  intro h
  exact ⟨ha fun id e he=>⟨(h id e he).1,fun q hq=>(h id e he).2 q (List.mem_append_left _ hq)⟩,hb fun id e he=>⟨(h id e he).1,fun q hq=>(h id e he).2 q (List.mem_append_right _ hq)⟩⟩
 | block i c ih =>
  intro h
  simp only [TabOk]
  split
  . rename_i b hb
    refine ⟨(h i b hb).1,fun F ds K hk=>(h i b hb).2 c ?_ F ds K hk⟩
    simp [blkAll,Nat.beq_refl]
  . refine ih fun id e he=>⟨(h id e he).1,fun q hq=>(h id e he).2 q ?_⟩
    simp only [blkAll]
    cases Nat.beq i id with
    | true=>exact List.mem_cons_of_mem _ hq
    | false=>exact hq
 | loop c ih=>intro h;exact ih h
 | _=>intro _;trivial
theorem tabOk_one {P:Program} {m id:Nat} {b:BEnt} {c q:Code} (hn:m <= b.n) (hc:blkAll id c=[q]) (h:∀ F ds K,b.post.holds (fun r=>K r.1 r.2)->Tri P F ds m (.block id q) b.pre K):TabOk P m (tabOf [(id,b)]) c:=by
 refine tabOk_of fun i e he=>?_
 simp only [tabOf] at he
 cases hb:Nat.beq id i with
 | true =>
  rw [hb] at he
  simp at he;subst he
  obtain rfl:=Nat.eq_of_beq_eq_true hb
  refine ⟨hn,fun q' hq=>?_⟩
  rw [hc] at hq
  simp at hq;subst hq
  exact h
 | false=>rw [hb] at he;simp at he
structure GivesX (P:Program) (f:Nat) (as:List AV) (v:Value):Prop where
 out:∃ E sym tab lf,Ctx P E sym tab lf f /\ (afunR P E sym tab lf f as).holds (fun q=>flat q=some v)
theorem GivesX.of {P:Program} {E:Env} {sym:List Tmp} {tab:BTab} {lf f:Nat} {as:List AV} {v:Value} (X:Ctx P E sym tab lf f) (h:Gives (afunR P E sym tab lf f as) v):GivesX P f as v:=⟨E,sym,tab,lf,X,h.out⟩
theorem pure_coreX {P:Program} {f:Nat} {g:List AV->Option (Bool × AV)}
 (h:∀ as r,g as=some (true,r)->∃ as' l,(∀ (ρ:Ren) (xs:List Value),Rvs ρ as xs->xs=l) /\ flatL as'=some l /\ ∃ y,flat r=some y /\ GivesX P f as' y):PureOk P f g:=by
 intro ρ as xs r hg hx w hgw
 obtain ⟨as',l,h1,h2,y,h3,E,sym,tab,lf,X,h4⟩:=h as r hg
 obtain ⟨fn,c,hf,hb,hok,htab⟩:=X.body
 have hxl:=h1 ρ xs hx
 subst hxl
 have:=afun_calls X.env X.mixed hf hb hok htab (K:=fun q _=>flat q=some y) (Tree.holds_bind h4) (F:=frameOf w) (ρ:=Ren.empty) (xs:=xs) (w:=w) (Rvs.of_flatL h2) (RW.init w _ hgw) (fun _ _=>rfl)
 refine Calls.mono this ?_
 rintro e w' ⟨v,q,h',ρ',rfl,hk,hrv,hrw,_⟩
 have:=hrv.flat_eq hk
 subst this
 exact ⟨v,rfl,.of_flat h3,hrw.to_below⟩
theorem sameVal {β:Type} {B:Cod β} {y:β} {x:XS} {t:Tree AV} (h:t.strict=.same x x (.leaf (B.enc y))):Gives t (B.val y) :=
 ⟨Tree.holds_strict (by rw [h];exact ⟨rfl,B.h1 y⟩)⟩
section
variable {P:Program} {f:Nat} {α β γ δ:Type} {A:Cod α} {B:Cod β} {C:Cod γ} {D:Cod δ}
theorem pure2X {F:α->γ->β} (h:∀ x y,GivesX P f [A.enc x,C.enc y] (B.val (F x y))):PureOk P f (fn2 A C B F):=by
 refine pure_coreX fun as r hg=>?_
 unfold fn2 at hg
 split at hg
 . rename_i a c
   split at hg
   . rename_i x y hx hy
     simp at hg;subst hg
     refine ⟨[A.enc x,C.enc y],[A.val x,C.val y],fun ρ xs hxs=>?_,by simp [flatL,A.h1,C.h1],_,B.h1 _,h x y⟩
     obtain ⟨v,ys,rfl,h1,h2⟩:=hxs.uncons
     obtain ⟨u,zs,rfl,h3,h4⟩:=h2.uncons
     rw [h4.unnil,A.h2 ρ _ _ _ hx h1,C.h2 ρ _ _ _ hy h3]
   . cases hg
 . cases hg
end
theorem ext2 {P:Program} {f:FuncId} {fn:Func} (hf:P.funcs.toList[f]?=some fn) (h1:(fn.name == "runtime.NumGoroutine")=false) (h2:fn.body.isNone=true) (h3:(Extern.findNext fn).isNone=true)
 {r:Array Value->Sem Value} (h4:Extern.find fn=some r) {α β γ:Type} {A:Cod α} {B:Cod β} {C:Cod γ} {F:α->γ->β}
 (h:∀ x y w,(r #[A.val x,C.val y]).run P w=.ok (B.val (F x y)) w):ExtOk P f (fn2 A C B F):=by
 intro ρ as xs q hg hx w
 unfold fn2 at hg
 split at hg
 . rename_i a c
   split at hg
   . rename_i x y hx' hy
     simp at hg;subst hg
     obtain ⟨v,ys,rfl,h1',h2'⟩:=hx.uncons
     obtain ⟨u,zs,rfl,h3',h4'⟩:=h2'.uncons
     rw [h4'.unnil,A.h2 ρ _ _ _ hx' h1',C.h2 ρ _ _ _ hy h3']
     refine ⟨B.val (F x y),?_,.of_flat (B.h1 _)⟩
     have hf':P.funcs[f]?=some fn:=by simpa using hf
     have hnext:Extern.findNext fn=none:=by simpa using h3
     have hr:=h x y w
     simp only [callFunc,Sem.run_bind,run_program,Result.andThen_ok,hf',h1,h2,hnext,h4,Sem.run_ite]
     simp only [hr,Bool.false_eq_true,if_false,if_true,run_mark,Result.andThen_ok,Sem.run_pure]
   . cases hg
 . cases hg
def strOf:AV->Option ByteArray
 | .v (.string s)=>some s
 | _=>none
def kStr:Cod ByteArray where
 enc s:=.v (.string s)
 dec a:=strOf a
 val s:=.string s
 h1 _:=rfl
 h2 ρ a v x h r:=by
  unfold strOf at h
  split at h
  . simp at h;subst h;cases r;rfl
  . cases h
def idxByte (s:ByteArray) (b:Int):Int:=match (List.range s.size).find? (fun i=>s[i]! == b.toNat.toUInt8) with
 | some i=>(i:Int)
 | none=>-1
theorem idxByte_run {P:Program} (s:ByteArray) (b:Int) (w:World):(Extern.BytealgIndexByte.indexByte #[kStr.val s,(kInt .u8).val b]).run P w=.ok ((kInt .i64).val (idxByte s b)) w:=by
 have e:Extern.BytealgIndexByte.indexByte #[kStr.val s,(kInt .u8).val b]=(do
  let x <- Extern.Bytes.bytesOf (.string s)
  let c <- Extern.Bytes.asByte (.int .u8 b)
  match (List.range x.size).find? fun i=>x[i]! == c with
  | some i=>pure (goInt i)
  | none=>pure (goInt (-1)):Sem Value):=rfl
 rw [e]
 simp only [kInt,Extern.Bytes.bytesOf,Extern.Bytes.asByte,Sem.run_bind,Sem.run_pure,Result.andThen_ok,idxByte]
 cases (List.range s.size).find? (fun i=>s[i]! == b.toNat.toUInt8) with
 | none=>simp [Sem.run_pure,goInt]
 | some i=>simp [Sem.run_pure,goInt]
theorem treeVal {β:Type} {B:Cod β} {y:β} {t u:Tree AV} (h:t.strict=u) (hu:u.holds (fun q=>q=B.enc y)):Gives t (B.val y) :=
 ⟨Tree.holds_strict (by rw [h];exact Tree.holds_mono (fun a ha=>by rw [ha];exact B.h1 y) hu)⟩
def chain {β:Type} (B:Cod β):List (Bool × β)->β->Tree AV
 | [],y=>.leaf (B.enc y)
 | (c,x) :: t,y=>.br c (.leaf (B.enc x)) (chain B t y)
def chainV {β:Type}:List (Bool × β)->β->β
 | [],y=>y
 | (c,x) :: t,y=>bif c then x else chainV t y
theorem chain_holds {β:Type} (B:Cod β):∀ (l:List (Bool × β)) (y:β),(chain B l y).holds (fun q=>q=B.enc (chainV l y))
 | [],_=>rfl
 | (c,x) :: t,y=>⟨fun h=>by simp only [chainV,h,cond_true];rfl,fun h=>by simp only [chainV,h,cond_false];exact chain_holds B t y⟩
theorem chainVal {β:Type} {B:Cod β} {l:List (Bool × β)} {y:β} {t:Tree AV} (h:t.strict=chain B l y):Gives t (B.val (chainV l y)):=treeVal h (chain_holds B l y)
end Go.Rq
