import Derived.Test.YtedplhdabefnkaaGreatDoorRq04
namespace Go.Rq
open Go
theorem CallOk.weaken {P:Program} {f:FuncId} {g g':List AV->Option (Bool × AV)} (h:∀ as r,g' as=some (true,r)->g as=some (true,r)) (k:CallOk P f g):CallOk P f g':=by
 rcases k with ⟨h1,h2⟩ | h2
 . exact .inl ⟨h1,fun ρ as xs r hg hx w=>h2 ρ as xs r (h _ _ hg) hx w⟩
 . exact .inr fun ρ as xs r hg hx w=>h2 ρ as xs r (h _ _ hg) hx w
def lookT {α β:Type} (e:α->α->Bool):List (α × β)->α->Option β
 | [],_=>none
 | p :: t,x=>match e p.1 x with
  | true=>some p.2
  | false=>lookT e t x
theorem lookT_mem {α β:Type} {e:α->α->Bool} (he:∀ x y,e x y=true->x=y):∀ {tab:List (α × β)} {x:α} {y:β},lookT e tab x=some y->(x,y) ∈ tab
 | [],x,y,h=>by simp [lookT] at h
 | p :: t,x,y,h=>by
  simp only [lookT] at h
  split at h
  . rename_i hp;simp at h;subst h;rw [<- he _ _ hp];simp
  . exact List.mem_cons_of_mem _ (lookT_mem he h)
def fnT1 {α β:Type} (A:Cod α) (B:Cod β) (e:α->α->Bool) (tab:List (α × β)):List AV->Option (Bool × AV)
 | [a]=>match A.dec a with
  | none=>none
  | some x=>match lookT e tab x with
   | none=>none
   | some y=>some (true,B.enc y)
 | _=>none
def pairB {α γ:Type} (e:α->α->Bool) (e':γ->γ->Bool) (p q:α × γ):Bool:=bif e p.1 q.1 then e' p.2 q.2 else false
theorem pairB_eq {α γ:Type} {e:α->α->Bool} (he:∀ x y,e x y=true->x=y) {e':γ->γ->Bool} (he':∀ x y,e' x y=true->x=y) (p q:α × γ) (h:pairB e e' p q=true):p=q:=by
 unfold pairB at h
 cases h1:e p.1 q.1 with
 | false=>rw [h1] at h;cases h
 | true=>rw [h1] at h;exact Prod.ext (he _ _ h1) (he' _ _ h)
def fnT2 {α β γ:Type} (A:Cod α) (C:Cod γ) (B:Cod β) (e:α->α->Bool) (e':γ->γ->Bool) (tab:List ((α × γ) × β)):List AV->Option (Bool × AV)
 | [a,c]=>match A.dec a,C.dec c with
  | some x,some z=>match lookT (pairB e e') tab (x,z) with
   | none=>none
   | some y=>some (true,B.enc y)
  | _,_=>none
 | _=>none
theorem callT2 {P:Program} {f:FuncId} {α β γ:Type} {A:Cod α} {B:Cod β} {C:Cod γ} {F:α->γ->β} {e:α->α->Bool} (he:∀ x y,e x y=true->x=y) {e':γ->γ->Bool} (he':∀ x y,e' x y=true->x=y)
 {tab:List ((α × γ) × β)} (ht:∀ p ∈ tab,F p.1.1 p.1.2=p.2) (h:CallOk P f (fn2 A C B F)):CallOk P f (fnT2 A C B e e' tab):=by
 refine h.weaken fun as r hg=>?_
 unfold fnT2 at hg
 split at hg
 . split at hg
   . rename_i x z hx hz
     split at hg
     . cases hg
     . rename_i y hy
       simp at hg;subst hg
       have hm:=lookT_mem (pairB_eq he he') hy
       simp [fn2,hx,hz,ht _ hm]
   . cases hg
 . cases hg
theorem tabT1 {P:Program} {E:Env} {sym:List Tmp} {tab:BTab} {lf f:Nat} (X:Ctx P E sym tab lf f) {α β:Type} {A:Cod α} {B:Cod β} {e:α->α->Bool} (he:∀ x y,e x y=true->x=y) {l:List (α × β)}
 (h:∀ p ∈ l,Gives (afunR P E sym tab lf f [A.enc p.1]) (B.val p.2)):PureOk P f (fnT1 A B e l):=by
 refine pure_core X fun as r hg=>?_
 unfold fnT1 at hg
 split at hg
 . rename_i a
   split at hg
   . cases hg
   . rename_i x hx
     split at hg
     . cases hg
     . rename_i y hy
       simp at hg;subst hg
       refine ⟨[A.enc x],[A.val x],fun ρ xs hxs=>?_,by simp [flatL,A.h1],_,B.h1 _,(h _ (lookT_mem he hy)).out⟩
       obtain ⟨v,ys,rfl,h1,h2⟩:=hxs.uncons
       rw [h2.unnil,A.h2 ρ _ _ _ hx h1]
 . cases hg
inductive SlA where
 | slc (n:Nat)
 | own (es n:Nat)
def SlA.at (s:SlA) (id:Nat):AV:=match s with
 | .slc n=>.slc id 0 n n
 | .own es n=>.own id es 0 n
def SlA.name (s:SlA):AV->Option Nat
 | .slc i 0 n m=>match s with
  | .slc k=>bif Nat.beq n k && Nat.beq m k then some i else none
  | _=>none
 | .own i es 0 n=>match s with
  | .own es' k=>bif Nat.beq es es' && Nat.beq n k then some i else none
  | _=>none
 | _=>none
theorem bcond {α:Type} {b:Bool} {x:Option α} {y:α} (h:(bif b then x else none)=some y):b=true /\ x=some y:=by
 cases b with
 | true=>exact ⟨rfl,h⟩
 | false=>cases h
theorem SlA.name_eq {s:SlA} {a:AV} {i:Nat} (h:s.name a=some i):a=s.at i:=by
 unfold SlA.name at h
 split at h
 . split at h
   . obtain ⟨h1,h2⟩:=bcond h
     simp only [Bool.and_eq_true,Option.some.injEq] at h1 h2
     obtain ⟨e1,e2⟩:=h1
     have e1:=Nat.eq_of_beq_eq_true e1
     have e2:=Nat.eq_of_beq_eq_true e2
     subst e1;subst e2;subst h2;rfl
   . cases h
 . split at h
   . obtain ⟨h1,h2⟩:=bcond h
     simp only [Bool.and_eq_true,Option.some.injEq] at h1 h2
     obtain ⟨e1,e2⟩:=h1
     have e1:=Nat.eq_of_beq_eq_true e1
     have e2:=Nat.eq_of_beq_eq_true e2
     subst e1;subst e2;subst h2;rfl
   . cases h
 . cases h
theorem SlA.moved {ρ σ:Ren} {s:SlA} {i j:Nat} {x:Value} (h:Rv ρ (s.at i) x):∃ b,ρ i=some b /\ (σ j=some b->σ.cells j=ρ.cells i->σ.base j=ρ.base i->Rv σ (s.at j) x):=by
 cases s with
 | slc n =>
  simp only [SlA.at] at h
  cases h with
  | slc hb=>exact ⟨_,hb,fun h _ k0=>by rw [<- k0];exact .slc h⟩
 | own es n =>
  simp only [SlA.at] at h
  cases h with
  | own hb h0 hc hl hm=>exact ⟨_,hb,fun h k k0=>.own h (k0.trans h0) (by rw [k];exact hc) hl hm⟩
  | ownE _ hk=>exact absurd hk (Nat.lt_irrefl 0)
def blkDec {α:Type} (C:CC α) (t:TypeId) (h:AH) (i:Nat):Option α :=
 match h.getC i with
 | none=>none
 | some B=>match Nat.beq B.ty t with
  | false=>none
  | true=>C.dec B.cs
def twoAH {α γ:Type} (A:CC α) (C:CC γ) (t1 t2:TypeId) (x:α) (y:γ):AH:=[(0,some ⟨false,t1,A.enc x⟩),(1,some ⟨false,t2,C.enc y⟩)]
theorem rvs_prefix {ρ:Ren}:∀ {cs:List AV} {xs:List Value},cs.length <= xs.length->(∀ (i:Nat) (a:AV) (x:Value),cs[i]?=some a->xs[i]?=some x->Rv ρ a x)->Rvs ρ cs (xs.take cs.length) :=
 fun hl h=>⟨by simp [hl],fun i a x ha hx=>by
  rw [List.getElem?_take] at hx
  split at hx
  . exact h i a x ha hx
  . cases hx⟩
theorem blk_again {α:Type} {F:Fr} {ρ:Ren} {h:AH} {w:World} (hw:RW F ρ h w) {C:CC α} {t:TypeId} {i:Nat} {x:α} (hd:blkDec C t h i=some x) :
 ∃ b xs fr,ρ i=some b /\ w.heap[b]?=some (.cells xs t fr) /\ xs.size=ρ.cells i /\ ρ.base i+(C.enc x).length <= xs.size /\ ∀ (σ:Ren) (j:Nat) (a:AV) (v:Value),(C.enc x)[j]?=some a->xs[ρ.base i+j]?=some v->Rv σ a v:=by
 unfold blkDec at hd
 split at hd
 . cases hd
 . rename_i B hB
   split at hd
   . cases hd
   . rename_i ht
     have ht:=Nat.eq_of_beq_eq_true ht
     obtain ⟨b,o,h1,h2,⟨xs,fr,rfl,h3,h4,h5⟩,h6,h7⟩:=hw.blkC hB
     have hr:=rvs_prefix (ρ:=ρ) (cs:=B.cs) (xs:=xs.toList.drop (ρ.base i)) (by simp;omega) (fun i a x ha hx=>h5 i a x ha (by simpa using hx))
     have hv:=C.h2 ρ _ _ _ hd hr
     have hlen:(C.enc x).length=B.cs.length:=by
      have:=(Rvs.of_flats (ρ:=ρ) (C.h1 x)).1
      rw [this,<- hv];exact hr.1.symm
     refine ⟨b,xs,fr,h1,by rw [<- ht];exact h2,by simpa [count] using h7,by omega,fun σ j a v ha hv'=>?_⟩
     have h8:=Rvs.of_flats (ρ:=σ) (C.h1 x)
     refine h8.2 j a v ha ?_
     rw [<- hv,List.getElem?_take,if_pos (by rw [<- hlen];exact (List.getElem?_eq_some_iff.1 ha).1)]
     simpa using hv'
structure GivesH (t:Tree (AV × AH)) (v:Value):Prop where
 out:t.holds (fun q=>flat q.1=some v)
def afunH (P:Program) (E:Env) (sym:List Tmp) (lf f:Nat) (as:List AV) (h:AH) (n:Nat):Tree AV:=(afun P E sym (fun _=>none) lf f as h n).bind fun q=>.leaf q.1
theorem givesH {P:Program} {E:Env} {sym:List Tmp} {lf f:Nat} {as:List AV} {h:AH} {n:Nat} {u:Tree AV} {v:Value} (e:(afunH P E sym lf f as h n).strict=u) (hu:u.holds (fun q=>flat q=some v)) :
 GivesH (afun P E sym (fun _=>none) lf f as h n) v:=⟨Tree.holds_bind (Tree.holds_strict (by rw [show ((afun P E sym (fun _=>none) lf f as h n).bind fun q=>Tree.leaf q.1).strict=u from e];exact hu))⟩
def sl2 {α β γ:Type} (s1 s2:SlA) (t1 t2:TypeId) (A:CC α) (C:CC γ) (B:Cod β) (F:α->γ->β):List AV->AH->Option (Bool × AV × AH)
 | [a,c],h=>match s1.name a,s2.name c with
  | some i,some j=>match blkDec A t1 h i,blkDec C t2 h j with
   | some x,some y=>some (true,B.enc (F x y),[])
   | _,_=>none
  | _,_=>none
 | _,_=>none
def sl3 {α β γ δ:Type} (s1 s2:SlA) (t1 t2:TypeId) (D:Cod δ) (A:CC α) (C:CC γ) (B:Cod β) (F:δ->α->γ->β):List AV->AH->Option (Bool × AV × AH)
 | [d,a,c],h=>match D.dec d,s1.name a,s2.name c with
  | some z,some i,some j=>match blkDec A t1 h i,blkDec C t2 h j with
   | some x,some y=>some (true,B.enc (F z x y),[])
   | _,_=>none
  | _,_,_=>none
 | _,_=>none
theorem two_world {α γ:Type} {F:Fr} {ρ:Ren} {h:AH} {w:World} (hw:RW F ρ h w) {A:CC α} {C:CC γ} {t1 t2:TypeId} {i j:Nat} {x:α} {y:γ} (h1:blkDec A t1 h i=some x) (h2:blkDec C t2 h j=some y)
 {s1 s2:SlA} {u v:Value} (hu:Rv ρ (s1.at i) u) (hv:Rv ρ (s2.at j) v) :
 ∃ σ:Ren,RW (frameOf w) σ (twoAH A C t1 t2 x y) w /\ Rv σ (s1.at 0) u /\ Rv σ (s2.at 1) v /\ ∀ id,2 <= id->σ id=none:=by
 obtain ⟨b,xs,fr,p1,p2,p3,p4,p5⟩:=blk_again hw h1
 obtain ⟨c,ys,gr,q1,q2,q3,q4,q5⟩:=blk_again hw h2
 let σ:Ren:=⟨fun id=>if id=0 then some b else if id=1 then some c else none,fun id=>if id=0 then xs.size else ys.size,fun id=>if id=0 then ρ.base i else ρ.base j⟩
 have s0:σ 0=some b:=rfl
 have s1':σ 1=some c:=rfl
 obtain ⟨b',e1,k1⟩:=SlA.moved (σ:=σ) (j:=0) hu
 obtain ⟨c',e2,k2⟩:=SlA.moved (σ:=σ) (j:=1) hv
 rw [p1] at e1;simp at e1;subst e1
 rw [q1] at e2;simp at e2;subst e2
 refine ⟨σ,⟨fun id B hB=>?_,fun id id' B B' d hB hB' hwr=>?_,fun _ _ h=>h,rfl,rfl,rfl,hw.gw⟩,k1 s0 p3 rfl,k2 s1' q3 rfl,fun id hid=>by show (if id=0 then some b else if id=1 then some c else none)=none;rw [if_neg (by omega),if_neg (by omega)]⟩
 . unfold twoAH at hB
   rw [AH.get_cons] at hB
   split at hB
   . rename_i e;subst e;simp at hB;subst hB
     exact ⟨b,_,s0,p2,.inl ⟨xs,fr,rfl,(fun h=>by cases h),p4,fun k a v ha hv=>p5 σ k a v ha hv⟩,(fun h=>by cases h),rfl⟩
   . rw [AH.get_cons] at hB
     split at hB
     . rename_i e;subst e;simp at hB;subst hB
       exact ⟨c,_,s1',q2,.inl ⟨ys,gr,rfl,(fun h=>by cases h),q4,fun k a v ha hv=>q5 σ k a v ha hv⟩,(fun h=>by cases h),rfl⟩
     . simp [AH.get] at hB
 . unfold twoAH at hB
   rw [AH.get_cons] at hB
   split at hB
   . simp at hB;subst hB;cases hwr
   . rw [AH.get_cons] at hB
     split at hB
     . simp at hB;subst hB;cases hwr
     . simp [AH.get] at hB
theorem blkDec_congr {α:Type} {C:CC α} {t:TypeId} {h h':AH} {i:Nat} {x:α} (hh:∀ B,h.get i=some B->h'.get i=some B) (hd:blkDec C t h i=some x):blkDec C t h' i=some x:=by
 unfold blkDec at hd ⊢
 split at hd
 . cases hd
 . rename_i B hB
   simp only [getC_mono hh hB];exact hd
theorem sl2_ok {P:Program} {E:Env} {sym:List Tmp} {lf f:Nat} {tab:BTab} {c:Code} {fn:Func} (hE:EnvOk P E) (hm:P.follows .mixedOrders=true) (hf:P.funcs.toList[f]?=some fn) (hb:fn.body=some c)
 (hok:codeOk E c=true) (htab:TabOk P 2 tab c) {α β γ:Type} {A:CC α} {C:CC γ} {B:Cod β} {F:α->γ->β} {s1 s2:SlA} {t1 t2:TypeId}
 (hr:∀ x y,GivesH (afun P E sym tab lf f [s1.at 0,s2.at 1] (twoAH A C t1 t2 x y) 2) (B.val (F x y))):HeapOk P f (sl2 s1 s2 t1 t2 A C B F):=by
 have key:∀ {as:List AV} {h:AH} {o:Bool × AV × AH},sl2 s1 s2 t1 t2 A C B F as h=some o->∃ i j x y,as=[s1.at i,s2.at j] /\ blkDec A t1 h i=some x /\ blkDec C t2 h j=some y /\ o=(true,B.enc (F x y),[]):=by
  intro as h o hg
  unfold sl2 at hg
  split at hg
  . rename_i a c'
    split at hg
    . rename_i i j hi hj
      split at hg
      . rename_i x y hx hy
        simp at hg
        exact ⟨i,j,x,y,by rw [SlA.name_eq hi,SlA.name_eq hj],hx,hy,hg.symm⟩
      . cases hg
    . cases hg
  . cases hg
 have again:∀ {as:List AV} {h h':AH} {o:Bool × AV × AH},sl2 s1 s2 t1 t2 A C B F as h=some o->(∀ i,i ∈ idsOf as->∀ B,h.get i=some B->h'.get i=some B)->sl2 s1 s2 t1 t2 A C B F as h'=some o:=by
  intro as h h' o hg hh
  unfold sl2 at hg ⊢
  split at hg
  . rename_i a c'
    split at hg
    . rename_i i j hi hj
      have ea:=SlA.name_eq hi
      have ec:=SlA.name_eq hj
      have hi':i ∈ idsOf [a,c']:=by subst ea;cases s1 <;> simp [SlA.at,idsOf]
      have hj':j ∈ idsOf [a,c']:=by
       subst ea;subst ec
       cases s1 <;> cases s2 <;> simp [SlA.at,idsOf]
      split at hg
      . rename_i x y hx hy
        simp only [blkDec_congr (hh i hi') hx,blkDec_congr (hh j hj') hy];exact hg
      . cases hg
    . cases hg
  . cases hg
 refine ⟨?_,fun as h h' x hle hg=>again hg (fun i _ B hB=>hle i B hB),fun ρ as xs z b h x hx hz hg=>again hg (fun i hi B hB=>by
  rw [AH.get_cons,if_neg (fun e=>hx.ids_ne hz i hi e.symm)] at hB;exact hB),fun as h c' r ups hg=>?_,fun as h h' x hh hg=>again hg hh⟩
 . intro F' ρ as xs h r ups w hg hx hw
   obtain ⟨i,j,x,y,rfl,h1,h2,ho⟩:=key hg
   simp at ho
   obtain ⟨rfl,rfl⟩:=ho
   obtain ⟨u,xs',rfl,hu,hx'⟩:=hx.uncons
   obtain ⟨v,xs'',rfl,hv,hx''⟩:=hx'.uncons
   rw [hx''.unnil]
   obtain ⟨σ,g1,g2,g3,g4⟩:=two_world hw h1 h2 hu hv
   have:=afun_calls hE hm hf hb hok htab (K:=fun q _=>flat q=some (B.val (F x y))) (hr x y).out (F:=frameOf w) (.cons g2 (.cons g3 .nil)) g1 g4
   refine Calls.mono this ?_
   rintro e w' ⟨v',q',h',ρ',rfl,hk,hrv,hrw,_⟩
   have:=hrv.flat_eq hk
   subst this
   exact ⟨_,rfl,.of_flat (B.h1 _),hw.below hrw.to_below⟩
 . obtain ⟨i,j,x,y,_,_,_,ho⟩:=key hg
   simp at ho
   obtain ⟨_,_,rfl⟩:=ho
   simp
theorem sl3_ok {P:Program} {E:Env} {sym:List Tmp} {lf f:Nat} {tab:BTab} {c:Code} {fn:Func} (hE:EnvOk P E) (hm:P.follows .mixedOrders=true) (hf:P.funcs.toList[f]?=some fn) (hb:fn.body=some c)
 (hok:codeOk E c=true) (htab:TabOk P 2 tab c) {α β γ δ:Type} {D:Cod δ} {A:CC α} {C:CC γ} {B:Cod β} {F:δ->α->γ->β} {s1 s2:SlA} {t1 t2:TypeId}
 (hr:∀ z x y,GivesH (afun P E sym tab lf f [D.enc z,s1.at 0,s2.at 1] (twoAH A C t1 t2 x y) 2) (B.val (F z x y))):HeapOk P f (sl3 s1 s2 t1 t2 D A C B F):=by
 have key:∀ {as:List AV} {h:AH} {o:Bool × AV × AH},sl3 s1 s2 t1 t2 D A C B F as h=some o->∃ d z i j x y,as=[d,s1.at i,s2.at j] /\ D.dec d=some z /\ blkDec A t1 h i=some x /\ blkDec C t2 h j=some y /\ o=(true,B.enc (F z x y),[]):=by
  intro as h o hg
  unfold sl3 at hg
  split at hg
  . rename_i d a c'
    split at hg
    . rename_i z i j hz hi hj
      split at hg
      . rename_i x y hx hy
        simp at hg
        exact ⟨d,z,i,j,x,y,by rw [SlA.name_eq hi,SlA.name_eq hj],hz,hx,hy,hg.symm⟩
      . cases hg
    . cases hg
  . cases hg
 have more:∀ (d:AV) (l:List AV) (i:Nat),i ∈ idsOf l->i ∈ idsOf (d :: l):=by
  intro d l i hi
  simp only [idsOf]
  split <;> simp [hi]
 have again:∀ {as:List AV} {h h':AH} {o:Bool × AV × AH},sl3 s1 s2 t1 t2 D A C B F as h=some o->(∀ i,i ∈ idsOf as->∀ B,h.get i=some B->h'.get i=some B)->sl3 s1 s2 t1 t2 D A C B F as h'=some o:=by
  intro as h h' o hg hh
  unfold sl3 at hg ⊢
  split at hg
  . rename_i d a c'
    split at hg
    . rename_i z i j hz hi hj
      have ea:=SlA.name_eq hi
      have ec:=SlA.name_eq hj
      have hi':i ∈ idsOf [d,a,c']:=more d _ i (by subst ea;cases s1 <;> simp [SlA.at,idsOf])
      have hj':j ∈ idsOf [d,a,c']:=more d _ j (by
       subst ea;subst ec
       cases s1 <;> cases s2 <;> simp [SlA.at,idsOf])
      split at hg
      . rename_i x y hx hy
        simp only [blkDec_congr (hh i hi') hx,blkDec_congr (hh j hj') hy];exact hg
      . cases hg
    . cases hg
  . cases hg
 refine ⟨?_,fun as h h' x hle hg=>again hg (fun i _ B hB=>hle i B hB),fun ρ as xs z b h x hx hz hg=>again hg (fun i hi B hB=>by
  rw [AH.get_cons,if_neg (fun e=>hx.ids_ne hz i hi e.symm)] at hB;exact hB),fun as h c' r ups hg=>?_,fun as h h' x hh hg=>again hg hh⟩
 . intro F' ρ as xs h r ups w hg hx hw
   obtain ⟨d,z,i,j,x,y,rfl,hz,h1,h2,ho⟩:=key hg
   simp at ho
   obtain ⟨rfl,rfl⟩:=ho
   obtain ⟨p,xs0,rfl,hp,hx0⟩:=hx.uncons
   obtain ⟨u,xs',rfl,hu,hx'⟩:=hx0.uncons
   obtain ⟨v,xs'',rfl,hv,hx''⟩:=hx'.uncons
   rw [hx''.unnil]
   obtain ⟨σ,g1,g2,g3,g4⟩:=two_world hw h1 h2 hu hv
   have hpv:=D.h2 ρ _ _ _ hz hp
   subst hpv
   have:=afun_calls hE hm hf hb hok htab (K:=fun q _=>flat q=some (B.val (F z x y))) (hr z x y).out (F:=frameOf w) (.cons (.of_flat (D.h1 z)) (.cons g2 (.cons g3 .nil))) g1 g4
   refine Calls.mono this ?_
   rintro e w' ⟨v',q',h',ρ',rfl,hk,hrv,hrw,_⟩
   have:=hrv.flat_eq hk
   subst this
   exact ⟨_,rfl,.of_flat (B.h1 _),hw.below hrw.to_below⟩
 . obtain ⟨d,z,i,j,x,y,_,_,_,_,ho⟩:=key hg
   simp at ho
   obtain ⟨_,_,rfl⟩:=ho
   simp
abbrev LayTab:=List (FuncId × (List AV->Nat->Option (Bool × AV × Blk)))
def lookLT:LayTab->FuncId->Option (List AV->Nat->Option (Bool × AV × Blk))
 | [],_=>none
 | (f,g) :: t,k=>bif Nat.beq f k then some g else lookLT t k
theorem lookLT_mem:∀ {ps:LayTab} {f:FuncId} {g},lookLT ps f=some g->(f,g) ∈ ps
 | [],f,g,h=>by simp [lookLT] at h
 | (k,q) :: t,f,g,h=>by
  simp only [lookLT] at h
  cases hb:Nat.beq k f with
  | true=>rw [hb] at h;simp at h;subst h;rw [Nat.eq_of_beq_eq_true hb];simp
  | false=>rw [hb] at h;exact List.mem_cons_of_mem _ (lookLT_mem h)
def TabLOk (P:Program) (ps:LayTab):Prop:=∀ p ∈ ps,Enters P p.1 /\ LayOk P p.1 p.2
theorem TabLOk.nil {P:Program}:TabLOk P []:=fun p h=>by simp at h
theorem TabLOk.cons {P:Program} {f:FuncId} {g:List AV->Nat->Option (Bool × AV × Blk)} {t:LayTab} (h1:Enters P f) (h:LayOk P f g) (r:TabLOk P t):TabLOk P ((f,g) :: t):=by
 intro p hp
 rcases List.mem_cons.1 hp with rfl | hp
 . exact ⟨h1,h⟩
 . exact r p hp
theorem RW.adopt {F:Fr} {ρ:Ren} {h:AH} {w:World} (r:RW F ρ h w) {id b:Nat} (hid:ρ id=none) (hF:F.blocks b=none) (hne:∀ j B,h.get j=some B->ρ j ≠ some b) (t:TypeId) (cs:List AV) {xs:Array Value}
 (hx:w.heap[b]?=some (.cells xs t (0,0))) (hl:cs.length <= xs.size) (hr:∀ (σ:Ren) (i:Nat) (a:AV) (x:Value),cs[i]?=some a->xs[i]?=some x->Rv σ a x) :
 RW F (ρ.upd id b xs.size) ((id,some ⟨true,t,cs⟩) :: h) w:=by
 have hle:=Ren.le_upd (b:=b) (n:=xs.size) hid
 refine ⟨fun j B hj=>?_,fun j j' B B' c hj hj' hw hc hc'=>?_,r.fr,r.os,r.tape,r.out,r.gc⟩
 . rw [AH.get_cons] at hj
   split at hj
   . rename_i e;subst e;simp at hj;subst hj
     exact ⟨b,_,Ren.upd_same _ _ _ _,hx,.inl ⟨xs,(0,0),rfl,fun _=>⟨rfl,Ren.upd_base _ _ _ _⟩,by rw [Ren.upd_base,Nat.zero_add];exact hl,fun i a x ha hx'=>hr _ i a x ha (by rw [Ren.upd_base,Nat.zero_add] at hx';exact hx')⟩,fun _=>hF,by simp [count,Ren.upd_cells]⟩
   . obtain ⟨c,o,hc,ho,hB,hk⟩:=r.blk j B hj
     exact ⟨c,o,(hle _ _ hc).1,ho,hB.mono hle hc,hk.1,hk.2.trans (hle _ _ hc).2.1.symm⟩
 . have key:∀ {k:Nat} {C:Blk},AH.get ((id,some ⟨true,t,cs⟩) :: h) k=some C->k ≠ id->h.get k=some C:=by
    intro k C hk hn
    rw [AH.get_cons,if_neg (fun e=>hn e.symm)] at hk
    exact hk
   by_cases e1:j=id
   . by_cases e2:j'=id
     . rw [e1,e2]
     . subst e1
       rw [Ren.upd_same] at hc;simp at hc;subst hc
       rw [Ren.upd_ne _ e2] at hc'
       exact absurd hc' (hne _ _ (key hj' e2))
   . by_cases e2:j'=id
     . subst e2
       rw [Ren.upd_same] at hc';simp at hc';subst hc'
       rw [Ren.upd_ne _ e1] at hc
       exact absurd hc (hne _ _ (key hj e1))
     . rw [Ren.upd_ne _ e1] at hc
       rw [Ren.upd_ne _ e2] at hc'
       exact r.inj j j' B B' c (key hj e1) (key hj' e2) hw hc hc'
def oneAH {α:Type} (A:CC α) (t:TypeId) (x:α):AH:=[(0,some ⟨false,t,A.enc x⟩)]
structure MC (δ:Type) where
 enc:δ->List AV
 dec:List AV->Option δ
 val:δ->List Value
 h1:∀ x,flatL (enc x)=some (val x)
 h2:∀ (ρ:Ren) (as:List AV) (vs:List Value) (x:δ),dec as=some x->Rvs ρ as vs->vs=val x
def mc0:MC Unit where
 enc _:=[]
 dec as:=match as with
  | []=>some ()
  | _=>none
 val _:=[]
 h1 _:=rfl
 h2 ρ as vs x h r:=by
  split at h
  . exact r.unnil
  . cases h
def mc1 {α:Type} (A:Cod α):MC α where
 enc x:=[A.enc x]
 dec as:=match as with
  | [a]=>A.dec a
  | _=>none
 val x:=[A.val x]
 h1 x:=by simp [flatL,A.h1]
 h2 ρ as vs x h r:=by
  split at h
  . obtain ⟨v,ys,rfl,h1,h2⟩:=r.uncons
    rw [h2.unnil,A.h2 ρ _ _ _ h h1]
  . cases h
def mc2 {α β:Type} (A:Cod α) (B:Cod β):MC (α × β) where
 enc x:=[A.enc x.1,B.enc x.2]
 dec as:=match as with
  | [a,b]=>match A.dec a,B.dec b with
   | some x,some y=>some (x,y)
   | _,_=>none
  | _=>none
 val x:=[A.val x.1,B.val x.2]
 h1 x:=by simp [flatL,A.h1,B.h1]
 h2 ρ as vs x h r:=by
  split at h
  . split at h
    . rename_i p q hp hq
      simp at h;subst h
      obtain ⟨v,ys,rfl,h1,h2⟩:=r.uncons
      obtain ⟨u,zs,rfl,h3,h4⟩:=h2.uncons
      rw [h4.unnil,A.h2 ρ _ _ _ hp h1,B.h2 ρ _ _ _ hq h3]
    . cases h
  . cases h
def rdp {β γ δ:Type} (t:TypeId) (C:CC γ) (D:MC δ) (B:Cod β) (F:γ->δ->β):List AV->AH->Option (Bool × AV × AH)
 | .ptr i 0 :: rest,h=>match blkDec C t h i,D.dec rest with
  | some x,some z=>some (true,B.enc (F x z),[])
  | _,_=>none
 | _,_=>none
theorem rdp_ok {β γ δ:Type} {P:Program} {E:Env} {sym:List Tmp} {lf f:Nat} {c:Code} {fn:Func} (hE:EnvOk P E) (hm:P.follows .mixedOrders=true) (hf:P.funcs.toList[f]?=some fn) (hb:fn.body=some c)
 (hok:codeOk E c=true) {D:MC δ} {C:CC γ} {B:Cod β} {F:γ->δ->β} {t:TypeId}
 (hr:∀ x z,GivesH (afun P E sym (fun _=>none) lf f (.ptr 0 0 :: D.enc z) (oneAH C t x) 1) (B.val (F x z))):HeapOk P f (rdp t C D B F):=by
 have key:∀ {as:List AV} {h:AH} {o:Bool × AV × AH},rdp t C D B F as h=some o->∃ i rest x z,as=.ptr i 0 :: rest /\ D.dec rest=some z /\ blkDec C t h i=some x /\ o=(true,B.enc (F x z),[]):=by
  intro as h o hg
  unfold rdp at hg
  split at hg
  . rename_i i rest
    split at hg
    . rename_i x z hx hz
      simp at hg
      exact ⟨i,rest,x,z,rfl,hz,hx,hg.symm⟩
    . cases hg
  . cases hg
 have again:∀ {as:List AV} {h h':AH} {o:Bool × AV × AH},rdp t C D B F as h=some o->(∀ i,i ∈ idsOf as->∀ B,h.get i=some B->h'.get i=some B)->rdp t C D B F as h'=some o:=by
  intro as h h' o hg hh
  obtain ⟨i,rest,x,z,rfl,hz,hx,rfl⟩:=key hg
  have hi:i ∈ idsOf (.ptr i 0 :: rest):=by simp [idsOf]
  unfold rdp
  simp only [hz,blkDec_congr (hh i hi) hx]
 refine ⟨?_,fun as h h' x hle hg=>again hg (fun i _ B hB=>hle i B hB),fun ρ as xs z b h x hx hz hg=>again hg (fun i hi B hB=>by
  rw [AH.get_cons,if_neg (fun e=>hx.ids_ne hz i hi e.symm)] at hB;exact hB),fun as h c' r ups hg=>?_,fun as h h' x hh hg=>again hg hh⟩
 . intro F' ρ as xs h r ups w hg hx hw
   obtain ⟨i,rest,x,z,rfl,hz,h1,ho⟩:=key hg
   simp at ho
   obtain ⟨rfl,rfl⟩:=ho
   obtain ⟨u,xs',rfl,hu,hx'⟩:=hx.uncons
   have hpv:=D.h2 ρ _ _ _ hz hx'
   subst hpv
   obtain ⟨b,cx,fr,p1,p2,p3,p4,p5⟩:=blk_again hw h1
   let σ:Ren:=⟨fun id=>if id=0 then some b else none,fun _=>cx.size,fun _=>ρ.base i⟩
   have hσ:σ 0=some b:=rfl
   have hRW:RW (frameOf w) σ (oneAH C t x) w:=by
    refine ⟨fun id B hB=>?_,fun id id' B B' d hB hB' hwr=>?_,fun _ _ h=>h,rfl,rfl,rfl,hw.gw⟩
    . unfold oneAH at hB
      rw [AH.get_cons] at hB
      split at hB
      . rename_i e;subst e;simp at hB;subst hB
        exact ⟨b,_,hσ,p2,.inl ⟨cx,fr,rfl,(fun h=>by cases h),p4,fun k a v ha hv=>p5 σ k a v ha hv⟩,(fun h=>by cases h),rfl⟩
      . simp [AH.get] at hB
    . unfold oneAH at hB
      rw [AH.get_cons] at hB
      split at hB
      . simp at hB;subst hB;cases hwr
      . simp [AH.get] at hB
   cases hu with
   | ptr hsb =>
    rw [p1] at hsb;simp at hsb;subst hsb
    have:=afun_calls hE hm hf hb hok (tabOk_none c) (K:=fun q _=>flat q=some (B.val (F x z))) (hr x z).out (F:=frameOf w) (.cons (show Rv σ (.ptr 0 0) (.pointer (some ⟨b,ρ.base i+0,none⟩)) from Rv.ptr (ρ:=σ) hσ) (Rvs.of_flatL (D.h1 z))) hRW (fun id hid=>by show (if id=0 then some b else none)=none;rw [if_neg (by omega)])
    refine Calls.mono this ?_
    rintro e w' ⟨v',q',h',ρ',rfl,hk',hrv,hrw,_⟩
    have:=hrv.flat_eq hk'
    subst this
    exact ⟨_,rfl,.of_flat (B.h1 _),hw.below hrw.to_below⟩
 . obtain ⟨i,rest,x,z,_,_,_,ho⟩:=key hg
   simp at ho
   obtain ⟨_,_,rfl⟩:=ho
   simp
def layP {α γ:Type} (A:Cod α) (t:TypeId) (C:CC γ) (k:Int) (F:α->γ):List AV->Nat->Option (Bool × AV × Blk)
 | [a],z=>match A.dec a with
  | none=>none
  | some x=>some (true,.tup [.ptr z 0,.v (.int .i64 k)],⟨true,t,C.enc (F x)⟩)
 | _,_=>none
def outP (t:TypeId) (q:AV × AH):AV:=match q.1 with
 | .tup [.ptr i 0,k]=>match q.2.get i with
  | none=>.any
  | some B=>match B.wr && Nat.beq B.ty t with
   | true=>.tup [.agg B.cs,k]
   | false=>.any
 | _=>.any
theorem outP_eq {t:TypeId} {q:AV × AH} {k:AV} {cs:List AV} (h:outP t q=.tup [.agg cs,k]):∃ i,q.1=.tup [.ptr i 0,k] /\ q.2.get i=some ⟨true,t,cs⟩:=by
 unfold outP at h
 split at h
 . rename_i i k' hq
   split at h
   . cases h
   . rename_i B hB
     split at h
     . rename_i hc
       simp only [Bool.and_eq_true] at hc
       simp at h
       obtain ⟨h2,rfl⟩:=h
       refine ⟨i,hq,?_⟩
       rw [hB]
       obtain ⟨wr,ty,cs'⟩:=B
       simp at hc h2
       obtain ⟨e1,e2⟩:=hc
       subst e1;subst e2;subst h2
       rfl
     . cases h
 . cases h
def afunQ (P:Program) (E:Env) (sym:List Tmp) (tab:BTab) (lf f:Nat) (t:TypeId) (args:List AV):Tree AV:=(afun P E sym tab lf f args [] 0).bind fun q=>.leaf (outP t q)
theorem layP_ok {P:Program} {α γ:Type} {t:TypeId} {A:Cod α} {C:CC γ} {k:Int} {F:α->γ} {f:Nat} {E:Env} {sym:List Tmp} {lf:Nat} {tab:α->BTab} (X:∀ x,Ctx P E sym (tab x) lf f)
 (hr:∀ x,(afunQ P E sym (tab x) lf f t [A.enc x]).holds (fun a=>a=.tup [.agg (C.enc (F x)),.v (.int .i64 k)])):LayOk P f (layP A t C k F):=by
 have key:∀ {as:List AV} {z:Nat} {o:Bool × AV × Blk},layP A t C k F as z=some o->∃ a x,as=[a] /\ A.dec a=some x /\ o=(true,.tup [.ptr z 0,.v (.int .i64 k)],⟨true,t,C.enc (F x)⟩):=by
  intro as z o hg
  unfold layP at hg
  split at hg
  . rename_i a
    split at hg
    . cases hg
    . rename_i x hx
      simp at hg
      exact ⟨a,x,rfl,hx,hg.symm⟩
  . cases hg
 constructor
 . intro F' ρ as xs h z r Bz w hg hx hw hz
   obtain ⟨a,x,rfl,hd,ho⟩:=key hg
   simp at ho
   obtain ⟨rfl,rfl⟩:=ho
   obtain ⟨fn,c,hf,hb,hok,htab⟩:=(X x).body
   obtain ⟨v,ys,rfl,hv,hx'⟩:=hx.uncons
   rw [hx'.unnil]
   have e0:=A.h2 ρ _ _ _ hd hv
   subst e0
   have hq:=Tree.holds_bind (g:=fun q=>.leaf (outP t q)) (hr x)
   have:=afun_calls (X x).env (X x).mixed hf hb hok htab (K:=fun q h'=>∃ i,q=.tup [.ptr i 0,.v (.int .i64 k)] /\ h'.get i=some ⟨true,t,C.enc (F x)⟩)
    (Tree.holds_mono (fun q hq=>outP_eq hq) hq) (F:=frameOf w) (ρ:=Ren.empty) (xs:=[A.val x]) (w:=w) (.cons (.of_flat (A.h1 x)) .nil) (RW.init w _ hw.gw) (fun _ _=>rfl)
   refine Calls.mono this ?_
   rintro e w' ⟨u,q,h',ρ',rfl,⟨i,rfl,hget⟩,hrv,hrw,_⟩
   obtain ⟨b,o,p1,p2,⟨cx,fr,rfl,p3,p4,p5⟩,p6,p7⟩:=hrw.blkF hget (C.h1 _)
   have pz:=(p3 rfl).2
   rw [(p3 rfl).1] at p2
   rw [pz] at p4 p5
   simp only [Nat.zero_add] at p4 p5
   have hnew:w.heap[b]?=none:=p6 rfl
   have hrel:=rvs_prefix (ρ:=ρ') (cs:=C.enc (F x)) (xs:=cx.toList) (by simpa using p4) (fun i a x ha hx=>p5 i a x ha (by simpa using hx))
   have hval:=hrel.flats_eq (C.h1 (F x))
   have hF:F'.blocks b=none:=by
    cases hb:F'.blocks b with
    | none=>rfl
    | some o=>have:=hw.fr b o hb;rw [hnew] at this;cases this
   obtain ⟨us,rfl,hus⟩:=hrv.tup_iff
   obtain ⟨v0,y0,e0,h0,r0⟩:=hus.uncons
   obtain ⟨v1,y1,e1,h1,r1⟩:=r0.uncons
   have e2:=r1.unnil
   subst e2;subst e1
   cases h0 with
   | ptr hsb =>
    rw [p1] at hsb;simp at hsb;subst hsb
    rw [pz] at e0
    have hv1:v1=.int .i64 k:=h1.scal_eq (y:=.int .i64 k) rfl
    have eus:us=#[.pointer (some ⟨b,0,none⟩),v1]:=by apply Array.ext';simpa using e0
    rw [eus]
    refine ⟨_,ρ.upd z b cx.size,rfl,Ren.le_upd hz,fun j hj=>Ren.upd_ne ρ hj,?_,?_⟩
    . exact .tup_mk (.cons .ptrU (.cons (by rw [hv1];exact .v _) .nil))
    refine (hw.below hrw.to_below).adopt hz hF (fun j B hj e=>?_) t (C.enc (F x)) p2 p4 (fun σ j a v ha hv=>?_)
    . obtain ⟨b',o',q1,q2,_⟩:=hw.blk j B hj
      rw [q1] at e;simp at e;subst e
      rw [hnew] at q2;cases q2
    . have h8:=Rvs.of_flats (ρ:=σ) (C.h1 (F x))
      refine h8.2 j a v ha ?_
      rw [<- hval,List.getElem?_take,if_pos (List.getElem?_eq_some_iff.1 ha).1]
      simpa using hv
def hasB (t:Nat):Code->Bool
 | .seq a b=>hasB t a || hasB t b
 | .cond _ a b=>hasB t a || hasB t b
 | .block id c=>Nat.beq id t || hasB t c
 | .loop c=>hasB t c
 | _=>false
def reachB (P:Program) (E:Env) (sym:List Tmp) (tab:BTab) (lf:Nat) (target:Nat):Code->XS->Tree (Bool × AExit × XS)
 | .seq a b,x=>(reachB P E sym tab lf target a x).bind fun r=>match r with
  | (true,e,y)=>.leaf (true,e,y)
  | (false,.normal,y)=>reachB P E sym tab lf target b y
  | (false,e,y)=>.leaf (false,e,y)
 | .cond c a b,x=>match boolOf (look x.s.tm c) with
  | some true=>reachB P E sym tab lf target a x
  | some false=>reachB P E sym tab lf target b x
  | none=>.fail
 | .block id c,x=>bif Nat.beq id target then .leaf (true,.normal,x) else bif hasB target c then
  (reachB P E sym tab lf target c x).bind fun r=>match r with
   | (false,.exit i,y)=>bif Nat.beq i id then .leaf (false,.normal,y) else .leaf (false,.exit i,y)
   | r=>.leaf r
  else (exec P E sym tab lf (.block id c) x).bind fun (e,y)=>.leaf (false,e,y)
 | .loop c,x=>reachB P E sym tab lf target c x
 | c,x=>(exec P E sym tab lf c x).bind fun (e,y)=>.leaf (false,e,y)
def entryB (P:Program) (E:Env) (sym:List Tmp) (tab:BTab) (lf:Nat) (f:Nat) (args:List AV) (h:AH) (n:Nat) (target:Nat) (k:Keep):XS :=
 match firstT (reachB P E sym tab lf target (bodyOf P f) ⟨⟨args ++ undefs (ntmpsOf P f - args.length),h,true⟩,n⟩) with
 | some x=>match trim k.tm k.ids k.n x with
  | some y=>y
  | none=>default
 | none=>default
inductive SA where
 | nil
 | slc (n:Nat)
 | own (es n:Nat)
def SA.len:SA->Nat
 | .nil=>0
 | .slc n=>n
 | .own _ n=>n
def SA.at (s:SA) (id cap:Nat):AV:=match s with
 | .nil=>.v (.slice none 0 0)
 | .slc n=>.slc id 0 n cap
 | .own es n=>.own id es 0 n
def readS (a:AV) (h:AH):Option (SA × List AV):=match a with
 | .v (.slice none 0 0)=>some (.nil,[])
 | .slc i 0 n _=>match h.getC i with
  | some B=>some (.slc n,B.cs)
  | none=>none
 | .own i es 0 n=>match h.getC i with
  | some B=>some (.own es n,B.cs)
  | none=>none
 | _=>none
theorem readS_spec {a:AV} {h:AH} {s:SA} {cs:List AV} (e:readS a h=some (s,cs)) :
 (s=.nil /\ cs=[] /\ a=.v (.slice none 0 0)) \/ ∃ i cap B,s ≠ .nil /\ a=s.at i cap /\ h.getC i=some B /\ cs=B.cs:=by
 unfold readS at e
 split at e
 . simp at e;obtain ⟨rfl,rfl⟩:=e;exact .inl ⟨rfl,rfl,rfl⟩
 . split at e
   . rename_i i n cap _ B hB
     simp at e;obtain ⟨rfl,rfl⟩:=e
     exact .inr ⟨i,cap,B,(fun h=>by cases h),rfl,hB,rfl⟩
   . cases e
 . split at e
   . rename_i i es n _ B hB
     simp at e;obtain ⟨rfl,rfl⟩:=e
     exact .inr ⟨i,0,B,(fun h=>by cases h),rfl,hB,rfl⟩
   . cases e
 . cases e
def encL {α:Type} (C:CC α):List α->List AV
 | []=>[]
 | x :: t=>C.enc x ++ encL C t
def decL {α:Type} (C:CC α):Nat->List AV->Option (List α)
 | 0,_=>some []
 | n+1,cs=>match C.dec (cs.take C.n),decL C n (cs.drop C.n) with
  | some x,some l=>some (x :: l)
  | _,_=>none
theorem decL_len {α:Type} {C:CC α}:∀ {n:Nat} {cs:List AV} {l:List α},decL C n cs=some l->l.length=n
 | 0,cs,l,h=>by simp [decL] at h;subst h;rfl
 | n+1,cs,l,h=>by
  simp only [decL] at h
  split at h
  . rename_i x m hx hm
    simp at h;subst h
    simp [decL_len hm]
  . cases h
theorem encL_len {α:Type} {C:CC α}:∀ (l:List α),(encL C l).length=C.n*l.length
 | []=>by simp [encL]
 | x :: t=>by simp [encL,encL_len t,C.len,Nat.mul_add,Nat.add_comm]
theorem CC.val_len {α:Type} (C:CC α) (x:α):(C.val x).length=C.n:=by
 have:=(Rvs.of_flats (ρ:=Ren.empty) (C.h1 x)).1
 rw [<- this,C.len]
theorem decL_rv {α:Type} {C:CC α} {ρ:Ren}:∀ {n:Nat} {cs:List AV} {vs:List Value} {l:List α},decL C n cs=some l->Rvs ρ cs vs ->
 (encL C l).length <= vs.length /\ ∀ σ,Rvs σ (encL C l) (vs.take (encL C l).length)
 | 0,cs,vs,l,h,r=>by
  simp [decL] at h;subst h
  exact ⟨by simp [encL],fun σ=>by simpa [encL] using (Rvs.nil (ρ:=σ))⟩
 | n+1,cs,vs,l,h,r=>by
  simp only [decL] at h
  split at h
  . rename_i x m hx hm
    simp at h;subst h
    obtain ⟨h1,h2⟩:=decL_rv hm (r.drop C.n)
    have h3:=C.h2 ρ _ _ _ hx (r.take C.n)
    have h4:C.n <= vs.length:=by
     have:=congrArg List.length h3
     rw [C.val_len] at this
     simp at this
     omega
    refine ⟨?_,fun σ=>?_⟩
    . simp only [encL,List.length_append,C.len]
      simp at h1
      omega
    . have e:vs.take (encL C (x :: m)).length=vs.take C.n ++ (vs.drop C.n).take (encL C m).length:=by
       simp only [encL,List.length_append,C.len,List.take_add]
      rw [e,h3]
      exact (Rvs.of_flats (C.h1 x)).append (h2 σ)
  . cases h
structure Hd where
 s:SA
 cap:Nat
 t:TypeId
 cs:List AV
 fb:Option Nat
 n:Nat
 base:Nat
structure HandS (w:World) (x:Hd) (v:Value):Prop where
 rv:∀ (σ:Ren) (id:Nat),σ id=x.fb->σ.cells id=x.n->σ.base id=x.base->Rv σ (x.s.at id x.cap) v
 blk:x.s ≠ .nil->∃ b xs fr,x.fb=some b /\ w.heap[b]?=some (.cells xs x.t fr) /\ xs.size=x.n /\ x.base+x.cs.length <= xs.size /\
  ∀ (σ:Ren) (j:Nat) (a:AV) (u:Value),x.cs[j]?=some a->xs[x.base+j]?=some u->Rv σ a u
def hpS (id:Nat) (s:SA) (t:TypeId) (cs:List AV):AH:=match s with
 | .nil=>[]
 | _=>[(id,some ⟨false,t,cs⟩)]
def hHeap:Nat->List Hd->AH
 | _,[]=>[]
 | i,x :: t=>hpS i x.s x.t x.cs ++ hHeap (i+1) t
theorem hHeap_get:∀ (l:List Hd) (i id:Nat) (B:Blk),(hHeap i l).get id=some B->∃ j x,id=i+j /\ l[j]?=some x /\ x.s ≠ .nil /\ B=⟨false,x.t,x.cs⟩
 | [],i,id,B,h=>by simp [hHeap,AH.get] at h
 | x :: t,i,id,B,h=>by
  have next:(hHeap (i+1) t).get id=some B->∃ j y,id=i+j /\ (x :: t)[j]?=some y /\ y.s ≠ .nil /\ B=⟨false,y.t,y.cs⟩:=fun h=>by
   obtain ⟨j,y,h1,h2,h3,h4⟩:=hHeap_get t (i+1) id B h
   exact ⟨j+1,y,by omega,by simpa using h2,h3,h4⟩
  cases hs:x.s with
  | nil =>
   simp only [hHeap,hs,hpS,List.nil_append] at h
   exact next h
  | slc n =>
   simp only [hHeap,hs,hpS,List.cons_append,List.nil_append] at h
   rw [AH.get_cons] at h
   split at h
   . rename_i e
     simp at h
     exact ⟨0,x,by omega,rfl,(by rw [hs];exact fun h=>by cases h),h.symm⟩
   . exact next h
  | own es n =>
   simp only [hHeap,hs,hpS,List.cons_append,List.nil_append] at h
   rw [AH.get_cons] at h
   split at h
   . rename_i e
     simp at h
     exact ⟨0,x,by omega,rfl,(by rw [hs];exact fun h=>by cases h),h.symm⟩
   . exact next h
def hRen (l:List Hd):Ren:=⟨fun id=>match l[id]? with
 | some x=>x.fb
 | none=>none,fun id=>match l[id]? with
 | some x=>x.n
 | none=>0,fun id=>match l[id]? with
 | some x=>x.base
 | none=>0⟩
theorem hRW {w:World} (hg:GW w) {l:List Hd} (h:∀ x ∈ l,∃ v,HandS w x v):RW (frameOf w) (hRen l) (hHeap 0 l) w:=by
 refine ⟨fun id B hB=>?_,fun id id' B B' d hB hB' hwr=>?_,fun _ _ h=>h,rfl,rfl,rfl,hg⟩
 . obtain ⟨j,x,e,hx,hn,rfl⟩:=hHeap_get l 0 id B hB
   rw [Nat.zero_add] at e
   subst e
   obtain ⟨v,hv⟩:=h x (List.mem_of_getElem? hx)
   obtain ⟨b,xs,fr,h1,h2,h3,h4,h5⟩:=hv.blk hn
   have e1:(hRen l) id=x.fb:=by simp [hRen,hx]
   have e2:(hRen l).cells id=x.n:=by simp [hRen,hx]
   have e3:(hRen l).base id=x.base:=by simp [hRen,hx]
   exact ⟨b,_,e1.trans h1,h2,.inl ⟨xs,fr,rfl,(fun h=>by cases h),by rw [e3];exact h4,fun i a u ha hu=>h5 _ i a u ha (by rw [<- e3];exact hu)⟩,(fun h=>by cases h),h3.trans e2.symm⟩
 . obtain ⟨j,x,e,hx,hn,rfl⟩:=hHeap_get l 0 id B hB
   cases hwr
theorem hRen_at {w:World} {l:List Hd} {j:Nat} {x:Hd} {v:Value} (hx:l[j]?=some x) (h:HandS w x v):Rv (hRen l) (x.s.at j x.cap) v :=
 h.rv _ _ (by simp [hRen,hx]) (by simp [hRen,hx]) (by simp [hRen,hx])
theorem hRen_none {l:List Hd} (id:Nat) (h:l.length <= id):(hRen l) id=none:=by
 simp [hRen,List.getElem?_eq_none h]
theorem hand_of {α:Type} {F:Fr} {ρ:Ren} {h:AH} {w:World} (hw:RW F ρ h w) {A:CC α} {a:AV} {s:SA} {cs:List AV} (hr:readS a h=some (s,cs)) {l:List α} (hd:decL A s.len cs=some l) {v:Value} (hv:Rv ρ a v) :
 ∃ x:Hd,x.s=s /\ x.cs=encL A l /\ HandS w x v:=by
 rcases readS_spec hr with ⟨rfl,rfl,rfl⟩ | ⟨i,cap,B,hn,rfl,hB,rfl⟩
 . have:l=[]:=by simpa [SA.len,decL] using hd.symm
   subst this
   cases hv
   exact ⟨⟨.nil,0,default,[],none,0,0⟩,rfl,rfl,⟨fun σ id _ _ _=>.v _,fun h=>absurd rfl h⟩⟩
 . obtain ⟨b,o,h1,h2,⟨xs,fr,rfl,h3,h4,h5⟩,h6,h7⟩:=hw.blkC hB
   have hrel:=rvs_prefix (ρ:=ρ) (cs:=B.cs) (xs:=xs.toList.drop (ρ.base i)) (by simp;omega) (fun j a x ha hx=>h5 j a x ha (by simpa using hx))
   obtain ⟨k1,k2⟩:=decL_rv hd hrel
   simp at k1
   refine ⟨⟨s,cap,B.ty,encL A l,some b,xs.size,ρ.base i⟩,rfl,rfl,⟨fun σ id e1 e2 e3=>?_,fun _=>⟨b,xs,fr,rfl,h2,rfl,?_,fun σ j a u ha hu=>?_⟩⟩⟩
   . simp only at e1 e2 e3
     show Rv σ (s.at id cap) v
     cases s with
     | nil=>exact absurd rfl hn
     | slc n =>
      simp only [SA.at] at hv ⊢
      cases hv with
      | slc hb =>
       rw [h1] at hb;simp at hb;subst hb
       rw [<- e3]
       exact .slc e1
     | own es n =>
      simp only [SA.at] at hv ⊢
      cases hv with
      | own hb h0 hc hl hm =>
       rw [h1] at hb;simp at hb;subst hb
       exact .own e1 (e3.trans h0) (by rw [e2];simpa [count] using hc.trans h7.symm) hl hm
      | ownE _ hk=>exact absurd hk (Nat.lt_irrefl 0)
   . show ρ.base i+(encL A l).length <= xs.size
     omega
   . have hlt:=(List.getElem?_eq_some_iff.1 ha).1
     refine (k2 σ).2 j a u ha ?_
     rw [List.getElem?_take,if_pos hlt,List.getElem?_take,if_pos (by simp only at hlt;omega)]
     simpa using hu
def decS {α:Type} (A:CC α) (x:SA × List AV):Option (List α):=decL A x.1.len x.2
theorem ids_mem {a:AV} {i:Nat} (h:(∃ o n c,a=.slc i o n c) \/ (∃ es k n,a=.own i es k n)):∀ {l:List AV},a ∈ l->i ∈ idsOf l
 | b :: t,hm=>by
  have key:i ∈ idsOf t->i ∈ idsOf (b :: t):=fun h=>by
   simp only [idsOf]
   split <;> simp [h]
  rcases List.mem_cons.1 hm with rfl | hm
  . rcases h with ⟨o,n,c,rfl⟩ | ⟨es,k,n,rfl⟩ <;> simp [idsOf]
  . exact key (ids_mem h hm)
theorem readS_congr {h h':AH} {args:List AV} {a:AV} (ha:a ∈ args) (hh:∀ i,i ∈ idsOf args->∀ B,h.get i=some B->h'.get i=some B) {x:SA × List AV} (e:readS a h=some x):readS a h'=some x:=by
 obtain ⟨s,cs⟩:=x
 rcases readS_spec e with ⟨rfl,rfl,rfl⟩ | ⟨i,cap,B,hn,rfl,hB,rfl⟩
 . rfl
 . cases s with
   | nil=>exact absurd rfl hn
   | slc n =>
    have:=getC_mono (hh i (ids_mem (.inl ⟨_,_,_,rfl⟩) ha)) hB
    simp [readS,SA.at,this]
   | own es n =>
    have:=getC_mono (hh i (ids_mem (.inr ⟨_,_,_,rfl⟩) ha)) hB
    simp [readS,SA.at,this]
def s1V {β:Type} (B:Cod β) (ok:SA × List AV->Bool) (G:SA × List AV->β) (args:List AV) (h:AH):Option (Bool × AV × AH):=match args with
 | [a]=>match readS a h with
  | some x=>some (ok x,B.enc (G x),[])
  | none=>none
 | _=>none
def ok1 {α:Type} (sh:SA->Bool) (A:CC α) (x:SA × List AV):Bool:=sh x.1 && (decS A x).isSome
def g1 {α β:Type} (A:CC α) (G:List α->β) (x:SA × List AV):β:=G ((decS A x).getD [])
theorem s1V_ok {α β:Type} {P:Program} {E:SA->Env} {sym:List Tmp} {lf f:Nat} {c:Code} {fn:Func} (hE:∀ s,EnvOk P (E s)) (hm:P.follows .mixedOrders=true) (hf:P.funcs.toList[f]?=some fn) (hb:fn.body=some c)
 (hok:∀ s,codeOk (E s) c=true) {A:CC α} {B:Cod β} {sh:SA->Bool} {G:List α->β}
 (hr:∀ s c1 t (l:List α),sh s=true->l.length=s.len->GivesH (afun P (E s) sym (fun _=>none) lf f [s.at 0 c1] (hpS 0 s t (encL A l)) 1) (B.val (G l))) :
 HeapOk P f (s1V B (ok1 sh A) (g1 A G)):=by
 have key:∀ {args:List AV} {h:AH} {o:Bool × AV × AH},s1V B (ok1 sh A) (g1 A G) args h=some o->∃ a x,args=[a] /\ readS a h=some x /\ o=(ok1 sh A x,B.enc (g1 A G x),[]):=by
  intro args h o hg
  unfold s1V at hg
  split at hg
  . rename_i a
    split at hg
    . rename_i x hx
      simp at hg
      exact ⟨a,x,rfl,hx,hg.symm⟩
    . cases hg
  . cases hg
 have again:∀ {args:List AV} {h h':AH} {o:Bool × AV × AH},s1V B (ok1 sh A) (g1 A G) args h=some o->(∀ i,i ∈ idsOf args->∀ B,h.get i=some B->h'.get i=some B)->s1V B (ok1 sh A) (g1 A G) args h'=some o:=by
  intro args h h' o hg hh
  obtain ⟨a,x,rfl,hx,rfl⟩:=key hg
  have ma:a ∈ [a]:=by simp
  unfold s1V
  simp only [readS_congr ma hh hx]
 refine ⟨?_,fun args h h' x hle hg=>again hg (fun i _ B hB=>hle i B hB),fun ρ args xs z b h x hx hz hg=>again hg (fun i hi B hB=>by
  rw [AH.get_cons,if_neg (fun e=>hx.ids_ne hz i hi e.symm)] at hB;exact hB),fun args h c' r ups hg=>?_,fun args h h' x hh hg=>again hg hh⟩
 . intro F' ρ args xs h q ups w hg hx hw
   obtain ⟨a,x,rfl,h1,ho⟩:=key hg
   simp only [Prod.mk.injEq] at ho
   obtain ⟨hsh,rfl,rfl⟩:=ho
   obtain ⟨u,ys,rfl,hu,hys⟩:=hx.uncons
   obtain rfl:=hys.unnil
   have hsh:=hsh.symm
   unfold ok1 at hsh
   simp only [Bool.and_eq_true] at hsh
   obtain ⟨g1',g2⟩:=hsh
   obtain ⟨l,hl⟩:=Option.isSome_iff_exists.1 g2
   obtain ⟨s1,cs1⟩:=x
   obtain ⟨X,x1,x2,x3⟩:=hand_of hw h1 hl hu
   have hW:=hRW hw.gw (w:=w) (l:=[X]) (fun x hx=>by
    simp only [List.mem_cons,List.not_mem_nil,or_false] at hx
    subst hx
    exact ⟨_,x3⟩)
   have r1:Rv (hRen [X]) (s1.at 0 X.cap) u:=by have:=hRen_at (l:=[X]) (j:=0) rfl x3;rw [x1] at this;exact this
   have hheap:hHeap 0 [X]=hpS 0 s1 X.t (encL A l):=by
    rw [<- x1,<- x2]
    show hpS 0 X.s X.t X.cs ++ []=_
    rw [List.append_nil]
   rw [hheap] at hW
   have hval:Rq.g1 A G (s1,cs1)=G l:=by simp [Rq.g1,hl]
   rw [hval]
   have:=afun_calls (hE s1) hm hf hb (hok s1) (tabOk_none c) (K:=fun q _=>flat q=some (B.val (G l))) (hr s1 X.cap X.t l g1' (decL_len hl)).out (F:=frameOf w)
    (Rvs.cons r1 .nil) hW (fun id hid=>hRen_none id (by simpa using hid))
   refine Calls.mono this ?_
   rintro e w' ⟨v',q',h',ρ',rfl,hk',hrv,hrw,_⟩
   have:=hrv.flat_eq hk'
   subst this
   exact ⟨_,rfl,.of_flat (B.h1 _),hw.below hrw.to_below⟩
 . obtain ⟨a,x,_,_,ho⟩:=key hg
   simp only [Prod.mk.injEq] at ho
   obtain ⟨_,_,rfl⟩:=ho
   simp
def lstB (b:Nat->Int):Nat->Nat->List Int
 | _,0=>[]
 | i,n+1=>b i :: lstB b (i+1) n
theorem lstB_is:∀ (l:List Int) (f:Nat->Int) (j:Nat),(∀ i,i < l.length->f (j+i)=l.getD i 0)->lstB f j l.length=l
 | [],f,j,h=>rfl
 | x :: t,f,j,h=>by
  simp only [List.length_cons,lstB]
  have h0:=h 0 (by simp)
  rw [Nat.add_zero] at h0
  rw [h0,lstB_is t f (j+1) (fun i hi=>by
   have:=h (i+1) (by simpa using hi)
   rw [show j+1+i=j+(i+1) by omega,this];simp)]
  simp
theorem lstB_of (l:List Int):l=lstB (fun i=>l.getD i 0) 0 l.length:=(lstB_is l _ 0 (fun i _=>by rw [Nat.zero_add])).symm
def AV.mv0 (m z:Nat):AV->AV
 | .ptr i o=>.ptr (bif Nat.beq i m then z else i) o
 | .slc i o l c=>.slc (bif Nat.beq i m then z else i) o l c
 | .own i es k l=>.own (bif Nat.beq i m then z else i) es k l
 | a=>a
def mvs (m z:Nat):List AV->List AV
 | []=>[]
 | a :: t=>a.mv0 m z :: mvs m z t
def AV.mv (m z:Nat):AV->AV
 | .tup cs=>.tup (mvs m z cs)
 | a=>a.mv0 m z
open Classical in
section
variable {F:Fr} {ρ ρ':Ren} {h h0 h' ups:AH} {w w':World} {ids:List Nat} {top:Nat}
end
def stripQ:Tree (AV × AH)->Option (AV × AH)
 | .leaf a=>some a
 | .need true t=>stripQ t
 | _=>none
theorem stripQ_holds:∀ {t:Tree (AV × AH)} {r:AV × AH},stripQ t=some r->t.holds (fun q=>q=r)
 | .leaf a,r,h=>by simp [stripQ] at h;exact h
 | .need true t,r,h=>by simp only [stripQ] at h;exact ⟨rfl,stripQ_holds h⟩
 | .need false t,r,h=>by simp [stripQ] at h
 | .br _ _ _,r,h=>by simp [stripQ] at h
 | .same _ _ _,r,h=>by simp [stripQ] at h
 | .fail,r,h=>by simp [stripQ] at h
abbrev ActTab:=List (FuncId × (List AV->AH->Nat->Option (Bool × AV × AH)))
def lookAT:ActTab->FuncId->Option (List AV->AH->Nat->Option (Bool × AV × AH))
 | [],_=>none
 | (f,g) :: t,k=>bif Nat.beq f k then some g else lookAT t k
theorem lookAT_mem:∀ {ps:ActTab} {f:FuncId} {g},lookAT ps f=some g->(f,g) ∈ ps
 | [],f,g,h=>by simp [lookAT] at h
 | (k,q) :: t,f,g,h=>by
  simp only [lookAT] at h
  cases hb:Nat.beq k f with
  | true=>rw [hb] at h;simp at h;subst h;rw [Nat.eq_of_beq_eq_true hb];simp
  | false=>rw [hb] at h;exact List.mem_cons_of_mem _ (lookAT_mem h)
def TabAOk (P:Program) (ps:ActTab):Prop:=∀ p ∈ ps,Enters P p.1 /\ ActOk P 1 p.1 p.2
theorem TabAOk.nil {P:Program}:TabAOk P []:=fun p h=>by simp at h
theorem TabAOk.cons {P:Program} {f:FuncId} {g:List AV->AH->Nat->Option (Bool × AV × AH)} {t:ActTab} (h1:Enters P f) (h:ActOk P 1 f g) (r:TabAOk P t):TabAOk P ((f,g) :: t):=by
 intro p hp
 rcases List.mem_cons.1 hp with rfl | hp
 . exact ⟨h1,h⟩
 . exact r p hp
def envA (eqs:List (TypeId × List Nat)) (ps:PureTab) (hs:HeapTab) (ls:LayTab) (cs:ActTab) (ss:List TypeId) (ms:List Tmp) (fr:Bool) (ro:List FuncId):Env:=⟨lookP ps,lookHT hs,lookE eqs,false,true,ss,ms,lookLT ls,none,lookAT cs,fr,ro,1⟩
theorem envA_ok {P:Program} {eqs:List (TypeId × List Nat)} {ps:PureTab} {hs:HeapTab} {ls:LayTab} {cs:ActTab} {ss:List TypeId} {ms:List Tmp} {fr:Bool} {ro:List FuncId} (he:EqsOk P eqs) (hp:TabPOk P ps) (hh:TabHOk P hs) (hl:TabLOk P ls) (ha:TabAOk P cs):EnvOk P (envA eqs ps hs ls cs ss ms fr ro) :=
 ⟨fun _ _ h=>he _ (lookE_mem h),fun _ _ h=>hp _ (lookP_mem h),fun _ _ h=>hh _ (lookHT_mem h),fun _ _ h=>hl _ (lookLT_mem h),fun _ _ h=>ha _ (lookAT_mem h),Nat.le_refl 1⟩
def layN {α γ:Type} (A:Cod α) (t:TypeId) (C:CC γ) (ok:α->Bool) (R:AV) (F:α->γ):List AV->Nat->Option (Bool × AV × Blk)
 | [a],z=>match A.dec a with
  | none=>none
  | some x=>some (ok x,R.mv 0 z,⟨true,t,C.enc (F x)⟩)
 | _,_=>none
def bytL (b:Nat->Int):Nat->Nat->List AV
 | _,0=>[]
 | i,n+1=>.v (.int .u8 (b i)) :: bytL b (i+1) n
def bytV (b:Nat->Int):Nat->Nat->List Value
 | _,0=>[]
 | i,n+1=>.int .u8 (b i) :: bytV b (i+1) n
def bytD:Nat->List AV->Option (List Int)
 | 0,[]=>some []
 | n+1,a :: t=>match intOf .u8 a,bytD n t with
  | some x,some l=>some (x :: l)
  | _,_=>none
 | _,_=>none
theorem bytL_len (b:Nat->Int):∀ n i,(bytL b i n).length=n
 | 0,i=>rfl
 | n+1,i=>by simp [bytL,bytL_len b n]
theorem bytL_flat (b:Nat->Int):∀ n i,flats (bytL b i n)=some (bytV b i n)
 | 0,i=>rfl
 | n+1,i=>by simp only [bytL,bytV,flats,scal,bytL_flat b n]
theorem bytD_val {ρ:Ren}:∀ {n:Nat} {as:List AV} {vs:List Value} {l:List Int} (j:Nat) (f:Nat->Int),bytD n as=some l->Rvs ρ as vs->(∀ i,i < n->f (j+i)=l.getD i 0)->vs=bytV f j n
 | 0,[],vs,l,j,f,h,r,_=>by rw [r.unnil];rfl
 | 0,_ :: _,vs,l,j,f,h,r,_=>by cases h
 | n+1,[],vs,l,j,f,h,r,_=>by cases h
 | n+1,a :: t,vs,l,j,f,h,r,hf=>by
  simp only [bytD] at h
  split at h
  . rename_i x m hx hm
    simp at h;subst h
    obtain ⟨v,ys,rfl,hv,ht⟩:=r.uncons
    have h1:=(kInt .u8).h2 ρ a v x hx hv
    have h2:=bytD_val (j+1) f hm ht (fun i hi=>by
     have:=hf (i+1) (by omega)
     rw [show j+1+i=j+(i+1) by omega,this]
     rfl)
    have h3:=hf 0 (by omega)
    rw [h1,h2]
    show Value.int .u8 x :: bytV f (j+1) n=Value.int .u8 (f j) :: bytV f (j+1) n
    rw [show f j=x from h3]
  . cases h
def cBy (n:Nat):CC (Nat->Int) where
 n:=n
 enc b:=bytL b 0 n
 dec l:=match bytD n l with
  | some m=>some (fun i=>m.getD i 0)
  | none=>none
 val b:=bytV b 0 n
 len b:=bytL_len b n 0
 h1 b:=bytL_flat b n 0
 h2 ρ as vs x h r:=by
  split at h
  . rename_i m hm
    simp at h;subst h
    exact bytD_val 0 _ hm r (fun i _=>by rw [Nat.zero_add,List.getD_eq_getElem?_getD])
  . cases h
theorem rdpT_ok {β γ δ:Type} {P:Program} {E:Env} {sym:List Tmp} {lf f:Nat} {tab:γ->δ->BTab} {c:Code} {fn:Func} (hE:EnvOk P E) (hm:P.follows .mixedOrders=true) (hf:P.funcs.toList[f]?=some fn) (hb:fn.body=some c)
 (hok:codeOk E c=true) {D:MC δ} {C:CC γ} {B:Cod β} {F:γ->δ->β} {t:TypeId}
 (htab:∀ x z,TabOk P 1 (tab x z) c)
 (hr:∀ x z,GivesH (afun P E sym (tab x z) lf f (.ptr 0 0 :: D.enc z) (oneAH C t x) 1) (B.val (F x z))):HeapOk P f (rdp t C D B F):=by
 have key:∀ {as:List AV} {h:AH} {o:Bool × AV × AH},rdp t C D B F as h=some o->∃ i rest x z,as=.ptr i 0 :: rest /\ D.dec rest=some z /\ blkDec C t h i=some x /\ o=(true,B.enc (F x z),[]):=by
  intro as h o hg
  unfold rdp at hg
  split at hg
  . rename_i i rest
    split at hg
    . rename_i x z hx hz
      simp at hg
      exact ⟨i,rest,x,z,rfl,hz,hx,hg.symm⟩
    . cases hg
  . cases hg
 have again:∀ {as:List AV} {h h':AH} {o:Bool × AV × AH},rdp t C D B F as h=some o->(∀ i,i ∈ idsOf as->∀ B,h.get i=some B->h'.get i=some B)->rdp t C D B F as h'=some o:=by
  intro as h h' o hg hh
  obtain ⟨i,rest,x,z,rfl,hz,hx,rfl⟩:=key hg
  have hi:i ∈ idsOf (.ptr i 0 :: rest):=by simp [idsOf]
  unfold rdp
  simp only [hz,blkDec_congr (hh i hi) hx]
 refine ⟨?_,fun as h h' x hle hg=>again hg (fun i _ B hB=>hle i B hB),fun ρ as xs z b h x hx hz hg=>again hg (fun i hi B hB=>by
  rw [AH.get_cons,if_neg (fun e=>hx.ids_ne hz i hi e.symm)] at hB;exact hB),fun as h c' r ups hg=>?_,fun as h h' x hh hg=>again hg hh⟩
 . intro F' ρ as xs h r ups w hg hx hw
   obtain ⟨i,rest,x,z,rfl,hz,h1,ho⟩:=key hg
   simp at ho
   obtain ⟨rfl,rfl⟩:=ho
   obtain ⟨u,xs',rfl,hu,hx'⟩:=hx.uncons
   have hpv:=D.h2 ρ _ _ _ hz hx'
   subst hpv
   obtain ⟨b,cx,fr,p1,p2,p3,p4,p5⟩:=blk_again hw h1
   let σ:Ren:=⟨fun id=>if id=0 then some b else none,fun _=>cx.size,fun _=>ρ.base i⟩
   have hσ:σ 0=some b:=rfl
   have hRW:RW (frameOf w) σ (oneAH C t x) w:=by
    refine ⟨fun id B hB=>?_,fun id id' B B' d hB hB' hwr=>?_,fun _ _ h=>h,rfl,rfl,rfl,hw.gw⟩
    . unfold oneAH at hB
      rw [AH.get_cons] at hB
      split at hB
      . rename_i e;subst e;simp at hB;subst hB
        exact ⟨b,_,hσ,p2,.inl ⟨cx,fr,rfl,(fun h=>by cases h),p4,fun k a v ha hv=>p5 σ k a v ha hv⟩,(fun h=>by cases h),rfl⟩
      . simp [AH.get] at hB
    . unfold oneAH at hB
      rw [AH.get_cons] at hB
      split at hB
      . simp at hB;subst hB;cases hwr
      . simp [AH.get] at hB
   cases hu with
   | ptr hsb =>
    rw [p1] at hsb;simp at hsb;subst hsb
    have:=afun_calls hE hm hf hb hok (htab x z) (K:=fun q _=>flat q=some (B.val (F x z))) (hr x z).out (F:=frameOf w) (.cons (show Rv σ (.ptr 0 0) (.pointer (some ⟨b,ρ.base i+0,none⟩)) from Rv.ptr (ρ:=σ) hσ) (Rvs.of_flatL (D.h1 z))) hRW (fun id hid=>by show (if id=0 then some b else none)=none;rw [if_neg (by omega)])
    refine Calls.mono this ?_
    rintro e w' ⟨v',q',h',ρ',rfl,hk',hrv,hrw,_⟩
    have:=hrv.flat_eq hk'
    subst this
    exact ⟨_,rfl,.of_flat (B.h1 _),hw.below hrw.to_below⟩
 . obtain ⟨i,rest,x,z,_,_,_,ho⟩:=key hg
   simp at ho
   obtain ⟨_,_,rfl⟩:=ho
   simp
def ccIs {α:Type} (C:CC α) (y:α) (eqb:α->α->Bool) (h:∀ x,eqb x y=true->x=y):CC Unit where
 n:=C.n
 enc _:=C.enc y
 dec l:=match C.dec l with
  | some x=>bif eqb x y then some () else none
  | none=>none
 val _:=C.val y
 len _:=C.len y
 h1 _:=C.h1 y
 h2 ρ as vs x hd r:=by
  split at hd
  . rename_i z hz
    cases hb:eqb z y with
    | false=>rw [hb] at hd;cases hd
    | true=>rw [C.h2 ρ _ _ _ hz r,h z hb]
  . cases hd
theorem wrapI {n:Int} (h0:-9223372036854775808 <= n) (h1:n < 9223372036854775808):IntKind.i64.wrap n=n:=by
 simp only [IntKind.wrap,IntKind.bits,IntKind.signed]
 simp
 omega
def sqG {A:Type} (tw su:A->A) (bt:Int->Int):Nat->A->A
 | 0,u=>u
 | k+1,u=>sqG tw su bt k (bif bt (k:Int) == 1 then su (tw u) else tw u)
theorem sq_law {A:Type} (tw su:A->A) (bt:Int->Int) (rt:XS->Tree (AExit × XS)) (I:Int × A->XS) (hr:∀ (z:Int) (out:A),(rt (I (z,out))).strict =
 .br (decide (z >= 0))
  (.br (bt z == 1)
   (.leaf (.normal,I (IntKind.i64.wrap (z - 1),su (tw out))))
   (.leaf (.normal,I (IntKind.i64.wrap (z - 1),tw out))))
  (.leaf (.exit 0,I (z,out)))) {R:A} {Q:AExit->XS->Prop} (hK:Q .normal (I (-1,R))) :
 ∀ d:Int × A,(-1 <= d.1 /\ d.1 <= 383 /\ sqG tw su bt (d.1+1).toNat d.2=R)->(rt (I d)).holds (fun r=>match r.1 with
  | .normal=>∃ j:Int × A,(-1 <= j.1 /\ j.1 <= 383 /\ sqG tw su bt (j.1+1).toNat j.2=R) /\ (j.1+1).toNat < (d.1+1).toNat /\ r.2=I j
  | .exit q=>if q=0 then Q .normal r.2 else Q (.exit q) r.2
  | .ret=>Q .ret r.2):=by
 rintro ⟨z,out⟩ ⟨h0,h1,h2⟩
 apply Tree.holds_strict
 rw [hr]
 refine ⟨fun hz=>?_,fun hz=>?_⟩
 . have hz:0 <= z:=by simpa using hz
   have hw:IntKind.i64.wrap (z - 1)=z - 1:=wrapI (by omega) (by omega)
   have hk:(z+1).toNat=z.toNat+1:=by omega
   simp only at h2
   rw [hk] at h2
   simp only [sqG] at h2
   rw [show ((z.toNat:Nat):Int)=z by omega] at h2
   have hk':(z - 1+1).toNat=z.toNat:=by omega
   refine ⟨fun hb=>⟨⟨z - 1,su (tw out)⟩,⟨by simp only;omega,by simp only;omega,?_⟩,?_,?_⟩,fun hb=>⟨⟨z - 1,tw out⟩,⟨by simp only;omega,by simp only;omega,?_⟩,?_,?_⟩⟩
   . rw [hb] at h2
     simp only [hk']
     exact h2
   . show (z - 1+1).toNat < (z+1).toNat
     omega
   . rw [hw]
   . rw [hb] at h2
     simp only [hk']
     exact h2
   . show (z - 1+1).toNat < (z+1).toNat
     omega
   . rw [hw]
 . have hz:z=-1:=by
    have:¬ 0 <= z:=by simpa using hz
    omega
   subst hz
   have h2:out=R:=h2
   show (if (0:Nat)=0 then Q .normal (I (-1,out)) else Q (.exit 0) (I (-1,out)))
   rw [if_pos rfl,h2]
   exact hK
def nmS (k:AV->List Nat->List Nat) (a:AV) (acc:List Nat):List Nat:=match a with
 | .ptr i _=>i :: acc
 | .slc i _ _ _=>i :: acc
 | .own i _ _ _=>i :: acc
 | .mp i=>i :: acc
 | .agg cs=>cs.foldr k acc
 | .tup cs=>cs.foldr k acc
 | .fn _ as bs=>as.foldr k (bs.foldr k acc)
 | .ifc _ x=>k x acc
 | _=>acc
def nm1 (a:AV) (acc:List Nat):List Nat:=nmS (fun _ acc=>acc) a acc
def nm2 (a:AV) (acc:List Nat):List Nat:=nmS nm1 a acc
def nm3 (a:AV) (acc:List Nat):List Nat:=nmS nm2 a acc
theorem foldr_named {ρ:Ren} {k:AV->List Nat->List Nat} (hk:∀ a v acc i,Rv ρ a v->i ∈ k a acc->i ∈ acc \/ ρ i ≠ none) :
 ∀ {as:List AV} {xs:List Value} {acc:List Nat} {i:Nat},Rvs ρ as xs->i ∈ as.foldr k acc->i ∈ acc \/ ρ i ≠ none
 | [],xs,acc,i,_,hi=>.inl hi
 | a :: t,xs,acc,i,h,hi=>by
  obtain ⟨x,ys,rfl,hx,ht⟩:=h.uncons
  rcases hk a x _ i hx hi with hi | hi
  . exact foldr_named hk ht hi
  . exact .inr hi
theorem nmS_named {ρ:Ren} {k:AV->List Nat->List Nat} (hk:∀ a v acc i,Rv ρ a v->i ∈ k a acc->i ∈ acc \/ ρ i ≠ none) (a:AV) (v:Value) (acc:List Nat) (i:Nat) (h:Rv ρ a v) (hi:i ∈ nmS k a acc):i ∈ acc \/ ρ i ≠ none:=by
 cases a with
 | ptr j o =>
  cases h with
  | ptr hb =>
   rcases List.mem_cons.1 hi with rfl | hi
   . exact .inr (by rw [hb];simp)
   . exact .inl hi
 | slc j o l c =>
  cases h with
  | slc hb =>
   rcases List.mem_cons.1 hi with rfl | hi
   . exact .inr (by rw [hb];simp)
   . exact .inl hi
 | own j es k' l =>
  cases h with
  | own hb _ _ _ _ =>
   rcases List.mem_cons.1 hi with rfl | hi
   . exact .inr (by rw [hb];simp)
   . exact .inl hi
  | ownE hb _ =>
   rcases List.mem_cons.1 hi with rfl | hi
   . exact .inr (by rw [hb];simp)
   . exact .inl hi
 | agg cs=>obtain ⟨xs,rfl,hx⟩:=h.agg_iff;exact foldr_named hk hx hi
 | tup cs=>obtain ⟨xs,rfl,hx⟩:=h.tup_iff;exact foldr_named hk hx hi
 | fn f as bs =>
  obtain ⟨xs,ys,rfl,hx,hy⟩:=h.fn_iff
  rcases foldr_named hk hx hi with hi | hi
  . exact foldr_named hk hy hi
  . exact .inr hi
 | ifc t x=>cases h with | ifc h=>exact hk _ _ _ _ h hi
 | mp j =>
  cases h with
  | mp hb =>
   rcases List.mem_cons.1 hi with rfl | hi
   . exact .inr (by rw [hb];simp)
   . exact .inl hi
 | _=>exact .inl hi
theorem nm1_named {ρ:Ren} (a:AV) (v:Value) (acc:List Nat) (i:Nat) (h:Rv ρ a v) (hi:i ∈ nm1 a acc):i ∈ acc \/ ρ i ≠ none:=nmS_named (fun _ _ _ _ _ hi=>.inl hi) a v acc i h hi
theorem nm2_named {ρ:Ren} (a:AV) (v:Value) (acc:List Nat) (i:Nat) (h:Rv ρ a v) (hi:i ∈ nm2 a acc):i ∈ acc \/ ρ i ≠ none:=nmS_named nm1_named a v acc i h hi
theorem nm3_named {ρ:Ren} (a:AV) (v:Value) (acc:List Nat) (i:Nat) (h:Rv ρ a v) (hi:i ∈ nm3 a acc):i ∈ acc \/ ρ i ≠ none:=nmS_named nm2_named a v acc i h hi
def mvS (σ:Nat->Option Nat) (k:AV->AV):AV->AV
 | .ptr i o=>match σ i with
  | some z=>.ptr z o
  | none=>.any
 | .slc i o l c=>match σ i with
  | some z=>.slc z o l c
  | none=>.any
 | .own i es q l=>match σ i with
  | some z=>.own z es q l
  | none=>.any
 | .mp i=>match σ i with
  | some z=>.mp z
  | none=>.any
 | .agg cs=>.agg (cs.map k)
 | .tup cs=>.tup (cs.map k)
 | .fn f as bs=>.fn f (as.map k) (bs.map k)
 | .ifc t x=>.ifc t (k x)
 | a=>a
def mv1 (σ:Nat->Option Nat) (a:AV):AV:=mvS σ (fun _=>.any) a
def mv1' (σ:Nat->Option Nat) (a:AV):AV:=mvS σ (mv1 σ) a
def mv2 (σ:Nat->Option Nat) (a:AV):AV:=mvS σ (mv1' σ) a
def mv3 (σ:Nat->Option Nat) (a:AV):AV:=mvS σ (mv2 σ) a
def NmOk (ρ ρ':Ren) (σ:Nat->Option Nat):Prop:=∀ i z b,σ i=some z->ρ i=some b->ρ' z=some b /\ ρ'.cells z=ρ.cells i /\ ρ'.base z=ρ.base i
theorem Rvs.mapS {ρ ρ':Ren} {k:AV->AV} (hk:∀ a v,Rv ρ a v->Rv ρ' (k a) v):∀ {as:List AV} {xs:List Value},Rvs ρ as xs->Rvs ρ' (as.map k) xs
 | [],xs,h=>by rw [h.unnil];exact .nil
 | a :: t,xs,h=>by
  obtain ⟨x,ys,rfl,hx,ht⟩:=h.uncons
  exact .cons (hk _ _ hx) (Rvs.mapS hk ht)
theorem mvS_ok {ρ ρ':Ren} {σ:Nat->Option Nat} (M:NmOk ρ ρ' σ) {k:AV->AV} (hk:∀ a v,Rv ρ a v->Rv ρ' (k a) v) (a:AV) (v:Value) (h:Rv ρ a v):Rv ρ' (mvS σ k a) v:=by
 cases a with
 | ptr j o =>
  cases h with
  | ptr hb =>
   simp only [mvS]
   cases hs:σ j with
   | none=>exact .any _
   | some z =>
    obtain ⟨h1,-,h3⟩:=M j z _ hs hb
    simp only
    rw [<- h3];exact .ptr h1
 | slc j o l c =>
  cases h with
  | slc hb =>
   simp only [mvS]
   cases hs:σ j with
   | none=>exact .any _
   | some z =>
    obtain ⟨h1,-,h3⟩:=M j z _ hs hb
    simp only
    rw [<- h3];exact .slc h1
 | own j es q l =>
  cases h with
  | own hb h0 hc hl hm =>
   simp only [mvS]
   cases hs:σ j with
   | none=>exact .any _
   | some z =>
    obtain ⟨h1,h2,h3⟩:=M j z _ hs hb
    exact .own h1 (h3.trans h0) (hc.trans h2.symm) hl hm
  | ownE hb hk =>
   simp only [mvS]
   cases hs:σ j with
   | none=>exact .any _
   | some z =>
    obtain ⟨h1,-,-⟩:=M j z _ hs hb
    exact .ownE h1 hk
 | agg cs=>obtain ⟨xs,rfl,hx⟩:=h.agg_iff;simpa [mvS] using Rv.agg_mk (Rvs.mapS hk hx)
 | tup cs=>obtain ⟨xs,rfl,hx⟩:=h.tup_iff;simpa [mvS] using Rv.tup_mk (Rvs.mapS hk hx)
 | fn f as bs =>
  obtain ⟨xs,ys,rfl,hx,hy⟩:=h.fn_iff
  simpa [mvS] using Rv.fn_mk (f:=f) (Rvs.mapS hk hx) (Rvs.mapS hk hy)
 | ifc t x=>cases h with | ifc h=>exact .ifc (hk _ _ h)
 | any=>exact .any _
 | v x=>cases h;exact .v _
 | lit b=>cases h;exact .lit _
 | u x=>cases h;exact .u _
 | bit b=>cases h;exact .bit _
 | mk=>cases h
 | mp j =>
  cases h with
  | mp hb =>
   simp only [mvS]
   cases hs:σ j with
   | none=>exact .any _
   | some z =>
    obtain ⟨h1,-,-⟩:=M j z _ hs hb
    exact .mp h1
section
variable {ρ ρ':Ren} {σ:Nat->Option Nat} (M:NmOk ρ ρ' σ)
include M
theorem mv1_ok (a:AV) (v:Value) (h:Rv ρ a v):Rv ρ' (mv1 σ a) v:=mvS_ok M (fun _ _ _=>.any _) a v h
theorem mv1'_ok (a:AV) (v:Value) (h:Rv ρ a v):Rv ρ' (mv1' σ a) v:=mvS_ok M (mv1_ok M) a v h
theorem mv2_ok (a:AV) (v:Value) (h:Rv ρ a v):Rv ρ' (mv2 σ a) v:=mvS_ok M (mv1'_ok M) a v h
theorem mv3_ok (a:AV) (v:Value) (h:Rv ρ a v):Rv ρ' (mv3 σ a) v:=mvS_ok M (mv2_ok M) a v h
end
def idx (i:Nat):List Nat->Nat->Option Nat
 | [],_=>none
 | x :: t,n=>bif Nat.beq x i then some n else idx i t (n+1)
theorem idx_spec {i:Nat}:∀ {l:List Nat} {n m:Nat},idx i l n=some m->n <= m /\ l[m - n]?=some i
 | [],n,m,h=>by cases h
 | x :: t,n,m,h=>by
  simp only [idx] at h
  cases hb:Nat.beq x i with
  | true =>
   rw [hb] at h
   simp at h;subst h
   rw [Nat.eq_of_beq_eq_true hb]
   simp
  | false =>
   rw [hb] at h
   obtain ⟨h1,h2⟩:=idx_spec (l:=t) h
   refine ⟨by omega,?_⟩
   rw [show m - n=(m - (n+1))+1 by omega,List.getElem?_cons_succ]
   exact h2
theorem memN_spec {i:Nat}:∀ {l:List Nat},memN i l=true ↔ i ∈ l
 | []=>by simp [memN]
 | x :: t=>by
  simp only [memN]
  cases hb:Nat.beq i x with
  | true=>simp [Nat.eq_of_beq_eq_true hb]
  | false =>
   have:i ≠ x:=fun e=>by rw [e,Nat.beq_refl] at hb;cases hb
   have ih:=memN_spec (i:=i) (l:=t)
   rw [cond_false,List.mem_cons,ih]
   exact ⟨.inr,fun h=>h.resolve_left this⟩
def closeI (h:AH):Nat->List Nat->List Nat->Option (List Nat)
 | 0,_,_=>none
 | _+1,[],acc=>some acc
 | k+1,i :: t,acc=>bif memN i acc then closeI h k t acc else match AH.get h i with
  | none=>none
  | some B=>closeI h k (B.cs.foldr nm2 t) (acc ++ [i])
theorem closeI_in {h:AH}:∀ {k:Nat} {t acc l:List Nat},closeI h k t acc=some l->(∀ i ∈ acc,∃ B,h.get i=some B)->∀ i ∈ l,∃ B,h.get i=some B
 | 0,t,acc,l,e,_=>by cases e
 | k+1,[],acc,l,e,ha=>by simp [closeI] at e;subst e;exact ha
 | k+1,i :: t,acc,l,e,ha=>by
  simp only [closeI] at e
  cases hm:memN i acc with
  | true=>rw [hm] at e;exact closeI_in e ha
  | false =>
   rw [hm,cond_false] at e
   split at e
   . cases e
   . rename_i B hB
     refine closeI_in e fun j hj=>?_
     rcases List.mem_append.1 hj with hj | hj
     . exact ha j hj
     . simp at hj;subst hj;exact ⟨B,hB⟩
theorem closeI_nodup {h:AH}:∀ {k:Nat} {t acc l:List Nat},closeI h k t acc=some l->acc.Nodup->l.Nodup
 | 0,t,acc,l,e,_=>by cases e
 | k+1,[],acc,l,e,ha=>by simp [closeI] at e;subst e;exact ha
 | k+1,i :: t,acc,l,e,ha=>by
  simp only [closeI] at e
  cases hm:memN i acc with
  | true=>rw [hm] at e;exact closeI_nodup e ha
  | false =>
   rw [hm,cond_false] at e
   split at e
   . cases e
   . refine closeI_nodup e (List.nodup_append.2 ⟨ha,by simp,fun a h1 b h2=>?_⟩)
     simp at h2;subst h2
     rintro rfl
     rw [memN_spec.2 h1] at hm;cases hm
theorem closeI_mono {h h':AH} (hh:∀ id B,h.get id=some B->h'.get id=some B):∀ {k:Nat} {t acc l:List Nat},closeI h k t acc=some l->closeI h' k t acc=some l
 | 0,t,acc,l,e=>by cases e
 | k+1,[],acc,l,e=>e
 | k+1,i :: t,acc,l,e=>by
  simp only [closeI] at e ⊢
  cases hm:memN i acc with
  | true=>rw [hm] at e;exact closeI_mono hh e
  | false =>
   rw [hm,cond_false] at e
   split at e
   . cases e
   . rename_i B hB
     simp only [hh _ _ hB]
     exact closeI_mono hh e
theorem RW.cell {F:Fr} {ρ:Ren} {h:AH} {w:World} (r:RW F ρ h w) {i:Nat} {B:Blk} (hB:h.get i=some B):(∃ xs,Rvs ρ B.cs xs) \/ ∃ t xs,B.cs=.mk :: t /\ Rvs ρ t xs:=by
 obtain ⟨b,o,h1,h2,⟨xs,fr,rfl,h3,h4,h5⟩ | ⟨es,n,t,rfl,h3,h4⟩,h6⟩:=r.blk i B hB
 rotate_left
 . exact .inr ⟨t,_,h3,h4⟩
 refine .inl ⟨(xs.toList.drop (ρ.base i)).take B.cs.length,by simp;omega,fun j a x ha hx=>?_⟩
 rw [List.getElem?_take] at hx
 split at hx
 . rw [List.getElem?_drop] at hx
   exact h5 j a x ha (by simpa using hx)
 . cases hx
theorem closeI_local {F:Fr} {ρ:Ren} {h u:AH} {w:World} (r:RW F ρ h w) (hu:∀ p ∈ u,ρ p.1=none):∀ {k:Nat} {t acc l:List Nat},(∀ i ∈ t,ρ i ≠ none)->closeI (u ++ h) k t acc=some l->closeI h k t acc=some l
 | 0,t,acc,l,_,e=>by cases e
 | k+1,[],acc,l,_,e=>e
 | k+1,i :: t,acc,l,ht,e=>by
  simp only [closeI] at e ⊢
  have hi:AH.get (u ++ h) i=AH.get h i:=by
   rw [AH.get_append,if_neg]
   rintro ⟨p,hp,rfl⟩
   exact ht p.1 (by simp) (hu p hp)
  cases hm:memN i acc with
  | true=>rw [hm] at e;exact closeI_local r hu (fun j hj=>ht j (by simp [hj])) e
  | false =>
   rw [hm,cond_false,hi] at e
   split at e
   . cases e
   . rename_i B hB
     simp only [cond_false]
     refine closeI_local r hu (fun j hj=>?_) e
     have hj:j ∈ t \/ ρ j ≠ none:=by
      rcases r.cell hB with ⟨xs,hx⟩ | ⟨t',xs,hc,hx⟩
      . exact foldr_named nm2_named hx hj
      . rw [hc] at hj;exact foldr_named nm2_named hx hj
     rcases hj with hj | hj
     . exact ht j (by simp [hj])
     . exact hj
def closeX (h:AH) (top:Nat):Nat->List Nat->List Nat->List Nat
 | 0,_,acc=>acc
 | _+1,[],acc=>acc
 | k+1,i :: t,acc=>bif Nat.blt i top || memN i acc then closeX h top k t acc else match AH.get h i with
  | none=>closeX h top k t acc
  | some B=>closeX h top k (B.cs.foldr nm2 t) (acc ++ [i])
def namesH (h:AH):Nat->List Nat
 | 0=>[]
 | n+1=>match AH.get h n with
  | none=>namesH h n
  | some B=>B.cs.foldr nm2 (namesH h n)
def mapB (σ:Nat->Option Nat) (wr:Bool):Option Blk->Option Blk
 | some B=>some ⟨B.wr && wr,B.ty,B.cs.map (mv2 σ)⟩
 | none=>none
def inH (h:AH) (σ:Nat->Option Nat) (wr:Bool):List Nat->Nat->AH
 | [],_=>[]
 | i :: t,n=>(n,mapB σ wr (AH.get h i)) :: inH h σ wr t (n+1)
theorem inH_get {h:AH} {σ:Nat->Option Nat} {wr:Bool}:∀ {l:List Nat} {n j:Nat} {B:Blk},(inH h σ wr l n).get j=some B->∃ i B0,n <= j /\ l[j - n]?=some i /\ h.get i=some B0 /\ B=⟨B0.wr && wr,B0.ty,B0.cs.map (mv2 σ)⟩
 | [],n,j,B,e=>by simp [inH,AH.get] at e
 | i :: t,n,j,B,e=>by
  simp only [inH] at e
  rw [AH.get_cons] at e
  split at e
  . rename_i hj
    subst hj
    unfold mapB at e
    split at e
    . rename_i B0 hB0;simp at e;subst e;exact ⟨i,B0,Nat.le_refl _,by simp,hB0,rfl⟩
    . cases e
  . rename_i hj
    obtain ⟨i',B0,h1,h2,h3,h4⟩:=inH_get e
    refine ⟨i',B0,by omega,?_,h3,h4⟩
    rw [show j - n=(j - (n+1))+1 by omega,List.getElem?_cons_succ]
    exact h2
def oldH (h:AH) (σ:Nat->Option Nat):List Nat->Nat->AH
 | [],_=>[]
 | i :: t,n=>(i,mapB σ true (AH.get h n)) :: oldH h σ t (n+1)
def newH (h:AH) (σ:Nat->Option Nat):List Nat->Nat->AH
 | [],_=>[]
 | m :: t,z=>(z,mapB σ true (AH.get h m)) :: newH h σ t (z+1)
theorem oldH_dom {h:AH} {σ:Nat->Option Nat}:∀ {l:List Nat} {n:Nat},∀ p ∈ oldH h σ l n,p.1 ∈ l
 | [],n,p,hp=>by simp [oldH] at hp
 | i :: t,n,p,hp=>by
  simp only [oldH] at hp
  rcases List.mem_cons.1 hp with rfl | hp
  . simp
  . simp [oldH_dom p hp]
theorem newH_dom {h:AH} {σ:Nat->Option Nat}:∀ {l:List Nat} {z:Nat},∀ p ∈ newH h σ l z,z <= p.1 /\ p.1 < z+l.length
 | [],z,p,hp=>by simp [newH] at hp
 | m :: t,z,p,hp=>by
  simp only [newH] at hp
  rcases List.mem_cons.1 hp with rfl | hp
  . simp
  . have:=newH_dom p hp
    simp;omega
theorem oldH_get {h g:AH} {σ:Nat->Option Nat}:∀ {l:List Nat} {n id:Nat},(∃ j,l[j]?=some id /\ AH.get (oldH h σ l n ++ g) id=mapB σ true (AH.get h (n+j))) \/ (id ∉ l /\ AH.get (oldH h σ l n ++ g) id=AH.get g id)
 | [],n,id=>.inr ⟨by simp,rfl⟩
 | i :: t,n,id=>by
  by_cases hi:i=id
  . subst hi
    refine .inl ⟨0,rfl,?_⟩
    simp only [oldH,List.cons_append]
    rw [AH.get_cons,if_pos rfl,Nat.add_zero]
  . have e:AH.get (oldH h σ (i :: t) n ++ g) id=AH.get (oldH h σ t (n+1) ++ g) id:=by
     simp only [oldH,List.cons_append]
     rw [AH.get_cons,if_neg hi]
    rcases oldH_get (h:=h) (g:=g) (σ:=σ) (l:=t) (n:=n+1) (id:=id) with ⟨j,h1,h2⟩ | ⟨h1,h2⟩
    . refine .inl ⟨j+1,by simpa using h1,?_⟩
      rw [e,h2]
      congr 2
      omega
    . refine .inr ⟨fun hm=>(List.mem_cons.1 hm).elim (fun hh=>hi hh.symm) h1,e.trans h2⟩
theorem newH_get {h g:AH} {σ:Nat->Option Nat}:∀ {l:List Nat} {z id:Nat},(∃ j m,l[j]?=some m /\ id=z+j /\ AH.get (newH h σ l z ++ g) id=mapB σ true (AH.get h m)) \/ ((¬ (z <= id /\ id < z+l.length)) /\ AH.get (newH h σ l z ++ g) id=AH.get g id)
 | [],z,id=>.inr ⟨fun hh=>by have:=hh.1;have:=hh.2;simp only [List.length_nil] at *;omega,rfl⟩
 | m :: t,z,id=>by
  by_cases hi:z=id
  . subst hi
    refine .inl ⟨0,m,rfl,rfl,?_⟩
    simp only [newH,List.cons_append]
    rw [AH.get_cons,if_pos rfl]
  . have e:AH.get (newH h σ (m :: t) z ++ g) id=AH.get (newH h σ t (z+1) ++ g) id:=by
     simp only [newH,List.cons_append]
     rw [AH.get_cons,if_neg hi]
    rcases newH_get (h:=h) (g:=g) (σ:=σ) (l:=t) (z:=z+1) (id:=id) with ⟨j,m',h1,h2,h3⟩ | ⟨h1,h2⟩
    . exact .inl ⟨j+1,m',by simpa using h1,by omega,e.trans h3⟩
    . refine .inr ⟨?_,e.trans h2⟩
      simp only [List.length_cons];omega
def inM (ids:List Nat) (i:Nat):Option Nat:=idx i ids 0
def outM (ids L:List Nat) (z j:Nat):Option Nat:=bif Nat.blt j ids.length then ids[j]? else match idx j L 0 with
 | some k=>some (z+k)
 | none=>none
def nodB:List Nat->Bool
 | []=>true
 | x :: t=>!memN x t && nodB t
theorem nodB_spec:∀ {l:List Nat},nodB l=true->l.Nodup
 | [],_=>List.nodup_nil
 | x :: t,h=>by
  simp only [nodB,Bool.and_eq_true,Bool.not_eq_true'] at h
  refine List.nodup_cons.2 ⟨fun hm=>?_,nodB_spec h.2⟩
  rw [memN_spec.2 hm] at h
  cases h.1
def newOk (h:AH) (top:Nat):List Nat->Bool
 | []=>true
 | m :: t=>(Nat.ble top m && (match AH.get h m with
  | some B=>B.wr
  | none=>false)) && newOk h top t
theorem newOk_spec {h:AH} {top:Nat}:∀ {l:List Nat},newOk h top l=true->∀ m ∈ l,top <= m /\ ∃ B,h.get m=some B /\ B.wr=true
 | [],_,m,hm=>by simp at hm
 | x :: t,e,m,hm=>by
  simp only [newOk,Bool.and_eq_true] at e
  rcases List.mem_cons.1 hm with rfl | hm
  . obtain ⟨⟨h1,h2⟩,-⟩:=e
    refine ⟨Nat.le_of_ble_eq_true h1,?_⟩
    split at h2
    . rename_i B hB;exact ⟨B,hB,h2⟩
    . cases h2
  . exact newOk_spec e.2 m hm
def backL (kk:Nat) (rd:Bool) (ids:List Nat) (z:Nat) (r:AV) (h:AH) (L:List Nat):Option (Bool × AV × AH) :=
 bif Nat.ble L.length kk && (nodB L && newOk h ids.length L) then
  some (true,mv3 (outM ids L z) r,newH h (outM ids L z) L z ++ oldH h (outM ids L z) (bif rd then [] else ids) 0)
 else none
def deepG (P:Program) (E:Env) (sym:List Tmp) (lf f kk:Nat) (rd:Bool) (args:List AV) (h:AH) (z:Nat):Option (Bool × AV × AH) :=
 match closeI h 65536 (args.foldr nm3 []) [] with
 | none=>none
 | some ids=>match stripQ (afun P E sym (fun _=>none) lf f (args.map (mv3 (inM ids))) (inH h (inM ids) (!rd) ids 0) ids.length).strict with
  | none=>none
  | some (r,h')=>backL kk rd ids z r h' (closeX h' ids.length 65536 (nm3 r (bif rd then [] else namesH h' ids.length)) [])
def Ren.ins (ρ:Ren) (ids:List Nat):Ren:=⟨fun j=>match ids[j]? with
 | some i=>ρ i
 | none=>none,fun j=>match ids[j]? with
 | some i=>ρ.cells i
 | none=>0,fun j=>match ids[j]? with
 | some i=>ρ.base i
 | none=>0⟩
def atZ (L:List Nat) (z j:Nat):Option Nat:=if z <= j then L[j - z]? else none
def Ren.out (ρ ρ1:Ren) (L:List Nat) (z:Nat):Ren:=⟨fun j=>match atZ L z j with
 | some m=>ρ1 m
 | none=>ρ j,fun j=>match atZ L z j with
 | some m=>ρ1.cells m
 | none=>ρ.cells j,fun j=>match atZ L z j with
 | some m=>ρ1.base m
 | none=>ρ.base j⟩
theorem Ren.ins_at {ρ:Ren} {ids:List Nat} {j i:Nat} (h:ids[j]?=some i):(ρ.ins ids) j=ρ i /\ (ρ.ins ids).cells j=ρ.cells i /\ (ρ.ins ids).base j=ρ.base i:=by
 simp [Ren.ins,h]
theorem Ren.out_new {ρ ρ1:Ren} {L:List Nat} {z k m:Nat} (h:L[k]?=some m):(ρ.out ρ1 L z) (z+k)=ρ1 m /\ (ρ.out ρ1 L z).cells (z+k)=ρ1.cells m /\ (ρ.out ρ1 L z).base (z+k)=ρ1.base m:=by
 have:atZ L z (z+k)=some m:=by simp [atZ,h]
 simp [Ren.out,this]
theorem Ren.out_old {ρ ρ1:Ren} {L:List Nat} {z j:Nat} (h:¬ (z <= j /\ j < z+L.length)):(ρ.out ρ1 L z) j=ρ j /\ (ρ.out ρ1 L z).cells j=ρ.cells j /\ (ρ.out ρ1 L z).base j=ρ.base j:=by
 have:atZ L z j=none:=by
  unfold atZ
  split
  . rw [List.getElem?_eq_none_iff];omega
  . rfl
 simp [Ren.out,this]
open Classical in
noncomputable def deepF (ρ:Ren) (h:AH) (od:List Nat) (w:World):Fr:=⟨fun b=>if ∃ i B,i ∈ od /\ h.get i=some B /\ B.wr=true /\ ρ i=some b then none else w.heap[b]?,w.os,w.tape,w.output⟩
theorem deepF_none {ρ:Ren} {h:AH} {od:List Nat} {w:World} {b:Nat} (e:(deepF ρ h od w).blocks b=none):(∃ i B,i ∈ od /\ h.get i=some B /\ B.wr=true /\ ρ i=some b) \/ w.heap[b]?=none:=by
 unfold deepF at e
 simp only at e
 split at e
 . rename_i h1;exact .inl h1
 . exact .inr e
theorem deepF_some {ρ:Ren} {h:AH} {od:List Nat} {w:World} {b:Nat} {o:Obj} (e:¬ ∃ i B,i ∈ od /\ h.get i=some B /\ B.wr=true /\ ρ i=some b) (ho:w.heap[b]?=some o):(deepF ρ h od w).blocks b=some o:=by
 unfold deepF
 simp only
 rw [if_neg e,ho]
theorem NmOk.ins {ρ:Ren} {ids:List Nat}:NmOk ρ (ρ.ins ids) (inM ids):=by
 intro i z b hs hb
 obtain ⟨-,h2⟩:=idx_spec hs
 rw [Nat.sub_zero] at h2
 obtain ⟨g1,g2,g3⟩:=Ren.ins_at (ρ:=ρ) h2
 exact ⟨g1.trans hb,g2,g3⟩
theorem deep_in {F:Fr} {ρ:Ren} {h:AH} {w:World} (r:RW F ρ h w) {ids:List Nat} (rd:Bool) (hnd:ids.Nodup) :
 RW (deepF ρ h (bif rd then [] else ids) w) (ρ.ins ids) (inH h (inM ids) (!rd) ids 0) w:=by
 refine ⟨fun j B hB=>?_,fun j j' B B' b hB hB' hw hb hb'=>?_,fun b o ho=>?_,rfl,rfl,rfl,fun g cs e=>?_⟩
 rotate_left 3
 . obtain ⟨xs,ty,fr,g1,g2⟩:=r.gc g cs e
   refine ⟨xs,ty,fr,deepF_some ?_ (r.fr _ _ g1),g2⟩
   rintro ⟨i,B,-,k1,k2,k3⟩
   obtain ⟨b',o,l1,-,-,l4,-⟩:=r.blk i B k1
   rw [k3] at l1;simp at l1;subst l1
   rw [l4 k2] at g1;cases g1
 . obtain ⟨i,B0,-,h2,h3,rfl⟩:=inH_get hB
   rw [Nat.sub_zero] at h2
   obtain ⟨g1,g2,g3⟩:=Ren.ins_at (ρ:=ρ) h2
   obtain ⟨b,o,h4,h5,h6,h9,h10⟩:=r.blk i B0 h3
   refine ⟨b,_,g1.trans h4,h5,h6.turn (mv2 _) g3 (fun hw=>?_) rfl rfl rfl (fun a _ x hx=>mv2_ok NmOk.ins a x hx),fun hw=>?_,?_⟩
   . simp only [Bool.and_eq_true] at hw
     exact hw.1
   . simp only [Bool.and_eq_true,Bool.not_eq_true'] at hw
     unfold deepF
     simp only
     rw [hw.2,cond_false]
     exact if_pos ⟨i,B0,List.mem_of_getElem? h2,h3,hw.1,h4⟩
   . rw [g2];exact h10
 . obtain ⟨i,B0,-,h2,h3,rfl⟩:=inH_get hB
   obtain ⟨i',B0',-,h2',h3',rfl⟩:=inH_get hB'
   rw [Nat.sub_zero] at h2 h2'
   have g1:=(Ren.ins_at (ρ:=ρ) h2).1
   have g1':=(Ren.ins_at (ρ:=ρ) h2').1
   simp only [Bool.and_eq_true] at hw
   have e:=r.inj i i' B0 B0' b h3 h3' hw.1 (g1.symm.trans hb) (g1'.symm.trans hb')
   subst e
   obtain ⟨k1,k1'⟩:=List.getElem?_eq_some_iff.1 h2
   obtain ⟨k2,k2'⟩:=List.getElem?_eq_some_iff.1 h2'
   exact (List.getElem_inj hnd).1 (k1'.trans k2'.symm)
 . unfold deepF at ho
   simp only at ho
   split at ho
   . cases ho
   . exact ho
section
variable {F:Fr} {ρ ρ1:Ren} {h h':AH} {w w':World} {ids L:List Nat} {z kk:Nat} {rd:Bool}
theorem NmOk.out (hz:freeR ρ z kk) (hL:L.length <= kk) (he:∀ id,id < ids.length->Ren.eqAt ρ1 (ρ.ins ids) id):NmOk ρ1 (ρ.out ρ1 L z) (outM ids L z):=by
 intro j y b hs hb
 unfold outM at hs
 cases hlt:Nat.blt j ids.length with
 | true =>
  rw [hlt,cond_true] at hs
  have hlt:j < ids.length:=Nat.le_of_ble_eq_true hlt
  obtain ⟨g1,g2,g3⟩:=Ren.ins_at (ρ:=ρ) hs
  have e:=he j hlt
  have e1:(ρ.ins ids) j=some b:=e.f.symm.trans hb
  have e2:=e.cells b e1
  have hy:ρ y=some b:=g1.symm.trans e1
  obtain ⟨o1,o2,o3⟩:=Ren.out_old (ρ:=ρ) (ρ1:=ρ1) (L:=L) (z:=z) (j:=y) (fun hh=>by
   rw [hz y ⟨hh.1,by omega⟩] at hy;cases hy)
  exact ⟨o1.trans hy,o2.trans (g2.symm.trans e2.1.symm),o3.trans (g3.symm.trans e2.2.symm)⟩
 | false =>
  rw [hlt,cond_false] at hs
  split at hs
  . rename_i k hk
    simp at hs;subst hs
    obtain ⟨-,h2⟩:=idx_spec hk
    rw [Nat.sub_zero] at h2
    obtain ⟨g1,g2,g3⟩:=Ren.out_new (ρ:=ρ) (ρ1:=ρ1) (z:=z) h2
    exact ⟨g1.trans hb,g2,g3⟩
  . cases hs
theorem Ren.le_out (hz:freeR ρ z kk) (hL:L.length <= kk):ρ.le (ρ.out ρ1 L z):=by
 intro y b hy
 obtain ⟨o1,o2,o3⟩:=Ren.out_old (ρ:=ρ) (ρ1:=ρ1) (L:=L) (z:=z) (j:=y) (fun hh=>by
  rw [hz y ⟨hh.1,by omega⟩] at hy;cases hy)
 exact ⟨o1.trans hy,o2,o3⟩
theorem RB.moved {σ:Nat->Option Nat} {ρ2:Ren} (M:NmOk ρ1 ρ2 σ) {j y:Nat} {B:Blk} {o:Obj} (hb:ρ2.base y=ρ1.base j) (hr:RB ρ1 j B o):RB ρ2 y ⟨B.wr && true,B.ty,B.cs.map (mv2 σ)⟩ o:=by
 exact hr.turn (mv2 σ) hb (fun hw=>by simpa using hw) rfl rfl rfl (fun a _ x hx=>mv2_ok M a x hx)
theorem mapB_some {σ:Nat->Option Nat} {o:Option Blk} {B:Blk} (e:mapB σ true o=some B):∃ B0,o=some B0 /\ B=⟨B0.wr && true,B0.ty,B0.cs.map (mv2 σ)⟩:=by
 unfold mapB at e
 split at e
 . rename_i B0;simp at e;subst e;exact ⟨B0,rfl,by simp⟩
 . cases e
theorem deep_out (r:RW F ρ h w) (hin:∀ i ∈ ids,∃ B,h.get i=some B) (hz:freeR ρ z kk) (hL:L.length <= kk) (hnd:L.Nodup) (hnew:∀ m ∈ L,ids.length <= m /\ ∃ B,h'.get m=some B /\ B.wr=true)
 (r1:RW (deepF ρ h (bif rd then [] else ids) w) ρ1 h' w') (he:∀ id,id < ids.length->Ren.eqAt ρ1 (ρ.ins ids) id) :
 RW F (ρ.out ρ1 L z) ((newH h' (outM ids L z) L z ++ oldH h' (outM ids L z) (bif rd then [] else ids) 0) ++ h) w':=by
 have M:=NmOk.out (ρ:=ρ) (ρ1:=ρ1) (ids:=ids) hz hL he
 have hle:=Ren.le_out (ρ:=ρ) (ρ1:=ρ1) hz hL
 generalize hod:(bif rd then [] else ids)=od at r1
 have hsub:∀ {j i:Nat},od[j]?=some i->ids[j]?=some i:=by
  intro j i hj
  subst hod
  cases rd with
  | true=>simp at hj
  | false=>exact hj
 have hodi:∀ {i:Nat},i ∈ od->i ∈ ids:=by
  intro i hi
  subst hod
  cases rd with
  | true=>simp at hi
  | false=>exact hi
 generalize hσ:outM ids L z=σ at M
 have old:∀ {j y:Nat} {b:Nat},od[j]?=some y->ρ1 j=some b->ρ y=some b /\ ρ.cells y=ρ1.cells j /\ ρ.base y=ρ1.base j:=by
  intro j y b hj hb
  have hj:=hsub hj
  obtain ⟨g1,g2,g3⟩:=Ren.ins_at (ρ:=ρ) hj
  have e:=he j (List.getElem?_eq_some_iff.1 hj).1
  have e1:(ρ.ins ids) j=some b:=e.f.symm.trans hb
  have e2:=e.cells b e1
  exact ⟨g1.symm.trans e1,g2.symm.trans e2.1.symm,g3.symm.trans e2.2.symm⟩
 have wrF:∀ {b:Nat},(deepF ρ h od w).blocks b=none->F.blocks b=none:=by
  intro b hb
  rcases deepF_none hb with ⟨i,B,h0,h1,h2,h3⟩ | hn
  . obtain ⟨b',o,k1,k2,k3,k4,k5⟩:=r.blk i B h1
    rw [h3] at k1;simp at k1;subst k1
    exact k4 h2
  . cases hF:F.blocks b with
    | none=>rfl
    | some o=>have:=r.fr b o hF;rw [hn] at this;cases this
 have apart:∀ {b y:Nat} {C:Blk},(deepF ρ h od w).blocks b=none->h.get y=some C->y ∉ od->ρ y ≠ some b:=by
  intro b y C hb hC hy e
  rcases deepF_none hb with ⟨i,B,h0,h1,h2,h3⟩ | hn
  . have:=r.inj i y B C b h1 hC h2 h3 e
    subst this
    exact hy h0
  . obtain ⟨b',o,k1,k2,_⟩:=r.blk y C hC
    rw [e] at k1;simp at k1;subst k1
    rw [hn] at k2;cases k2
 have kind:∀ {id:Nat} {B:Blk},AH.get ((newH h' σ L z ++ oldH h' σ od 0) ++ h) id=some B ->
  (∃ k m B0,L[k]?=some m /\ id=z+k /\ h'.get m=some B0 /\ B=⟨B0.wr && true,B0.ty,B0.cs.map (mv2 σ)⟩) \/
  (¬ (z <= id /\ id < z+L.length) /\ ∃ j B0,od[j]?=some id /\ h'.get j=some B0 /\ B=⟨B0.wr && true,B0.ty,B0.cs.map (mv2 σ)⟩) \/
  (¬ (z <= id /\ id < z+L.length) /\ id ∉ od /\ h.get id=some B):=by
  intro id B hB
  rw [List.append_assoc] at hB
  rcases newH_get (h:=h') (g:=oldH h' σ od 0 ++ h) (σ:=σ) (l:=L) (z:=z) (id:=id) with ⟨k,m,h1,h2,h3⟩ | ⟨h1,h2⟩
  . rw [h3] at hB
    obtain ⟨B0,h4,h5⟩:=mapB_some hB
    exact .inl ⟨k,m,B0,h1,h2,h4,h5⟩
  . rw [h2] at hB
    rcases oldH_get (h:=h') (g:=h) (σ:=σ) (l:=od) (n:=0) (id:=id) with ⟨j,h3,h4⟩ | ⟨h3,h4⟩
    . rw [h4,Nat.zero_add] at hB
      obtain ⟨B0,h5,h6⟩:=mapB_some hB
      exact .inr (.inl ⟨h1,j,B0,h3,h5,h6⟩)
    . rw [h4] at hB
      exact .inr (.inr ⟨h1,h3,hB⟩)
 refine ⟨fun id B hB=>?_,fun id id' B B' b hB hB' hw hb hb'=>?_,fun b o ho=>?_,r1.os.trans r.os,r1.tape.trans r.tape,r1.out.trans r.out,r.gc⟩
 . rcases kind hB with ⟨k,m,B0,h1,rfl,h3,rfl⟩ | ⟨hn,j,B0,h1,h2,rfl⟩ | ⟨hn,h1,h2⟩
   . obtain ⟨b,o,g1,g2,g3,g4,g5⟩:=r1.blk m B0 h3
     obtain ⟨e1,e2,e3⟩:=Ren.out_new (ρ:=ρ) (ρ1:=ρ1) (z:=z) h1
     exact ⟨b,o,e1.trans g1,g2,RB.moved M e3 g3,fun hw=>wrF (g4 (by simpa using hw)),g5.trans e2.symm⟩
   . obtain ⟨b,o,g1,g2,g3,g4,g5⟩:=r1.blk j B0 h2
     obtain ⟨e1,e2,e3⟩:=old h1 g1
     obtain ⟨o1,o2,o3⟩:=Ren.out_old (ρ:=ρ) (ρ1:=ρ1) hn
     exact ⟨b,o,o1.trans e1,g2,RB.moved M (o3.trans e3) g3,fun hw=>wrF (g4 (by simpa using hw)),g5.trans (o2.trans e2).symm⟩
   . obtain ⟨b,o,g1,g2,g3,g4,g5⟩:=r.blk id B h2
     obtain ⟨o1,o2,o3⟩:=Ren.out_old (ρ:=ρ) (ρ1:=ρ1) hn
     refine ⟨b,o,o1.trans g1,r1.fr b o (deepF_some ?_ g2),g3.mono hle g1,g4,g5.trans o2.symm⟩
     rintro ⟨i,C,k0,k1,k2,k3⟩
     have:=r.inj i id C B b k1 h2 k2 k3 g1
     subst this
     exact h1 k0
 . have wr1:∀ {m:Nat} {B0:Blk} {b:Nat},h'.get m=some B0->B0.wr=true->ρ1 m=some b->(deepF ρ h od w).blocks b=none:=by
    intro m B0 b hm hw' hmb
    obtain ⟨b',o,g1,g2,g3,g4,g5⟩:=r1.blk m B0 hm
    rw [hmb] at g1;simp at g1;subst g1
    exact g4 hw'
   rcases kind hB with ⟨k,m,B0,h1,rfl,h3,rfl⟩ | ⟨hn,j,B0,h1,h2,rfl⟩ | ⟨hn,h1,h2⟩
   . have e1:=(Ren.out_new (ρ:=ρ) (ρ1:=ρ1) (z:=z) h1).1.symm.trans hb
     simp only [Bool.and_true] at hw
     rcases kind hB' with ⟨k',m',B0',h1',rfl,h3',rfl⟩ | ⟨hn',j',B0',h1',h2',rfl⟩ | ⟨hn',h1',h2'⟩
     . have e1':=(Ren.out_new (ρ:=ρ) (ρ1:=ρ1) (z:=z) h1').1.symm.trans hb'
       have:=r1.inj m m' B0 B0' b h3 h3' hw e1 e1'
       subst this
       obtain ⟨k1,k1'⟩:=List.getElem?_eq_some_iff.1 h1
       obtain ⟨k2,k2'⟩:=List.getElem?_eq_some_iff.1 h1'
       rw [(List.getElem_inj hnd).1 (k1'.trans k2'.symm)]
     . have o1:=(Ren.out_old (ρ:=ρ) (ρ1:=ρ1) hn').1.symm.trans hb'
       obtain ⟨b',o,g1,_⟩:=r1.blk j' B0' h2'
       have e2:=(old h1' g1).1
       rw [o1] at e2;simp at e2;subst e2
       have:=r1.inj m j' B0 B0' b h3 h2' hw e1 g1
       subst this
       have h4:=(hnew m (List.mem_of_getElem? h1)).1
       have h5:=(List.getElem?_eq_some_iff.1 (hsub h1')).1
       omega
     . have o1:=(Ren.out_old (ρ:=ρ) (ρ1:=ρ1) hn').1.symm.trans hb'
       exact absurd o1 (apart (wr1 h3 hw e1) h2' h1')
   . have o0:=(Ren.out_old (ρ:=ρ) (ρ1:=ρ1) hn).1.symm.trans hb
     obtain ⟨b0,o,g1,_⟩:=r1.blk j B0 h2
     have e2:=(old h1 g1).1
     rw [o0] at e2;simp at e2;subst e2
     simp only [Bool.and_true] at hw
     rcases kind hB' with ⟨k',m',B0',h1',rfl,h3',rfl⟩ | ⟨hn',j',B0',h1',h2',rfl⟩ | ⟨hn',h1',h2'⟩
     . have e1':=(Ren.out_new (ρ:=ρ) (ρ1:=ρ1) (z:=z) h1').1.symm.trans hb'
       have:=r1.inj j m' B0 B0' b h2 h3' hw g1 e1'
       subst this
       have h4:=(hnew j (List.mem_of_getElem? h1')).1
       have h5:=(List.getElem?_eq_some_iff.1 (hsub h1)).1
       omega
     . have o1:=(Ren.out_old (ρ:=ρ) (ρ1:=ρ1) hn').1.symm.trans hb'
       obtain ⟨b',o',g1',_⟩:=r1.blk j' B0' h2'
       have e2:=(old h1' g1').1
       rw [o1] at e2;simp at e2;subst e2
       have:=r1.inj j j' B0 B0' b h2 h2' hw g1 g1'
       subst this
       rw [h1] at h1';simp at h1';exact h1'
     . have o1:=(Ren.out_old (ρ:=ρ) (ρ1:=ρ1) hn').1.symm.trans hb'
       exact absurd o1 (apart (wr1 h2 hw g1) h2' h1')
   . have o0:=(Ren.out_old (ρ:=ρ) (ρ1:=ρ1) hn).1.symm.trans hb
     rcases kind hB' with ⟨k',m',B0',h1',rfl,h3',rfl⟩ | ⟨hn',j',B0',h1',h2',rfl⟩ | ⟨hn',h1',h2'⟩
     . have e1':=(Ren.out_new (ρ:=ρ) (ρ1:=ρ1) (z:=z) h1').1.symm.trans hb'
       obtain ⟨-,C,hC,hCw⟩:=hnew m' (List.mem_of_getElem? h1')
       exact absurd o0 (apart (wr1 hC hCw e1') h2 h1)
     . have o1:=(Ren.out_old (ρ:=ρ) (ρ1:=ρ1) hn').1.symm.trans hb'
       obtain ⟨C,hC⟩:=hin id' (hodi (List.mem_of_getElem? h1'))
       exact r.inj id id' B C b h2 hC hw o0 o1
     . have o1:=(Ren.out_old (ρ:=ρ) (ρ1:=ρ1) hn').1.symm.trans hb'
       exact r.inj id id' B B' b h2 h2' hw o0 o1
 . refine r1.fr b o (deepF_some ?_ (r.fr b o ho))
   rintro ⟨i,C,k0,k1,k2,k3⟩
   obtain ⟨b',o',g1,g2,g3,g4,g5⟩:=r.blk i C k1
   rw [k3] at g1;simp at g1;subst g1
   rw [g4 k2] at ho;cases ho
end
theorem deep_ok {P:Program} {E:Env} {sym:List Tmp} {lf f kk:Nat} {rd:Bool} (X:Ctx P E sym (fun _=>none) lf f):ActOk P kk f (deepG P E sym lf f kk rd):=by
 obtain ⟨fn,c,hf,hb,hok,htab⟩:=X.body
 have same:∀ {args:List AV} {h h':AH} {z:Nat} {x:Bool × AV × AH},(∀ ids,closeI h 65536 (args.foldr nm3 []) []=some ids->closeI h' 65536 (args.foldr nm3 []) []=some ids /\ ∀ i ∈ ids,h.get i=h'.get i) ->
  deepG P E sym lf f kk rd args h z=some x->deepG P E sym lf f kk rd args h' z=some x:=by
  intro args h h' z x hh hg
  unfold deepG at hg ⊢
  split at hg
  . cases hg
  . rename_i ids hi
    obtain ⟨h1,h2⟩:=hh ids hi
    have e:∀ (l:List Nat) (n:Nat),(∀ i ∈ l,h.get i=h'.get i)->inH h (inM ids) (!rd) l n=inH h' (inM ids) (!rd) l n:=by
     intro l
     induction l with
     | nil=>intro n _;rfl
     | cons i t ih =>
      intro n hl
      simp only [inH]
      rw [hl i (by simp),ih (n+1) (fun j hj=>hl j (by simp [hj]))]
    simp only [h1]
    rw [<- e ids 0 h2]
    exact hg
 have hin:∀ {args:List AV} {h:AH} {ids:List Nat},closeI h 65536 (args.foldr nm3 []) []=some ids->∀ i ∈ ids,∃ B,h.get i=some B:=fun e=>closeI_in e (fun i hi=>by simp at hi)
 refine ⟨?_,fun args h h' z x hle hg=>same (fun ids hi=>⟨closeI_mono hle hi,fun i hm=>?_⟩) hg,fun F ρ args xs z u h w x hx hw hu hg=>?_,fun args h z c' r ups hg=>?_⟩
 . intro F ρ args xs h z r ups w hg hx hw hz
   unfold deepG at hg
   split at hg
   . cases hg
   rename_i ids hi
   split at hg
   . cases hg
   rename_i r0 h0 hq
   unfold backL at hg
   obtain ⟨hc,hg⟩:=cond_some hg
   simp only [Bool.and_eq_true] at hc
   obtain ⟨c1,c2,c3⟩:=hc
   simp at hg
   obtain ⟨rfl,rfl⟩:=hg
   have hnd:ids.Nodup:=closeI_nodup hi List.nodup_nil
   have hcall:=afun_calls X.env X.mixed hf hb hok (tabOk_none c) (K:=fun a h'=>(a,h')=(r0,h0)) (Tree.holds_strict (Tree.holds_mono (fun a h=>h) (stripQ_holds hq))) (F:=deepF ρ h (bif rd then [] else ids) w)
    (Rvs.mapS (mv3_ok NmOk.ins) hx) (deep_in hw rd hnd) (fun id hid=>by
     have:ids[id]?=none:=by rw [List.getElem?_eq_none_iff];exact hid
     simp [Ren.ins,this])
   refine Calls.mono hcall ?_
   rintro e w' ⟨v,q,h',ρ',rfl,hk,hrv,hrw,hsame⟩
   simp at hk
   obtain ⟨rfl,rfl⟩:=hk
   have c1:=Nat.le_of_ble_eq_true c1
   refine ⟨v,ρ.out ρ' _ z,rfl,Ren.le_out hz c1,fun j hj=>?_,mv3_ok (NmOk.out hz c1 hsame) _ _ hrv,?_⟩
   . exact (Ren.out_old (fun hh=>hj ⟨hh.1,by omega⟩)).1
   . exact deep_out hw (hin hi) hz c1 (nodB_spec c2) (newOk_spec c3) hrw hsame
 . obtain ⟨B,hB⟩:=hin hi i hm
   rw [hB,hle i B hB]
 . refine same (fun ids hi=>?_) hg
   have hn:∀ i ∈ args.foldr nm3 [],ρ i ≠ none:=fun i hm=>(foldr_named nm3_named hx hm).resolve_left (by simp)
   have h1:=closeI_local hw hu hn hi
   refine ⟨h1,fun i hm=>?_⟩
   obtain ⟨B,hB⟩:=hin h1 i hm
   obtain ⟨b,o,g1,_⟩:=hw.blk i B hB
   rw [AH.get_append,if_neg]
   rintro ⟨p,hp,rfl⟩
   rw [hu p hp] at g1;cases g1
 . unfold deepG at hg
   split at hg
   . cases hg
   rename_i ids hi
   split at hg
   . cases hg
   unfold backL at hg
   obtain ⟨hc,hg⟩:=cond_some hg
   simp only [Bool.and_eq_true] at hc
   have c1:=Nat.le_of_ble_eq_true hc.1
   simp at hg
   obtain ⟨-,-,rfl⟩:=hg
   intro p hp
   rcases List.mem_append.1 hp with hp | hp
   . have:=newH_dom p hp
     exact .inl ⟨this.1,by omega⟩
   . refine .inr (hin hi p.1 ?_)
     have:=oldH_dom p hp
     cases rd with
     | true=>simp at this
     | false=>exact this
def TabDOk (P:Program) (kk:Nat) (ps:ActTab):Prop:=∀ p ∈ ps,Enters P p.1 /\ ActOk P kk p.1 p.2
theorem TabDOk.nil {P:Program} {kk:Nat}:TabDOk P kk []:=fun p h=>by simp at h
theorem TabDOk.cons {P:Program} {kk:Nat} {f:FuncId} {g:List AV->AH->Nat->Option (Bool × AV × AH)} {t:ActTab} (h1:Enters P f) (h:ActOk P kk f g) (r:TabDOk P kk t):TabDOk P kk ((f,g) :: t):=by
 intro p hp
 rcases List.mem_cons.1 hp with rfl | hp
 . exact ⟨h1,h⟩
 . exact r p hp
def envD (eqs:List (TypeId × List Nat)) (ps:PureTab) (hs:HeapTab) (ls:LayTab) (cs:ActTab) (ss:List TypeId) (fr:Bool) (ro:List FuncId):Env:=⟨lookP ps,lookHT hs,lookE eqs,false,true,ss,[],lookLT ls,none,lookAT cs,fr,ro,4096⟩
theorem envD_ok {P:Program} {eqs:List (TypeId × List Nat)} {ps:PureTab} {hs:HeapTab} {ls:LayTab} {cs:ActTab} {ss:List TypeId} {fr:Bool} {ro:List FuncId} (he:EqsOk P eqs) (hp:TabPOk P ps) (hh:TabHOk P hs) (hl:TabLOk P ls) (ha:TabDOk P 4096 cs):EnvOk P (envD eqs ps hs ls cs ss fr ro) :=
 ⟨fun _ _ h=>he _ (lookE_mem h),fun _ _ h=>hp _ (lookP_mem h),fun _ _ h=>hh _ (lookHT_mem h),fun _ _ h=>hl _ (lookLT_mem h),fun _ _ h=>ha _ (lookAT_mem h),(by show 1 <= 4096;omega)⟩
noncomputable def frcN {β:Type} (x:Nat) (f:Nat->β):β:=Nat.rec (f 0) (fun n _=>f (Nat.succ n)) x
theorem frcN_eq {β:Type} (x:Nat) (f:Nat->β):frcN x f=f x:=by cases x <;> rfl
noncomputable def frcB {β:Type} (x:Bool) (f:Bool->β):β:=Bool.rec (f false) (f true) x
theorem frcB_eq {β:Type} (x:Bool) (f:Bool->β):frcB x f=f x:=by cases x <;> rfl
noncomputable def frcZ {β:Type} (x:Int) (f:Int->β):β:=Int.rec (fun n=>frcN n fun m=>f (.ofNat m)) (fun n=>frcN n fun m=>f (.negSucc m)) x
theorem frcZ_eq {β:Type} (x:Int) (f:Int->β):frcZ x f=f x:=by
 cases x with
 | ofNat n=>exact frcN_eq n fun m=>f (.ofNat m)
 | negSucc n=>exact frcN_eq n fun m=>f (.negSucc m)
noncomputable def frcK {β:Type} (x:IntKind) (f:IntKind->β):β:=IntKind.rec (f .i8) (f .i16) (f .i32) (f .i64) (f .u8) (f .u16) (f .u32) (f .u64) x
theorem frcK_eq {β:Type} (x:IntKind) (f:IntKind->β):frcK x f=f x:=by cases x <;> rfl
noncomputable def frcV {β:Type} (x:Value) (f:Value->β):β:=match x with
 | .int k z=>frcK k fun k=>frcZ z fun z=>f (.int k z)
 | .bool b=>frcB b fun b=>f (.bool b)
 | x=>f x
theorem frcV_eq {β:Type} (x:Value) (f:Value->β):frcV x f=f x:=by
 unfold frcV
 split
 . rw [frcK_eq,frcZ_eq]
 . rw [frcB_eq]
 . rfl
noncomputable def frc0 {β:Type} (a:AV) (f:AV->β):β:=match a with
 | .u x=>frcN x.toNat fun n=>f (.u (BitVec.ofNat 64 n))
 | .v x=>frcV x fun x=>f (.v x)
 | .bit b=>frcB b fun b=>f (.bit b)
 | .lit b=>frcB b fun b=>f (.lit b)
 | .ptr i o=>frcN i fun i=>frcN o fun o=>f (.ptr i o)
 | .slc i o l c=>frcN i fun i=>frcN o fun o=>frcN l fun l=>frcN c fun c=>f (.slc i o l c)
 | .own i e k l=>frcN i fun i=>frcN e fun e=>frcN k fun k=>frcN l fun l=>f (.own i e k l)
 | .mp i=>frcN i fun i=>f (.mp i)
 | a=>f a
theorem frc0_eq {β:Type} (a:AV) (f:AV->β):frc0 a f=f a:=by
 unfold frc0
 split
 . rw [frcN_eq];congr 1;simp
 . rw [frcV_eq]
 . rw [frcB_eq]
 . rw [frcB_eq]
 . rw [frcN_eq,frcN_eq]
 . rw [frcN_eq,frcN_eq,frcN_eq,frcN_eq]
 . rw [frcN_eq,frcN_eq,frcN_eq,frcN_eq]
 . rw [frcN_eq]
 . rfl
noncomputable def frcL {α β:Type} (g:α->(α->β)->β) (l:List α):(List α->β)->β:=List.rec (motive:=fun _=>(List α->β)->β) (fun f=>f []) (fun a _ ih f=>g a fun a=>ih fun t=>f (a :: t)) l
theorem frcL_eq {α β:Type} {g:α->(α->β)->β} (hg:∀ a f,g a f=f a):∀ (l:List α) (f:List α->β),frcL g l f=f l
 | [],f=>rfl
 | a :: t,f=>by
  show g a (fun a=>frcL g t fun t=>f (a :: t))=_
  rw [hg,frcL_eq hg t]
noncomputable def frcS {β:Type} (g:AV->(AV->β)->β) (a:AV) (f:AV->β):β:=match a with
 | .agg cs=>frcL g cs fun cs=>f (.agg cs)
 | .tup cs=>frcL g cs fun cs=>f (.tup cs)
 | .fn h as bs=>frcL g as fun as=>frcL g bs fun bs=>f (.fn h as bs)
 | .ifc t x=>g x fun x=>f (.ifc t x)
 | a=>frc0 a f
theorem frcS_eq {β:Type} {g:AV->(AV->β)->β} (hg:∀ a f,g a f=f a) (a:AV) (f:AV->β):frcS g a f=f a:=by
 unfold frcS
 split
 . rw [frcL_eq hg]
 . rw [frcL_eq hg]
 . rw [frcL_eq hg,frcL_eq hg]
 . rw [hg]
 . rw [frc0_eq]
noncomputable def frc1 {β:Type} (a:AV) (f:AV->β):β:=frcS frc0 a f
theorem frc1_eq {β:Type} (a:AV) (f:AV->β):frc1 a f=f a:=frcS_eq frc0_eq a f
noncomputable def frc2 {β:Type} (a:AV) (f:AV->β):β:=frcS frc1 a f
theorem frc2_eq {β:Type} (a:AV) (f:AV->β):frc2 a f=f a:=frcS_eq frc1_eq a f
inductive PT where
 | lf (a:AV)
 | nd (l r:PT)
noncomputable def PT.get (t:PT):Nat->AV:=PT.rec (motive:=fun _=>Nat->AV) (fun a _=>a) (fun _ _ gl gr k=>cond (Nat.beq (Nat.mod k 2) 0) (gl (Nat.div k 2)) (gr (Nat.div k 2))) t
noncomputable def PT.setK {β:Type} (t:PT):Nat->AV->(PT->β)->β:=PT.rec (motive:=fun _=>Nat->AV->(PT->β)->β) (fun _ _ a f=>f (.lf a))
 (fun l r sl sr k a f=>cond (Nat.beq (Nat.mod k 2) 0) (sl (Nat.div k 2) a fun l=>f (.nd l r)) (sr (Nat.div k 2) a fun r=>f (.nd l r))) t
noncomputable def PT.set (t:PT) (k:Nat) (a:AV):PT:=t.setK k a id
def PT.deep:PT->Nat->Prop
 | .lf _,0=>True
 | .nd l r,d+1=>l.deep d /\ r.deep d
 | _,_=>False
def PT.uni:Nat->PT
 | 0=>.lf (.v undef)
 | d+1=>.nd (PT.uni d) (PT.uni d)
theorem PT.uni_deep:∀ d,(PT.uni d).deep d
 | 0=>trivial
 | d+1=>⟨PT.uni_deep d,PT.uni_deep d⟩
theorem PT.uni_get:∀ d k,(PT.uni d).get k=.v undef
 | 0,k=>rfl
 | d+1,k=>by
  show cond (Nat.beq (Nat.mod k 2) 0) ((PT.uni d).get (Nat.div k 2)) ((PT.uni d).get (Nat.div k 2))=_
  rw [PT.uni_get d]
  cases Nat.beq (Nat.mod k 2) 0 <;> rfl
theorem PT.setK_eq {β:Type}:∀ (t:PT) (k:Nat) (a:AV) (f:PT->β),t.setK k a f=f (t.set k a)
 | .lf _,k,a,f=>rfl
 | .nd l r,k,a,f=>by
  show cond _ (l.setK (Nat.div k 2) a fun l=>f (.nd l r)) (r.setK (Nat.div k 2) a fun r=>f (.nd l r))=f (cond _ (l.setK (Nat.div k 2) a fun l=>id (.nd l r)) (r.setK (Nat.div k 2) a fun r=>id (.nd l r)))
  rw [PT.setK_eq l,PT.setK_eq r,PT.setK_eq l,PT.setK_eq r]
  cases Nat.beq (Nat.mod k 2) 0 <;> rfl
theorem PT.set_nd (l r:PT) (k:Nat) (a:AV):(PT.nd l r).set k a=cond (Nat.beq (Nat.mod k 2) 0) (.nd (l.set (Nat.div k 2) a) r) (.nd l (r.set (Nat.div k 2) a)):=by
 show cond _ (l.setK (Nat.div k 2) a fun l=>id (PT.nd l r)) (r.setK (Nat.div k 2) a fun r=>id (PT.nd l r))=_
 rw [PT.setK_eq l,PT.setK_eq r]
 rfl
theorem PT.set_deep:∀ {t:PT} {d k:Nat} {a:AV},t.deep d->(t.set k a).deep d
 | .lf _,0,k,a,h=>trivial
 | .nd l r,d+1,k,a,h=>by
  rw [PT.set_nd]
  cases Nat.beq (Nat.mod k 2) 0
  . exact ⟨h.1,PT.set_deep h.2⟩
  . exact ⟨PT.set_deep h.1,h.2⟩
 | .lf _,d+1,k,a,h=>h.elim
 | .nd _ _,0,k,a,h=>h.elim
theorem beq_iff (x y:Nat):Nat.beq x y=true ↔ x=y:=⟨Nat.eq_of_beq_eq_true,fun h=>by rw [h];exact Nat.beq_refl y⟩
theorem beq_off {x y:Nat}:Nat.beq x y=false ↔ x ≠ y:=by
 constructor
 . intro h e
   rw [(beq_iff x y).2 e] at h;cases h
 . intro h
   cases hb:Nat.beq x y with
   | false=>rfl
   | true=>exact absurd ((beq_iff x y).1 hb) h
theorem PT.get_set:∀ {t:PT} {d k j:Nat} {a:AV},t.deep d->k < 2 ^ d->j < 2 ^ d->(t.set k a).get j=if k=j then a else t.get j
 | .lf _,0,k,j,a,_,hk,hj=>by
  rw [Nat.pow_zero] at hk hj
  rw [if_pos (by omega)];rfl
 | .nd l r,d+1,k,j,a,h,hk,hj=>by
  rw [Nat.pow_succ] at hk hj
  have hk2:Nat.div k 2 < 2 ^ d:=by show k / 2 < _;omega
  have hj2:Nat.div j 2 < 2 ^ d:=by show j / 2 < _;omega
  have il:=PT.get_set (t:=l) (a:=a) h.1 hk2 hj2
  have ir:=PT.get_set (t:=r) (a:=a) h.2 hk2 hj2
  have gn:∀ (x y:PT),(PT.nd x y).get j=cond (Nat.beq (Nat.mod j 2) 0) (x.get (Nat.div j 2)) (y.get (Nat.div j 2)):=fun _ _=>rfl
  have e1:Nat.mod k 2=k % 2:=rfl
  have e2:Nat.mod j 2=j % 2:=rfl
  have e3:Nat.div k 2=k / 2:=rfl
  have e4:Nat.div j 2=j / 2:=rfl
  rw [PT.set_nd,gn l r]
  rw [e3,e4] at il ir
  by_cases ck:k % 2=0
  . rw [(beq_iff _ _).2 (e1.trans ck),cond_true,gn]
    by_cases cj:j % 2=0
    . rw [(beq_iff _ _).2 (e2.trans cj),cond_true,cond_true,e3,e4,il]
      by_cases e:k=j
      . rw [if_pos e,if_pos (by omega)]
      . rw [if_neg e,if_neg (by omega)]
    . rw [beq_off.2 (fun h=>cj (e2.symm.trans h)),cond_false,cond_false,if_neg (by omega)]
  . rw [beq_off.2 (fun h=>ck (e1.symm.trans h)),cond_false,gn]
    by_cases cj:j % 2=0
    . rw [(beq_iff _ _).2 (e2.trans cj),cond_true,cond_true,if_neg (by omega)]
    . rw [beq_off.2 (fun h=>cj (e2.symm.trans h)),cond_false,cond_false,e3,e4,ir]
      by_cases e:k=j
      . rw [if_pos e,if_pos (by omega)]
      . rw [if_neg e,if_neg (by omega)]
 | .lf _,d+1,k,j,a,h,_,_=>h.elim
 | .nd _ _,0,k,j,a,h,_,_=>h.elim
end Go.Rq
