import Derived.Test.YtedplhdabefnkaaGreatDoorRq22
import Derived.Test.YtedplhdabefnkaaGreatDoorRq23
import Derived.Test.YtedplhdabefnkaaGreatDoorRq24
import Derived.Test.YtedplhdabefnkaaGreatDoorRq25
import Derived.Test.YtedplhdabefnkaaGreatDoorRq09
import Derived.Test.YtedplhdabefnkaaGreatDoorRq04
import Derived.Test.YtedplhdabefnkaaGreatDoorRq05
import Derived.Test.YtedplhdabefnkaaGreatDoorRq06
namespace Go.Rq.Cl
open Go Go.Proofs Go.Rq Go.Rq.Sm
theorem listAt {α:Type} {f g:Nat->α} {n:Nat} (h:(List.range n).map f=(List.range n).map g) {t:Nat} (ht:t < n):f t=g t:=by
 have:=congrArg (fun l=>l[t]?) h
 simpa [ht] using this
section
variable (R:Int->Int->Int) (s b:Nat->Int) (p:BP) (w v z:Nat->Int)
theorem b1_round {t:Nat} (ht:t < 64):(roundT PR (bkE R) [] (fun _=>none) 10 (b1K p) (b1K p) (b1K p) b1C (b1I R s b p (t,w))).strict=.leaf (.normal,b1I R s b p (t+1,upd w t (wv R b w t))):=by
 cases p with
 | hash n md=>exact listAt (b1_rounds_a R s b w n md) ht
 | row wb=>exact listAt (b1_rounds_b R s b w wb) ht
 | low wb q=>exact listAt (b1_rounds_c R s b w wb q) ht
 | high wb q=>exact listAt (b1_rounds_d R s b w wb q) ht
theorem b1_end:(roundT PR (bkE R) [] (fun _=>none) 10 (b1K p) (b1K p) (b1K p) b1C (b1I R s b p (64,w))).strict=.leaf (.exit 0,b1I R s b p (64,w)):=by
 cases p with
 | hash n md=>exact b1_end_a R s b w n md
 | row wb=>exact b1_end_b R s b w wb
 | low wb q=>exact b1_end_c R s b w wb q
 | high wb q=>exact b1_end_d R s b w wb q
theorem b1_head:b1X R s b p=b1I R s b p (0,fun _=>0):=by
 cases p with
 | hash n md=>exact b1_head_a R s b n md
 | row wb=>exact b1_head_b R s b wb
 | low wb q=>exact b1_head_c R s b wb q
 | high wb q=>exact b1_head_d R s b wb q
theorem b2_round {t:Nat} (ht:t < 64):(roundT PR (bkE R) [] (fun _=>none) 10 (b2K p) (b2K p) (b2K p) b2C (b2I R s b p w (t,v))).strict=.leaf (.normal,b2I R s b p w (t+1,rv R w v t)):=by
 have key:∀ {f g:Nat->Tree (AExit × XS)} (_:(List.range 16).map (fun t=>f (0+t))=(List.range 16).map (fun t=>g (0+t))) (_:(List.range 16).map (fun t=>f (16+t))=(List.range 16).map (fun t=>g (16+t)))
  (_:(List.range 16).map (fun t=>f (32+t))=(List.range 16).map (fun t=>g (32+t))) (_:(List.range 16).map (fun t=>f (48+t))=(List.range 16).map (fun t=>g (48+t))),f t=g t:=by
  intro f g h0 h1 h2 h3
  by_cases c0:t < 16
  . have:=listAt (f:=fun t=>f (0+t)) (g:=fun t=>g (0+t)) h0 c0
    simpa using this
  . by_cases c1:t < 32
    . have:=listAt (f:=fun t=>f (16+t)) (g:=fun t=>g (16+t)) h1 (t:=t - 16) (by omega)
      rw [show 16+(t - 16)=t by omega] at this
      exact this
    . by_cases c2:t < 48
      . have:=listAt (f:=fun t=>f (32+t)) (g:=fun t=>g (32+t)) h2 (t:=t - 32) (by omega)
        rw [show 32+(t - 32)=t by omega] at this
        exact this
      . have:=listAt (f:=fun t=>f (48+t)) (g:=fun t=>g (48+t)) h3 (t:=t - 48) (by omega)
        rw [show 48+(t - 48)=t by omega] at this
        exact this
 refine key (f:=fun t=>(roundT PR (bkE R) [] (fun _=>none) 10 (b2K p) (b2K p) (b2K p) b2C (b2I R s b p w (t,v))).strict) (g:=fun t=>.leaf (.normal,b2I R s b p w (t+1,rv R w v t))) ?_ ?_ ?_ ?_
 . cases p with
   | hash n md=>exact b2_rounds0_a R s b w v n md
   | row wb=>exact b2_rounds0_b R s b w v wb
   | low wb q=>exact b2_rounds0_c R s b w v wb q
   | high wb q=>exact b2_rounds0_d R s b w v wb q
 . cases p with
   | hash n md=>exact b2_rounds1_a R s b w v n md
   | row wb=>exact b2_rounds1_b R s b w v wb
   | low wb q=>exact b2_rounds1_c R s b w v wb q
   | high wb q=>exact b2_rounds1_d R s b w v wb q
 . cases p with
   | hash n md=>exact b2_rounds2_a R s b w v n md
   | row wb=>exact b2_rounds2_b R s b w v wb
   | low wb q=>exact b2_rounds2_c R s b w v wb q
   | high wb q=>exact b2_rounds2_d R s b w v wb q
 . cases p with
   | hash n md=>exact b2_rounds3_a R s b w v n md
   | row wb=>exact b2_rounds3_b R s b w v wb
   | low wb q=>exact b2_rounds3_c R s b w v wb q
   | high wb q=>exact b2_rounds3_d R s b w v wb q
theorem b2_end:(roundT PR (bkE R) [] (fun _=>none) 10 (b2K p) (b2K p) (b2K p) b2C (b2I R s b p w (64,v))).strict=.leaf (.exit 2,b2I R s b p w (64,v)):=by
 cases p with
 | hash n md=>exact b2_end_a R s b w v n md
 | row wb=>exact b2_end_b R s b w v wb
 | low wb q=>exact b2_end_c R s b w v wb q
 | high wb q=>exact b2_end_d R s b w v wb q
theorem b2_head:b2X R s b p w=b2I R s b p w (0,s):=by
 cases p with
 | hash n md=>exact b2_head_a R s b w n md
 | row wb=>exact b2_head_b R s b w wb
 | low wb q=>exact b2_head_c R s b w wb q
 | high wb q=>exact b2_head_d R s b w wb q
theorem b3_round {t:Nat} (ht:t < 8):(roundT PR (bkE R) [] (fun _=>none) 10 (b3K p) (b3K p) (b3K p) b3C (b3I R s b p w v (t,z))).strict=.leaf (.normal,b3I R s b p w v (t+1,zv v z t)):=by
 cases p with
 | hash n md=>exact listAt (b3_rounds_a R s b w v z n md) ht
 | row wb=>exact listAt (b3_rounds_b R s b w v z wb) ht
 | low wb q=>exact listAt (b3_rounds_c R s b w v z wb q) ht
 | high wb q=>exact listAt (b3_rounds_d R s b w v z wb q) ht
theorem b3_end:(roundT PR (bkE R) [] (fun _=>none) 10 (b3K p) (b3K p) (b3K p) b3C (b3I R s b p w v (8,z))).strict=.leaf (.exit 4,b3I R s b p w v (8,z)):=by
 cases p with
 | hash n md=>exact b3_end_a R s b w v z n md
 | row wb=>exact b3_end_b R s b w v z wb
 | low wb q=>exact b3_end_c R s b w v z wb q
 | high wb q=>exact b3_end_d R s b w v z wb q
theorem b3_head:b3X R s b p w v=b3I R s b p w v (0,s):=by
 cases p with
 | hash n md=>exact b3_head_a R s b w v n md
 | row wb=>exact b3_head_b R s b w v wb
 | low wb q=>exact b3_head_c R s b w v wb q
 | high wb q=>exact b3_head_d R s b w v wb q
theorem bk_run:((afun PR (bkE R) [] (tabOf [(0,b1B R s b p w),(2,b2B R s b p w v),(4,b3B R s b p w v z)]) 10 225 (bpArgs p) (bpHeap s b p) (bpN p)).bind fun q=>.leaf (AV.tup [q.1,bkOut q.2])).strict =
 .same (b1X R s b p) (b1X R s b p) (.same (b2X R s b p w) (b2X R s b p w) (.same (b3X R s b p w v) (b3X R s b p w v) (.leaf (.tup [.tup [],bkOut (bpHeap2 z b p)])))):=by
 cases p with
 | hash n md=>exact bk_run_a R s b w v z n md
 | row wb=>exact bk_run_b R s b w v z wb
 | low wb q=>exact bk_run_c R s b w v z wb q
 | high wb q=>exact bk_run_d R s b w v z wb q
end
def wN (R:Int->Int->Int) (b:Nat->Int):Nat->(Nat->Int)
 | 0=>fun _=>0
 | t+1=>upd (wN R b t) t (wv R b (wN R b t) t)
def vN (R:Int->Int->Int) (w s:Nat->Int):Nat->(Nat->Int)
 | 0=>s
 | t+1=>rv R w (vN R w s t) t
def zN (v s:Nat->Int):Nat->(Nat->Int)
 | 0=>s
 | t+1=>zv v (zN v s t) t
theorem upTo {P:Program} {E:Env} (hE:EnvOk P E) (hm:P.follows .mixedOrders=true) {F:Fr} {ds:List Deferred} {m id:Nat} {sym:List Tmp} {lf:Nat} {k:Keep} (h1:m <= k.n) {c:Code} {Q:AExit->XS->Prop} (hok:codeOk E c=true)
 {N:Nat} {I:Nat × (Nat->Int)->XS} {D:Nat->(Nat->Int)} (hr:∀ t,t < N->(roundT P E sym (fun _=>none) lf k k k c (I (t,D t))).strict=.leaf (.normal,I (t+1,D (t+1))))
 (he:(roundT P E sym (fun _=>none) lf k k k c (I (N,D N))).strict=.leaf (.exit id,I (N,D N))) (hK:Q .normal (I (N,D N))):Tri P F ds m (.block id (.loop c)) (I (0,D 0)) Q:=by
 refine blockLoop (sym:=sym) (lf:=lf) (k:=k) (kx:=k) (kr:=k) hE hm h1 h1 h1 hok (tabOk_none _) I (fun d=>d.1 <= N /\ d.2=D d.1) (fun d=>N - d.1) (0,D 0) ⟨Nat.zero_le _,rfl⟩ ?_
 rintro ⟨t,d⟩ ⟨h2,h3⟩
 simp only at h2 h3
 subst h3
 apply Tree.holds_strict
 by_cases h:t < N
 . rw [hr t h]
   exact ⟨(t+1,D (t+1)),⟨by simp only;omega,rfl⟩,by simp only;omega,rfl⟩
 . obtain rfl:t=N:=by omega
   rw [he]
   show (if id=id then Q .normal _ else _)
   rw [if_pos rfl]
   exact hK
theorem bk_cod1:codeOk (bkE rgF) b1C=true:=by kernel_rfl
theorem bk_cod2:codeOk (bkE rgF) b2C=true:=by kernel_rfl
theorem bk_cod3:codeOk (bkE rgF) b3C=true:=by kernel_rfl
theorem bk_cod:codeOk (bkE rgF) (bodyOf PR 225)=true:=by kernel_rfl
theorem bk_blk1:blkAll 0 (bodyOf PR 225)=[.loop b1C]:=by kernel_rfl
theorem bk_blk2:blkAll 2 (bodyOf PR 225)=[.loop b2C]:=by kernel_rfl
theorem bk_blk3:blkAll 4 (bodyOf PR 225)=[.loop b3C]:=by kernel_rfl
def wF (b:Nat->Int):Nat->Int:=wN rgF b 64
def vF (s b:Nat->Int):Nat->Int:=vN rgF (wF b) s 64
def shaF (s b:Nat->Int):Nat->Int:=zN (vF s b) s 8
noncomputable def bkTab (s b:Nat->Int) (p:BP):BTab:=tabOf [(0,b1B rgF s b p (wF b)),(2,b2B rgF s b p (wF b) (vF s b)),(4,b3B rgF s b p (wF b) (vF s b) (shaF s b))]
theorem b1B_n (R:Int->Int->Int) (s b:Nat->Int) (p:BP) (w:Nat->Int):(b1B R s b p w).n=bpN p+2 /\ (b1B R s b p w).pre=b1X R s b p /\ (b1B R s b p w).post=.leaf (.normal,b1I R s b p (64,w)):=by
 unfold b1B
 exact ⟨rfl,rfl,rfl⟩
theorem b2B_n (R:Int->Int->Int) (s b:Nat->Int) (p:BP) (w v:Nat->Int):(b2B R s b p w v).n=bpN p+8 /\ (b2B R s b p w v).pre=b2X R s b p w /\ (b2B R s b p w v).post=.leaf (.normal,b2I R s b p w (64,v)):=by
 unfold b2B
 exact ⟨rfl,rfl,rfl⟩
theorem b3B_n (R:Int->Int->Int) (s b:Nat->Int) (p:BP) (w v z:Nat->Int):(b3B R s b p w v z).n=bpN p+9 /\ (b3B R s b p w v z).pre=b3X R s b p w v /\ (b3B R s b p w v z).post=.leaf (.normal,b3I R s b p w v (8,z)):=by
 unfold b3B
 exact ⟨rfl,rfl,rfl⟩
theorem bk_tab (s b:Nat->Int) (p:BP):TabOk PR (bpN p) (bkTab s b p) (bodyOf PR 225):=by
 refine tabOk_of fun i e he=>?_
 simp only [bkTab,tabOf] at he
 cases hb:Nat.beq 0 i with
 | true =>
  obtain rfl:=Nat.eq_of_beq_eq_true hb
  rw [hb,cond_true] at he
  simp only [Option.some.injEq] at he
  subst he
  obtain ⟨e1,e2,e3⟩:=b1B_n rgF s b p (wF b)
  rw [e1,e2,e3,bk_blk1]
  refine ⟨by omega,fun q hq F ds K hK=>?_⟩
  simp only [List.mem_cons,List.not_mem_nil,or_false] at hq
  subst hq
  rw [b1_head]
  exact upTo bkE_ok mixed (by show bpN p <= bpN p+2;omega) bk_cod1 (D:=wN rgF b) (fun t ht=>b1_round rgF s b p (wN rgF b t) ht) (b1_end rgF s b p (wN rgF b 64)) hK
 | false =>
  rw [hb,cond_false] at he
  cases hb2:Nat.beq 2 i with
  | true =>
   obtain rfl:=Nat.eq_of_beq_eq_true hb2
   rw [hb2,cond_true] at he
   simp only [Option.some.injEq] at he
   subst he
   obtain ⟨e1,e2,e3⟩:=b2B_n rgF s b p (wF b) (vF s b)
   rw [e1,e2,e3,bk_blk2]
   refine ⟨by omega,fun q hq F ds K hK=>?_⟩
   simp only [List.mem_cons,List.not_mem_nil,or_false] at hq
   subst hq
   rw [b2_head]
   exact upTo bkE_ok mixed (by show bpN p <= bpN p+8;omega) bk_cod2 (D:=vN rgF (wF b) s) (fun t ht=>b2_round rgF s b p (wF b) (vN rgF (wF b) s t) ht) (b2_end rgF s b p (wF b) (vN rgF (wF b) s 64)) hK
  | false =>
   rw [hb2,cond_false] at he
   cases hb4:Nat.beq 4 i with
   | true =>
    obtain rfl:=Nat.eq_of_beq_eq_true hb4
    rw [hb4,cond_true] at he
    simp only [Option.some.injEq] at he
    subst he
    obtain ⟨e1,e2,e3⟩:=b3B_n rgF s b p (wF b) (vF s b) (shaF s b)
    rw [e1,e2,e3,bk_blk3]
    refine ⟨by omega,fun q hq F ds K hK=>?_⟩
    simp only [List.mem_cons,List.not_mem_nil,or_false] at hq
    subst hq
    rw [b3_head]
    exact upTo bkE_ok mixed (by show bpN p <= bpN p+9;omega) bk_cod3 (D:=zN (vF s b) s) (fun t ht=>b3_round rgF s b p (wF b) (vF s b) (zN (vF s b) s t) ht) (b3_end rgF s b p (wF b) (vF s b) (zN (vF s b) s 8)) hK
   | false=>rw [hb4,cond_false] at he;cases he
theorem bkOut1_inj {o:Option Blk} {B:Blk} (h:bkOut1 o=bkOut1 (some B)):o=some B:=by
 cases o with
 | none=>cases h
 | some C =>
  obtain ⟨w1,t1,c1⟩:=B
  obtain ⟨w2,t2,c2⟩:=C
  simp only [bkOut1,AV.tup.injEq,List.cons.injEq,AV.v.injEq,Value.bool.injEq,Value.int.injEq,AV.agg.injEq,true_and,and_true] at h
  obtain ⟨rfl,h2,rfl⟩:=h
  have:t2=t1:=Int.ofNat.inj h2
  subst this
  rfl
theorem outs_of {t:Tree (AV × AH)} {x y u:XS} {r:AV} {H:AH} (h:(t.bind fun q=>.leaf (AV.tup [q.1,bkOut q.2])).strict=.same x x (.same y y (.same u u (.leaf (.tup [r,bkOut H])))))
 (hH:∀ id B,H.get id=some B->id=0 \/ id=1):OutH t r H:=by
 have h0:(t.bind fun q=>Tree.leaf (AV.tup [q.1,bkOut q.2])).holds (fun a=>a=AV.tup [r,bkOut H]):=Tree.holds_strict (by rw [h];exact ⟨rfl,rfl,rfl,rfl⟩)
 refine ⟨Tree.holds_mono (fun q hq=>?_) (Tree.holds_bind h0)⟩
 have hq:AV.tup [q.1,bkOut q.2]=AV.tup [r,bkOut H]:=hq
 simp only [AV.tup.injEq,List.cons.injEq,and_true] at hq
 obtain ⟨h1,h2⟩:=hq
 refine ⟨h1,fun id B hB=>?_⟩
 simp only [bkOut,AV.tup.injEq,List.cons.injEq,and_true] at h2
 obtain ⟨h3,h4⟩:=h2
 rcases hH id B hB with rfl | rfl
 . exact bkOut1_inj (h3.trans (congrArg bkOut1 hB))
 . exact bkOut1_inj (h4.trans (congrArg bkOut1 hB))
theorem bpHeap2_ids (z b:Nat->Int) (p:BP) (id:Nat) (B:Blk) (h:(bpHeap2 z b p).get id=some B):id=0 \/ id=1:=by
 match id with
 | 0=>exact .inl rfl
 | 1=>exact .inr rfl
 | n+2 =>
  exfalso
  have e1:Nat.beq 1 (n+2)=false:=by cases hb:Nat.beq 1 (n+2) with | false=>rfl | true=>exact absurd (Nat.eq_of_beq_eq_true hb) (by omega)
  cases p <;> simp [bpHeap2,AH.get_cons,AH.get,e1] at h
theorem bk_holdsG (R:Int->Int->Int) (s b:Nat->Int) (p:BP) (w v z:Nat->Int):OutH (afun PR (bkE R) [] (tabOf [(0,b1B R s b p w),(2,b2B R s b p w v),(4,b3B R s b p w v z)]) 10 225 (bpArgs p) (bpHeap s b p) (bpN p)) (.tup []) (bpHeap2 z b p) :=
 outs_of (bk_run R s b p w v z) (bpHeap2_ids z b p)
theorem bk_holds (s b:Nat->Int) (p:BP):OutH (afun PR (bkE rgF) [] (bkTab s b p) 10 225 (bpArgs p) (bpHeap s b p) (bpN p)) (.tup []) (bpHeap2 (shaF s b) b p):=by
 unfold bkTab
 exact bk_holdsG rgF s b p (wF b) (vF s b) (shaF s b)
def fnL (l:List Int):Nat->Int:=fun i=>l.getD i 0
def u32D:Nat->List AV->Option (List Int)
 | 0,[]=>some []
 | n+1,a :: t=>match intOf .u32 a,u32D n t with
  | some x,some l=>some (x :: l)
  | _,_=>none
 | _,_=>none
theorem intOf_eq {k:IntKind} {a:AV} {n:Int} (h:intOf k a=some n):a=.v (.int k n):=by
 unfold intOf at h
 split at h
 . split at h
   . rename_i hk
     have hk:=of_decide_eq_true hk
     subst hk
     simp at h;subst h;rfl
   . cases h
 . cases h
theorem u32D_eq:∀ {n:Nat} {xs:List AV} {l:List Int} (f:Nat->Int) (j:Nat),u32D n xs=some l->(∀ i,i < n->f (j+i)=fnL l i)->xs=u32L f j n
 | 0,[],l,f,j,h,hf=>rfl
 | 0,_ :: _,l,f,j,h,hf=>by simp [u32D] at h
 | n+1,[],l,f,j,h,hf=>by simp [u32D] at h
 | n+1,a :: t,l,f,j,h,hf=>by
  simp only [u32D] at h
  split at h
  . rename_i x m hx hm
    simp at h;subst h
    simp only [u32L]
    rw [intOf_eq hx,u32D_eq f (j+1) hm (fun i hi=>by have:=hf (i+1) (by omega);rw [show j+1+i=j+(i+1) by omega,this];simp [fnL])]
    have:=hf 0 (by omega)
    rw [Nat.add_zero] at this
    rw [this];rfl
  . cases h
theorem bytD_eq:∀ {n:Nat} {xs:List AV} {l:List Int} (f:Nat->Int) (j:Nat),bytD n xs=some l->(∀ i,i < n->f (j+i)=fnL l i)->xs=bytL f j n
 | 0,[],l,f,j,h,hf=>rfl
 | 0,_ :: _,l,f,j,h,hf=>by simp [bytD] at h
 | n+1,[],l,f,j,h,hf=>by simp [bytD] at h
 | n+1,a :: t,l,f,j,h,hf=>by
  simp only [bytD] at h
  split at h
  . rename_i x m hx hm
    simp at h;subst h
    simp only [bytL]
    rw [intOf_eq hx,bytD_eq f (j+1) hm (fun i hi=>by have:=hf (i+1) (by omega);rw [show j+1+i=j+(i+1) by omega,this];simp [fnL])]
    have:=hf 0 (by omega)
    rw [Nat.add_zero] at this
    rw [this];rfl
  . cases h
theorem u32D_is {n:Nat} {xs:List AV} {l:List Int} (h:u32D n xs=some l):xs=u32L (fnL l) 0 n:=u32D_eq _ 0 h (fun i _=>by rw [Nat.zero_add])
theorem bytD_is {n:Nat} {xs:List AV} {l:List Int} (h:bytD n xs=some l):xs=bytL (fnL l) 0 n:=bytD_eq _ 0 h (fun i _=>by rw [Nat.zero_add])
theorem and_parts {a b:Bool} (h:(a && b)=true):a=true /\ b=true:=by simpa using h
def isA:List AV->Bool
 | [.ptr i o,.slc j a l c]=>Nat.beq i 0 && (Nat.beq o 0 && (Nat.beq j 0 && (Nat.beq a 8 && (Nat.beq l 64 && Nat.beq c 64))))
 | _=>false
theorem isA_eq {args:List AV} (h:isA args=true):args=[.ptr 0 0,.slc 0 8 64 64]:=by
 unfold isA at h
 split at h
 . obtain ⟨h1,h⟩:=and_parts h
   obtain ⟨h2,h⟩:=and_parts h
   obtain ⟨h3,h⟩:=and_parts h
   obtain ⟨h4,h⟩:=and_parts h
   obtain ⟨h5,h6⟩:=and_parts h
   rw [Nat.eq_of_beq_eq_true h1,Nat.eq_of_beq_eq_true h2,Nat.eq_of_beq_eq_true h3,Nat.eq_of_beq_eq_true h4,Nat.eq_of_beq_eq_true h5,Nat.eq_of_beq_eq_true h6]
 . cases h
def isB (q:Nat):List AV->Bool
 | [.ptr i o,.own j e k l]=>Nat.beq i 0 && (Nat.beq o 0 && (Nat.beq j 1 && (Nat.beq e 1 && (Nat.beq k q && Nat.beq l 64))))
 | _=>false
theorem isB_eq {q:Nat} {args:List AV} (h:isB q args=true):args=[.ptr 0 0,.own 1 1 q 64]:=by
 unfold isB at h
 split at h
 . obtain ⟨h1,h⟩:=and_parts h
   obtain ⟨h2,h⟩:=and_parts h
   obtain ⟨h3,h⟩:=and_parts h
   obtain ⟨h4,h⟩:=and_parts h
   obtain ⟨h5,h6⟩:=and_parts h
   rw [Nat.eq_of_beq_eq_true h1,Nat.eq_of_beq_eq_true h2,Nat.eq_of_beq_eq_true h3,Nat.eq_of_beq_eq_true h4,Nat.eq_of_beq_eq_true h5,Nat.eq_of_beq_eq_true h6]
 . cases h
abbrev S2:Type:=(Nat->Int)->(Nat->Int)->Nat->Int
def tailH:List AV->Option (Int × Bool)
 | [.v (.int .i64 n),.lit b]=>some (n,b)
 | _=>none
def specA (S:S2):AH->Nat->Option (AV × AH)
 | [(i,some ⟨wr,ty,cs⟩)],n=>bif Nat.beq i 0 && (wr && (Nat.beq ty 242 && Nat.beq n 1)) then
  (match u32D 8 (cs.take 8),bytD 64 ((cs.drop 8).take 64),tailH (cs.drop 72) with
  | some s,some b,some (n,md)=>some (.tup [],bpHeap2 (S (fnL s) (fnL b)) (fnL b) (.hash n md))
  | _,_,_=>none) else none
 | _,_=>none
def rowH (h:AH) (n:Nat):Option (List AV × Bool × List AV):=match h with
 | [(i,some ⟨wr,ty,cs⟩),(j,some ⟨wb,tb,ds⟩)]=>bif Nat.beq i 0 && (wr && (Nat.beq ty 238 && (Nat.beq j 1 && (Nat.beq tb 5 && Nat.beq n 2)))) then some (cs,wb,ds) else none
 | _=>none
theorem rowH_eq {h:AH} {n:Nat} {cs ds:List AV} {wb:Bool} (e:rowH h n=some (cs,wb,ds)):h=[(0,some ⟨true,238,cs⟩),(1,some ⟨wb,5,ds⟩)] /\ n=2:=by
 unfold rowH at e
 split at e
 . obtain ⟨h,e⟩:=bcond e
   simp only [Option.some.injEq,Prod.mk.injEq] at e
   obtain ⟨rfl,rfl,rfl⟩:=e
   obtain ⟨h1,h⟩:=and_parts h
   obtain ⟨h2,h⟩:=and_parts h
   obtain ⟨h3,h⟩:=and_parts h
   obtain ⟨h4,h⟩:=and_parts h
   obtain ⟨h5,h6⟩:=and_parts h
   rw [Nat.eq_of_beq_eq_true h1,h2,Nat.eq_of_beq_eq_true h3,Nat.eq_of_beq_eq_true h4,Nat.eq_of_beq_eq_true h5]
   exact ⟨rfl,Nat.eq_of_beq_eq_true h6⟩
 . cases e
def specR (S:S2) (h:AH) (n:Nat):Option (AV × AH):=match rowH h n with
 | some (cs,wb,ds)=>match u32D 8 cs with
  | some s=>match bytD 64 ds with
   | some b=>some (.tup [],bpHeap2 (S (fnL s) (fnL b)) (fnL b) (.row wb))
   | none=>match bytD 64 (ds.take 64),bytD 64 (ds.drop 64) with
    | some b,some q=>some (.tup [],bpHeap2 (S (fnL s) (fnL b)) (fnL b) (.low wb (fnL q)))
    | _,_=>none
  | none=>none
 | none=>none
def specH (S:S2) (h:AH) (n:Nat):Option (AV × AH):=match rowH h n with
 | some (cs,wb,ds)=>match u32D 8 cs with
  | some s=>match bytD 64 (ds.take 64),bytD 64 (ds.drop 64) with
   | some q,some b=>some (.tup [],bpHeap2 (S (fnL s) (fnL b)) (fnL b) (.high wb (fnL q)))
   | _,_=>none
  | none=>none
 | none=>none
def bkSpec (S:S2) (args:List AV) (h:AH) (n:Nat):Option (AV × AH) :=
 bif isA args then specA S h n else bif isB 0 args then specR S h n else bif isB 64 args then specH S h n else none
theorem tailH_eq {l:List AV} {n:Int} {b:Bool} (h:tailH l=some (n,b)):l=[.v (.int .i64 n),.lit b]:=by
 unfold tailH at h
 split at h
 . simp only [Option.some.injEq,Prod.mk.injEq] at h
   obtain ⟨rfl,rfl⟩:=h;rfl
 . cases h
def BkAt (args:List AV) (h:AH) (n:Nat) (r:AV) (h':AH):Prop:=∃ s b p,args=bpArgs p /\ h=bpHeap s b p /\ n=bpN p /\ r=.tup [] /\ h'=bpHeap2 (shaF s b) b p
theorem bkSpec_at {args:List AV} {h:AH} {n:Nat} {r:AV} {h':AH} (e:bkSpec shaF args h n=some (r,h')):BkAt args h n r h':=by
 unfold bkSpec at e
 cases hA:isA args with
 | true =>
  rw [hA,cond_true] at e
  have ea:=isA_eq hA
  unfold specA at e
  split at e
  . rename_i i wr ty cs
    have hc:=(bcond e).1
    replace e:=(bcond e).2
    obtain ⟨h1,hc⟩:=and_parts hc
    obtain ⟨h2,hc⟩:=and_parts hc
    obtain ⟨h3,h4⟩:=and_parts hc
    split at e
    . rename_i s b n md hs hb ht
      simp only [Option.some.injEq,Prod.mk.injEq] at e
      obtain ⟨rfl,rfl⟩:=e
      refine ⟨fnL s,fnL b,.hash n md,ea,?_,Nat.eq_of_beq_eq_true h4,rfl,rfl⟩
      have hcs:cs=u32L (fnL s) 0 8 ++ (bytL (fnL b) 0 64 ++ [.v (.int .i64 n),.lit md]):=by
       rw [<- u32D_is hs,<- bytD_is hb,<- tailH_eq ht]
       have:cs.drop 8=(cs.drop 8).take 64 ++ cs.drop 72:=by
        rw [show cs.drop 72=(cs.drop 8).drop 64 by rw [List.drop_drop],List.take_append_drop]
       rw [<- this,List.take_append_drop]
      rw [Nat.eq_of_beq_eq_true h1,h2,Nat.eq_of_beq_eq_true h3,hcs]
      rfl
    . cases e
  . cases e
 | false =>
  rw [hA,cond_false] at e
  cases hB:isB 0 args with
  | true =>
   rw [hB,cond_true] at e
   have ea:=isB_eq hB
   unfold specR at e
   split at e
   . rename_i cs wb ds hr
     obtain ⟨rfl,rfl⟩:=rowH_eq hr
     split at e
     . rename_i s hs
       split at e
       . rename_i b hb
         simp only [Option.some.injEq,Prod.mk.injEq] at e
         obtain ⟨rfl,rfl⟩:=e
         refine ⟨fnL s,fnL b,.row wb,ea,?_,rfl,rfl,rfl⟩
         rw [u32D_is hs,bytD_is hb];rfl
       . split at e
         . rename_i b q hb hq
           simp only [Option.some.injEq,Prod.mk.injEq] at e
           obtain ⟨rfl,rfl⟩:=e
           refine ⟨fnL s,fnL b,.low wb (fnL q),ea,?_,rfl,rfl,rfl⟩
           have:ds=bytL (fnL b) 0 64 ++ bytL (fnL q) 0 64:=by
            rw [<- bytD_is hb,<- bytD_is hq,List.take_append_drop]
           rw [u32D_is hs,this];rfl
         . cases e
     . cases e
   . cases e
  | false =>
   rw [hB,cond_false] at e
   have hC:=(bcond e).1
   replace e:=(bcond e).2
   have ea:=isB_eq hC
   unfold specH at e
   split at e
   . rename_i cs wb ds hr
     obtain ⟨rfl,rfl⟩:=rowH_eq hr
     split at e
     . rename_i s hs
       split at e
       . rename_i q b hq hb
         simp only [Option.some.injEq,Prod.mk.injEq] at e
         obtain ⟨rfl,rfl⟩:=e
         refine ⟨fnL s,fnL b,.high wb (fnL q),ea,?_,rfl,rfl,rfl⟩
         have:ds=bytL (fnL q) 0 64 ++ bytL (fnL b) 0 64:=by
          rw [<- bytD_is hb,<- bytD_is hq,List.take_append_drop]
         rw [u32D_is hs,this];rfl
       . cases e
     . cases e
   . cases e
theorem bk_spec:SpecOk PR 225 (bkSpec shaF):=by
 intro args h n r h' e
 obtain ⟨s,b,p,rfl,rfl,rfl,rfl,rfl⟩:=bkSpec_at e
 exact ⟨bkE rgF,[],bkTab s b p,10,Tryz.f225,bodyOf PR 225,bkE_ok,mixed,by kernel_rfl,by kernel_rfl,bk_cod,bk_tab s b p,bk_holds s b p⟩
theorem bk_ok (kk:Nat):ActOk PR kk 225 (deepS (bkSpec shaF) kk false):=deepS_ok bk_spec
theorem bk_ent:Enters PR 225:=entersB (by kernel_rfl)
def ivL:List Int:=[1779033703,3144134277,1013904242,2773480762,1359893119,2600822924,528734635,1541459225]
def first8 (s:Nat->Int):List Int:=[s 0,s 1,s 2,s 3,s 4,s 5,s 6,s 7]
def shaBlocks (S:S2):Nat->List Int->(Nat->Int)->(Nat->Int)
 | 0,_,s=>s
 | k+1,m,s=>shaBlocks S k (m.drop 64) (S (fnL (first8 s)) (fnL (m.take 64)))
def padZ (L:Nat):Nat:=(119 - L % 64) % 64
def lenB (L:Nat):List Int:=[(8*L / 72057594037927936 % 256:Nat),(8*L / 281474976710656 % 256:Nat),(8*L / 1099511627776 % 256:Nat),(8*L / 4294967296 % 256:Nat),(8*L / 16777216 % 256:Nat),(8*L / 65536 % 256:Nat),(8*L / 256 % 256:Nat),(8*L % 256:Nat)]
def padM (l:List Int):List Int:=l ++ (128 :: (List.replicate (padZ l.length) 0 ++ lenB l.length))
def shaS (S:S2) (l:List Int):Nat->Int:=shaBlocks S ((l.length+72) / 64) (padM l) (fnL ivL)
def dgOf (z:Nat->Int) (k:Nat):Int:=bif Nat.beq (k % 4) 3 then IntKind.u8.wrap (z (k / 4)) else IntKind.u8.wrap (wShr (z (k / 4)) (24 - 8*(k % 4)))
def shaG (S:S2) (l:List Int):Nat->Int:=dgOf (shaS S l)
noncomputable def dgE0:Env:=envA eqsT [] [] [] [] [] [] true []
theorem dgE0_ok:EnvOk PR dgE0:=envA_ok eqsT_ok TabPOk.nil TabHOk.nil TabLOk.nil TabAOk.nil
theorem bg_ctx:Ctx PR dgE0 [] (fun _=>none) 10 223 :=
 ctxB dgE0_ok mixed (by kernel_rfl)
noncomputable def bgG:List AV->Option (Bool × AV):=inlineG PR dgE0 [] 10 223
theorem bg_ok:CallOk PR 223 bgG:=.inl ⟨entersB (by kernel_rfl),inline_ok bg_ctx⟩
theorem hn_ctx:Ctx PR dgE0 [] (fun _=>none) 10 224 :=
 ctxB dgE0_ok mixed (by kernel_rfl)
theorem hn_ent:Enters PR 224:=entersB (by kernel_rfl)
noncomputable def hnV:List AV->AH->Nat->Option (Bool × AV × AH):=deepG PR dgE0 [] 10 224 1 true
theorem hnV_ok:ActOk PR 1 224 hnV:=deep_ok hn_ctx
noncomputable def nwE:Env:=envA eqsT [(223,bgG)] [] [] [] [] [] true []
theorem nwE_ok:EnvOk PR nwE:=envA_ok eqsT_ok (TabPOk.cons bg_ok TabPOk.nil) TabHOk.nil TabLOk.nil TabAOk.nil
theorem nwh_ctx:Ctx PR nwE [] (fun _=>none) 10 170 :=
 ctxB nwE_ok mixed (by kernel_rfl)
theorem nwh_ent:Enters PR 170:=entersB (by kernel_rfl)
noncomputable def nwhV:List AV->AH->Nat->Option (Bool × AV × AH):=deepG PR nwE [] 10 170 1 true
theorem nwhV_ok:ActOk PR 1 170 nwhV:=deep_ok nwh_ctx
noncomputable def hwE (S:S2):Env:=envA eqsT [] [] [] [(224,hnV),(225,deepS (bkSpec S) 1 false)] [] [] true [224]
theorem hwE_ok:EnvOk PR (hwE shaF):=envA_ok eqsT_ok TabPOk.nil TabHOk.nil TabLOk.nil (TabAOk.cons hn_ent hnV_ok (TabAOk.cons bk_ent (bk_ok 1) TabAOk.nil))
theorem hw_ctx:Ctx PR (hwE shaF) [] (fun _=>none) 400 171 :=
 ctxB hwE_ok mixed (by kernel_rfl)
theorem hw_ent:Enters PR 171:=entersB (by kernel_rfl)
noncomputable def hwV (S:S2):List AV->AH->Nat->Option (Bool × AV × AH):=deepG PR (hwE S) [] 400 171 1 false
theorem hwV_ok:ActOk PR 1 171 (hwV shaF):=deep_ok hw_ctx
noncomputable def hsE (S:S2):Env:=envA eqsT [] [] [] [(224,hnV),(225,deepS (bkSpec S) 1 false)] [] [] false [224]
theorem hsE_ok:EnvOk PR (hsE shaF):=envA_ok eqsT_ok TabPOk.nil TabHOk.nil TabLOk.nil (TabAOk.cons hn_ent hnV_ok (TabAOk.cons bk_ent (bk_ok 1) TabAOk.nil))
theorem hs_ctx:Ctx PR (hsE shaF) [] (fun _=>none) 400 172 :=
 ctxB hsE_ok mixed (by kernel_rfl)
theorem hs_ent:Enters PR 172:=entersB (by kernel_rfl)
noncomputable def hsV (S:S2):List AV->AH->Nat->Option (Bool × AV × AH):=deepG PR (hsE S) [] 400 172 1 true
theorem hsV_ok:ActOk PR 1 172 (hsV shaF):=deep_ok hs_ctx
noncomputable def sdE (S:S2):Env:=envA eqsT [] [] [] [(170,nwhV),(171,hwV S),(172,hsV S)] [] [] true []
theorem sdE_ok:EnvOk PR (sdE shaF):=envA_ok eqsT_ok TabPOk.nil TabHOk.nil TabLOk.nil (TabAOk.cons nwh_ent nwhV_ok (TabAOk.cons hw_ent hwV_ok (TabAOk.cons hs_ent hsV_ok TabAOk.nil)))
def nAdd (a b:Nat):Nat:=Nat.mod (Nat.add a b) 4294967296
def nRot (a n:Nat):Nat:=Nat.lor (Nat.mod (Nat.mul a (Nat.pow 2 (32 - n))) 4294967296) (Nat.div a (Nat.pow 2 n))
def nXor3 (a b c:Nat):Nat:=Nat.xor (Nat.xor a b) c
theorem wAdd_n (a b:Nat):wAdd (a:Int) (b:Int)=(nAdd a b:Nat):=by
 unfold wAdd
 rw [<- Int.natCast_add,wrap_nat (M:=4294967296) rfl];rfl
theorem nAdd_lt (a b:Nat):nAdd a b < 4294967296:=Nat.mod_lt _ (by decide)
theorem wXor_n {a b:Nat} (ha:a < 4294967296) (hb:b < 4294967296):wXor (a:Int) (b:Int)=(Nat.xor a b:Nat) /\ Nat.xor a b < 4294967296:=by
 have h:Nat.xor a b < 4294967296:=Nat.xor_lt_two_pow (n:=32) ha hb
 refine ⟨?_,h⟩
 unfold wXor
 rw [wrap_nat (M:=4294967296) rfl,BitVec.toNat_xor]
 have e:∀ c:Nat,c < 4294967296->(BitVec.ofInt 32 (c:Int)).toNat=c:=fun c hc=>(ofInt_nat 32 c).trans (Nat.mod_eq_of_lt hc)
 rw [e a ha,e b hb]
 exact congrArg Int.ofNat (Nat.mod_eq_of_lt h)
theorem wAnd_n {a b:Nat} (ha:a < 4294967296) (hb:b < 4294967296):wAnd (a:Int) (b:Int)=(Nat.land a b:Nat) /\ Nat.land a b < 4294967296:=by
 have h:Nat.land a b < 4294967296:=Nat.and_lt_two_pow (n:=32) a hb
 refine ⟨?_,h⟩
 unfold wAnd
 rw [wrap_nat (M:=4294967296) rfl,BitVec.toNat_and]
 have e:∀ c:Nat,c < 4294967296->(BitVec.ofInt 32 (c:Int)).toNat=c:=fun c hc=>(ofInt_nat 32 c).trans (Nat.mod_eq_of_lt hc)
 rw [e a ha,e b hb]
 exact congrArg Int.ofNat (Nat.mod_eq_of_lt h)
theorem wOr_n {a b:Nat} (ha:a < 4294967296) (hb:b < 4294967296):wOr (a:Int) (b:Int)=(Nat.lor a b:Nat) /\ Nat.lor a b < 4294967296:=by
 have h:Nat.lor a b < 4294967296:=Nat.or_lt_two_pow (n:=32) ha hb
 refine ⟨?_,h⟩
 unfold wOr
 rw [wrap_nat (M:=4294967296) rfl,BitVec.toNat_or]
 have e:∀ c:Nat,c < 4294967296->(BitVec.ofInt 32 (c:Int)).toNat=c:=fun c hc=>(ofInt_nat 32 c).trans (Nat.mod_eq_of_lt hc)
 rw [e a ha,e b hb]
 exact congrArg Int.ofNat (Nat.mod_eq_of_lt h)
theorem pow_cast (n:Nat):((2:Int) ^ n)=((2 ^ n:Nat):Int):=by simp
theorem wShl_n (a n:Nat):wShl (a:Int) n=(a*2 ^ n % 4294967296:Nat):=by
 unfold wShl
 rw [pow_cast,<- Int.natCast_mul,wrap_nat (M:=4294967296) rfl]
theorem wShr_n (a n:Nat):wShr (a:Int) n=(a / 2 ^ n:Nat):=by
 unfold wShr
 rw [pow_cast,Int.fdiv_eq_ediv_of_nonneg _ (Int.natCast_nonneg _)]
 rfl
theorem div_lt {a n:Nat} (ha:a < 4294967296):a / 2 ^ n < 4294967296:=Nat.lt_of_le_of_lt (Nat.div_le_self _ _) ha
theorem rg_2 (x:Int):rgF x 2=wOr (wShl x 30) (wShr x 2):=by kernel_rfl
theorem rg_6 (x:Int):rgF x 6=wOr (wShl x 26) (wShr x 6):=by kernel_rfl
theorem rg_7 (x:Int):rgF x 7=wOr (wShl x 25) (wShr x 7):=by kernel_rfl
theorem rg_11 (x:Int):rgF x 11=wOr (wShl x 21) (wShr x 11):=by kernel_rfl
theorem rg_13 (x:Int):rgF x 13=wOr (wShl x 19) (wShr x 13):=by kernel_rfl
theorem rg_17 (x:Int):rgF x 17=wOr (wShl x 15) (wShr x 17):=by kernel_rfl
theorem rg_18 (x:Int):rgF x 18=wOr (wShl x 14) (wShr x 18):=by kernel_rfl
theorem rg_19 (x:Int):rgF x 19=wOr (wShl x 13) (wShr x 19):=by kernel_rfl
theorem rg_22 (x:Int):rgF x 22=wOr (wShl x 10) (wShr x 22):=by kernel_rfl
theorem rg_25 (x:Int):rgF x 25=wOr (wShl x 7) (wShr x 25):=by kernel_rfl
def Is (x:Int) (a:Nat):Prop:=x=(a:Int) /\ a < 4294967296
theorem Is.add {x y:Int} {a b:Nat} (h:Is x a) (k:Is y b):Is (wAdd x y) (nAdd a b):=by
 rw [h.1,k.1];exact ⟨wAdd_n a b,nAdd_lt a b⟩
theorem Is.xor {x y:Int} {a b:Nat} (h:Is x a) (k:Is y b):Is (wXor x y) (Nat.xor a b):=by
 rw [h.1,k.1];exact wXor_n h.2 k.2
theorem Is.land {x y:Int} {a b:Nat} (h:Is x a) (k:Is y b):Is (wAnd x y) (Nat.land a b):=by
 rw [h.1,k.1];exact wAnd_n h.2 k.2
theorem Is.lor {x y:Int} {a b:Nat} (h:Is x a) (k:Is y b):Is (wOr x y) (Nat.lor a b):=by
 rw [h.1,k.1];exact wOr_n h.2 k.2
theorem Is.not {x:Int} {a:Nat} (h:Is x a):Is (wNot x) (Nat.xor 4294967295 a):=by
 unfold wNot
 exact Is.xor (x:=IntKind.u32.max) (a:=4294967295) ⟨rfl,by decide⟩ h
theorem Is.shr {x:Int} {a:Nat} (h:Is x a) (n:Nat):Is (wShr x n) (Nat.div a (Nat.pow 2 n)):=by
 rw [h.1,wShr_n];exact ⟨rfl,div_lt h.2⟩
theorem Is.shl {x:Int} {a:Nat} (h:Is x a) (n:Nat):Is (wShl x n) (Nat.mod (Nat.mul a (Nat.pow 2 n)) 4294967296):=by
 rw [h.1,wShl_n];exact ⟨rfl,Nat.mod_lt _ (by decide)⟩
theorem Is.rot {x:Int} {a:Nat} (h:Is x a) {k:Int} {n m:Nat} (hk:∀ x:Int,rgF x k=wOr (wShl x m) (wShr x n)) (hm:m=32 - n):Is (rgF x k) (nRot a n):=by
 rw [hk,hm];exact (h.shl _).lor (h.shr _)
theorem Is.wrap {x:Int} {a:Nat} (h:Is x a):Is (IntKind.u32.wrap x) a:=by
 rw [h.1,wrap_nat (M:=4294967296) rfl,Nat.mod_eq_of_lt h.2];exact ⟨rfl,h.2⟩
def nWord (a b c d:Nat):Nat:=Nat.lor (Nat.lor (Nat.lor (Nat.mod (Nat.mul a 16777216) 4294967296) (Nat.mod (Nat.mul b 65536) 4294967296)) (Nat.mod (Nat.mul c 256) 4294967296)) d
def nStep (y u x z:Nat):Nat:=nAdd (nAdd (nAdd (nXor3 (nRot y 17) (nRot y 19) (Nat.div y 1024)) u) (nXor3 (nRot x 7) (nRot x 18) (Nat.div x 8))) z
noncomputable def nFirst:Nat->List Nat->List Nat->List Nat
 | k+1,a :: b :: c :: d :: t,l=>frcN (nWord a b c d) fun x=>nFirst k t (x :: l)
 | _,_,l=>l
noncomputable def nNext:Nat->List Nat->List Nat
 | 0,l=>l
 | k+1,l=>frcN (nStep (l.getD 1 0) (l.getD 6 0) (l.getD 14 0) (l.getD 15 0)) fun x=>nNext k (x :: l)
def Sch (w:Nat->Int) (t:Nat) (l:List Nat):Prop:=l.length=t /\ ∀ i,i < t->Is (w i) (l.getD (t - 1 - i) 0)
theorem Sch.snoc {w:Nat->Int} {t:Nat} {l:List Nat} (h:Sch w t l) {v:Int} {x:Nat} (hv:Is v x):Sch (upd w t v) (t+1) (x :: l):=by
 refine ⟨by simp [h.1],fun i hi=>?_⟩
 unfold upd
 by_cases e:i=t
 . subst e
   rw [Nat.beq_refl,cond_true,show i+1 - 1 - i=0 by omega]
   exact hv
 . have hb:Nat.beq i t=false:=by
    cases hb:Nat.beq i t with
    | false=>rfl
    | true=>exact absurd (Nat.eq_of_beq_eq_true hb) e
   rw [hb,cond_false,show t+1 - 1 - i=(t - 1 - i)+1 by omega]
   simpa using h.2 i (by omega)
theorem Sch.at {w:Nat->Int} {t:Nat} {l:List Nat} (h:Sch w t l) {j k:Nat} (hk:k < t) (hj:j=t - 1 - k):Is (w k) (l.getD j 0):=by
 rw [hj];exact h.2 k hk
theorem first_ok {b:Nat->Int}:∀ (k t:Nat) (m l:List Nat),k+t=16->m.length=4*k->(∀ i,i < 4*k->Is (b (4*t+i)) (m.getD i 0))->Sch (wN rgF b t) t l->Sch (wN rgF b 16) 16 (nFirst k m l)
 | 0,t,m,l,hk,hm,hb,hs=>by
  obtain rfl:t=16:=by omega
  unfold nFirst
  exact hs
 | k+1,t,m,l,hk,hm,hb,hs=>by
  match m,hm with
  | a :: c :: d :: e :: r,hm =>
   simp only [nFirst,frcN_eq]
   have h0:=hb 0 (by omega)
   have h1:=hb 1 (by omega)
   have h2:=hb 2 (by omega)
   have h3:=hb 3 (by omega)
   simp only [List.getD_cons_zero,List.getD_cons_succ,Nat.add_zero] at h0 h1 h2 h3
   refine first_ok k (t+1) r _ (by omega) (by simp at hm;omega) (fun i hi=>?_) ?_
   . have:=hb (i+4) (by omega)
     rw [show 4*t+(i+4)=4*(t+1)+i by omega] at this
     simpa using this
   . refine hs.snoc ?_
     unfold wv
     rw [show Nat.blt t 16=true from Nat.ble_eq_true_of_le (by omega),cond_true]
     exact (((h0.wrap.shl 24).lor (h1.wrap.shl 16)).lor (h2.wrap.shl 8)).lor h3.wrap
  | [],hm=>exact absurd hm (by simp only [List.length_nil];omega)
  | [_],hm=>exact absurd hm (by simp only [List.length_cons,List.length_nil];omega)
  | [_,_],hm=>exact absurd hm (by simp only [List.length_cons,List.length_nil];omega)
  | [_,_,_],hm=>exact absurd hm (by simp only [List.length_cons,List.length_nil];omega)
theorem next_ok {b:Nat->Int}:∀ (k t:Nat) (l:List Nat),16 <= t->Sch (wN rgF b t) t l->Sch (wN rgF b (t+k)) (t+k) (nNext k l)
 | 0,t,l,ht,hs=>hs
 | k+1,t,l,ht,hs=>by
  simp only [nNext,frcN_eq]
  rw [show t+(k+1)=t+1+k by omega]
  refine next_ok k (t+1) _ (by omega) (hs.snoc ?_)
  unfold wv
  have hb:Nat.blt t 16=false:=by
   cases hb:Nat.blt t 16 with
   | false=>rfl
   | true=>exact absurd (Nat.le_of_ble_eq_true hb) (by omega)
  rw [hb,cond_false]
  have y:=hs.at (j:=1) (k:=t - 2) (by omega) (by omega)
  have u:=hs.at (j:=6) (k:=t - 7) (by omega) (by omega)
  have x:=hs.at (j:=14) (k:=t - 15) (by omega) (by omega)
  have z:=hs.at (j:=15) (k:=t - 16) (by omega) (by omega)
  exact (((((y.rot rg_17 rfl).xor (y.rot rg_19 rfl)).xor (y.shr 10)).add u).add (((x.rot rg_7 rfl).xor (x.rot rg_18 rfl)).xor (x.shr 3))).add z
def nP (k w e f g h:Nat):Nat:=nAdd (nAdd (nAdd (nAdd h (nXor3 (nRot e 6) (nRot e 11) (nRot e 25))) (Nat.xor (Nat.land e f) (Nat.land (Nat.xor 4294967295 e) g))) k) w
def nQ (a b c:Nat):Nat:=nAdd (nXor3 (nRot a 2) (nRot a 13) (nRot a 22)) (nXor3 (Nat.land a b) (Nat.land a c) (Nat.land b c))
noncomputable def nRnd:List Nat->List Nat->Nat->Nat->Nat->Nat->Nat->Nat->Nat->Nat->List Nat
 | k :: ks,w :: ws,a,b,c,d,e,f,g,h=>frcN (nP k w e f g h) fun p=>frcN (nAdd p (nQ a b c)) fun a'=>frcN (nAdd d p) fun e'=>nRnd ks ws a' a b c e' e f g
 | _,_,a,b,c,d,e,f,g,h=>[a,b,c,d,e,f,g,h]
structure V8 (v:Nat->Int) (a b c d e f g h:Nat):Prop where
 a:Is (v 0) a
 b:Is (v 1) b
 c:Is (v 2) c
 d:Is (v 3) d
 e:Is (v 4) e
 f:Is (v 5) f
 g:Is (v 6) g
 h:Is (v 7) h
def shaKN:List Nat:=shaKI.map Int.toNat
theorem shaK_is (t:Nat) (h:t < 64):Is (shaAt t) (shaKN.getD t 0):=by
 have key:(List.range 64).all (fun t=>decide (shaAt t=((shaKN.getD t 0:Nat):Int)) && Nat.blt (shaKN.getD t 0) 4294967296)=true:=by kernel_rfl
 have:=List.all_eq_true.1 key t (List.mem_range.2 h)
 simp only [Bool.and_eq_true,decide_eq_true_eq] at this
 exact ⟨this.1,Nat.le_of_ble_eq_true this.2⟩
theorem shaKN_len:shaKN.length=64:=by kernel_rfl
theorem rnd_ok {w s:Nat->Int}:∀ (n t:Nat) (ks ws:List Nat) (a b c d e f g h:Nat),n+t=64->ks.length=n->ws.length=n->(∀ i,i < n->Is (shaAt (t+i)) (ks.getD i 0) /\ Is (w (t+i)) (ws.getD i 0))->V8 (vN rgF w s t) a b c d e f g h ->
 ∃ a' b' c' d' e' f' g' h',nRnd ks ws a b c d e f g h=[a',b',c',d',e',f',g',h'] /\ V8 (vN rgF w s 64) a' b' c' d' e' f' g' h'
 | 0,t,ks,ws,a,b,c,d,e,f,g,h,hn,hk,hw,hi,hv=>by
  obtain rfl:t=64:=by omega
  obtain rfl:ks=[]:=List.length_eq_zero_iff.1 hk
  unfold nRnd
  exact ⟨a,b,c,d,e,f,g,h,rfl,hv⟩
 | n+1,t,ks,ws,a,b,c,d,e,f,g,h,hn,hk,hw,hi,hv=>by
  match ks,ws,hk,hw with
  | k :: ks,x :: ws,hk,hw =>
   simp only [nRnd,frcN_eq]
   obtain ⟨i1,i2⟩:=hi 0 (by omega)
   simp only [Nat.add_zero,List.getD_cons_zero] at i1 i2
   have hp:Is (rvP rgF w (vN rgF w s t) t) (nP k x e f g h) :=
    ((((hv.h.add (((hv.e.rot rg_6 rfl).xor (hv.e.rot rg_11 rfl)).xor (hv.e.rot rg_25 rfl))).add ((hv.e.land hv.f).xor (hv.e.not.land hv.g))).add i1).add i2)
   have hq:Is (rvQ rgF (vN rgF w s t)) (nQ a b c) :=
    ((((hv.a.rot rg_2 rfl).xor (hv.a.rot rg_13 rfl)).xor (hv.a.rot rg_22 rfl))).add (((hv.a.land hv.b).xor (hv.a.land hv.c)).xor (hv.b.land hv.c))
   refine rnd_ok n (t+1) ks ws _ _ _ _ _ _ _ _ (by omega) (by simpa using hk) (by simpa using hw) (fun i hlt=>?_) ⟨hp.add hq,hv.a,hv.b,hv.c,hv.d.add hp,hv.e,hv.f,hv.g⟩
   have:=hi (i+1) (by omega)
   rw [show t+(i+1)=t+1+i by omega] at this
   simpa using this
  | [],_,hk,_=>simp at hk
  | _,[],_,hw=>simp at hw
noncomputable def nGo (ks ws:List Nat) (s:List Nat):List Nat:=match s with
 | [a,c,d,e,f,g,h,i]=>nRnd ks ws a c d e f g h i
 | l=>l
def nFin (s r:List Nat):List Nat:=match s,r with
 | [a,c,d,e,f,g,h,i],[a',c',d',e',f',g',h',i']=>[nAdd a a',nAdd c c',nAdd d d',nAdd e e',nAdd f f',nAdd g g',nAdd h h',nAdd i i']
 | _,r=>r
noncomputable def nSha (s b:List Nat):List Nat:=nFin s (nGo shaKN (nNext 48 (nFirst 16 b [])).reverse s)
theorem nFin_go {a c d e f g h i a' c' d' e' f' g' h' i':Nat} {ks ws:List Nat} (r1:nRnd ks ws a c d e f g h i=[a',c',d',e',f',g',h',i']) :
 nFin [a,c,d,e,f,g,h,i] (nGo ks ws [a,c,d,e,f,g,h,i])=[nAdd a a',nAdd c c',nAdd d d',nAdd e e',nAdd f f',nAdd g g',nAdd h h',nAdd i i']:=by
 have e:nGo ks ws [a,c,d,e,f,g,h,i]=nRnd ks ws a c d e f g h i:=rfl
 rw [e,r1]
 rfl
theorem zN8 (v s:Nat->Int) (i:Nat) (h:i < 8):zN v s 8 i=wAdd (s i) (v i):=by
 match i,h with
 | 0,_=>rfl
 | 1,_=>rfl
 | 2,_=>rfl
 | 3,_=>rfl
 | 4,_=>rfl
 | 5,_=>rfl
 | 6,_=>rfl
 | 7,_=>rfl
theorem wF_def (b:Nat->Int):wF b=wN rgF b 64:=by unfold wF;rfl
theorem vF_def (s b:Nat->Int):vF s b=vN rgF (wF b) s 64:=by unfold vF;rfl
theorem shaF_at (s b:Nat->Int) (j:Nat) (h:j < 8):shaF s b j=wAdd (s j) (vF s b j):=by
 unfold shaF
 generalize vF s b=v
 exact zN8 v s j h
theorem sch_at {w:Nat->Int} {l:List Nat} (h:Sch w 64 l) (j:Nat) (hj:j < 64):Is (w j) (l.reverse.getD j 0):=by
 have:=h.2 j hj
 have hl2:l.length=64:=h.1
 rw [List.getD_eq_getElem?_getD,List.getElem?_reverse (by omega),hl2,<- List.getD_eq_getElem?_getD]
 exact this
theorem v8_sum {s v z:Nat->Int} {a c d e f g h i a' c' d' e' f' g' h' i':Nat} (hs:V8 s a c d e f g h i) (r2:V8 v a' c' d' e' f' g' h' i') (z1:∀ j,j < 8->z j=wAdd (s j) (v j)):V8 z (nAdd a a') (nAdd c c') (nAdd d d') (nAdd e e') (nAdd f f') (nAdd g g') (nAdd h h') (nAdd i i'):=by
 refine ⟨?_,?_,?_,?_,?_,?_,?_,?_⟩
 . rw [z1 0 (by decide)];exact hs.a.add r2.a
 . rw [z1 1 (by decide)];exact hs.b.add r2.b
 . rw [z1 2 (by decide)];exact hs.c.add r2.c
 . rw [z1 3 (by decide)];exact hs.d.add r2.d
 . rw [z1 4 (by decide)];exact hs.e.add r2.e
 . rw [z1 5 (by decide)];exact hs.f.add r2.f
 . rw [z1 6 (by decide)];exact hs.g.add r2.g
 . rw [z1 7 (by decide)];exact hs.h.add r2.h
theorem sch_64 {b:Nat->Int} {m:List Nat} (hm:m.length=64) (hb:∀ j,j < 64->Is (b j) (m.getD j 0)):Sch (wF b) 64 (nNext 48 (nFirst 16 m [])):=by
 rw [wF_def]
 exact next_ok 48 16 _ (Nat.le_refl _) (first_ok (b:=b) 16 0 m [] rfl hm (fun j hj=>by rw [Nat.mul_zero,Nat.zero_add];exact hb j hj) ⟨rfl,fun j hj=>absurd hj (Nat.not_lt_zero _)⟩)
theorem nSha_ok {s b:Nat->Int} {a c d e f g h i:Nat} {m:List Nat} (hs:V8 s a c d e f g h i) (hm:m.length=64) (hb:∀ j,j < 64->Is (b j) (m.getD j 0)) :
 ∃ a' c' d' e' f' g' h' i',nSha [a,c,d,e,f,g,h,i] m=[a',c',d',e',f',g',h',i'] /\ V8 (shaF s b) a' c' d' e' f' g' h' i':=by
 have h2:=sch_64 hm hb
 have z1:=shaF_at s b
 rw [vF_def] at z1
 generalize wF b=w at h2 z1
 generalize shaF s b=z at z1 ⊢
 obtain ⟨ks,hks⟩:∃ ks,shaKN=ks:=⟨_,rfl⟩
 have hkl:ks.length=64:=by rw [<- hks];exact shaKN_len
 have hki:∀ j,j < 64->Is (shaAt j) (ks.getD j 0):=fun j hj=>by rw [<- hks];exact shaK_is j hj
 have h3:=sch_at h2
 have hl:(nNext 48 (nFirst 16 m [])).reverse.length=64:=by rw [List.length_reverse];exact h2.1
 have r0:nSha [a,c,d,e,f,g,h,i] m=nFin [a,c,d,e,f,g,h,i] (nGo shaKN (nNext 48 (nFirst 16 m [])).reverse [a,c,d,e,f,g,h,i]):=by unfold nSha;rfl
 rw [r0,hks]
 clear r0
 generalize (nNext 48 (nFirst 16 m [])).reverse=ws at h3 hl ⊢
 obtain ⟨a',c',d',e',f',g',h',i',r1,r2⟩:=rnd_ok (w:=w) (s:=s) 64 0 ks ws a c d e f g h i rfl hkl hl (fun j hj=>by
  rw [Nat.zero_add]
  exact ⟨hki j hj,h3 j hj⟩) hs
 exact ⟨_,_,_,_,_,_,_,_,nFin_go r1,v8_sum hs r2 z1⟩
noncomputable def nBlocks:Nat->List Nat->List Nat->List Nat
 | 0,_,s=>s
 | k+1,m,s=>frcL frcN (nSha s (m.take 64)) fun s=>nBlocks k (m.drop 64) s
def nIv:List Nat:=[1779033703,3144134277,1013904242,2773480762,1359893119,2600822924,528734635,1541459225]
def nLen (L:Nat):List Nat:=[8*L / 72057594037927936 % 256,8*L / 281474976710656 % 256,8*L / 1099511627776 % 256,8*L / 4294967296 % 256,8*L / 16777216 % 256,8*L / 65536 % 256,8*L / 256 % 256,8*L % 256]
def nPad (l:List Nat):List Nat:=l ++ (128 :: (List.replicate (padZ l.length) 0 ++ nLen l.length))
noncomputable def nSum (l:List Nat):List Nat:=frcL frcN (nPad l) fun m=>nBlocks ((l.length+72) / 64) m nIv
def nOut:List Nat->List Nat
 | []=>[]
 | x :: t=>Nat.mod (Nat.div x 16777216) 256 :: Nat.mod (Nat.div x 65536) 256 :: Nat.mod (Nat.div x 256) 256 :: Nat.mod x 256 :: nOut t
def byA (n:Nat):AV:=.v (.int .u8 (Int.ofNat n))
noncomputable def nDig (l:List Nat):AV:=frcL frcN (nOut (nSum l)) fun o=>.agg (o.map byA)
theorem padM_map (l:List Nat):padM (l.map Int.ofNat)=(nPad l).map Int.ofNat:=by
 unfold padM nPad
 rw [List.map_append,List.length_map,List.map_cons,List.map_append,List.map_replicate]
 rfl
theorem fnL_map {l:List Nat} {i:Nat} (h:i < l.length):fnL (l.map Int.ofNat) i=Int.ofNat (l.getD i 0):=by
 simp [fnL,h]
theorem nPad_len (l:List Nat):(nPad l).length=64*((l.length+72) / 64):=by
 unfold nPad padZ nLen
 simp only [List.length_append,List.length_cons,List.length_replicate,List.length_nil]
 omega
theorem blocks_ok:∀ (k:Nat) (m:List Nat) (s:Nat->Int) (a c d e f g h i:Nat),m.length=64*k->(∀ x ∈ m,x < 256)->V8 s a c d e f g h i ->
 ∃ a' c' d' e' f' g' h' i',nBlocks k m [a,c,d,e,f,g,h,i]=[a',c',d',e',f',g',h',i'] /\ V8 (shaBlocks shaF k (m.map Int.ofNat) s) a' c' d' e' f' g' h' i'
 | 0,m,s,a,c,d,e,f,g,h,i,hm,hb,hv=>⟨a,c,d,e,f,g,h,i,rfl,hv⟩
 | k+1,m,s,a,c,d,e,f,g,h,i,hm,hb,hv=>by
  have ht:(m.take 64).length=64:=by rw [List.length_take];omega
  have hv8:V8 (fnL (first8 s)) a c d e f g h i:=⟨hv.a,hv.b,hv.c,hv.d,hv.e,hv.f,hv.g,hv.h⟩
  obtain ⟨a',c',d',e',f',g',h',i',r1,r2⟩:=nSha_ok (s:=fnL (first8 s)) (b:=fnL ((m.take 64).map Int.ofNat)) hv8 ht (fun j hj=>by
   rw [fnL_map (by rw [ht];exact hj)]
   refine ⟨rfl,?_⟩
   have hlt:j < (m.take 64).length:=by rw [ht];exact hj
   have:(m.take 64).getD j 0 ∈ m:=by
    rw [List.getD_eq_getElem?_getD,List.getElem?_eq_getElem hlt]
    exact List.mem_of_mem_take (List.getElem_mem hlt)
   have:=hb _ this
   omega)
  obtain ⟨a2,c2,d2,e2,f2,g2,h2,i2,r3,r4⟩:=blocks_ok k (m.drop 64) (shaF (fnL (first8 s)) (fnL ((m.take 64).map Int.ofNat))) a' c' d' e' f' g' h' i' (by rw [List.length_drop];omega) (fun x hx=>hb x (List.mem_of_mem_drop hx)) r2
  refine ⟨a2,c2,d2,e2,f2,g2,h2,i2,?_,?_⟩
  . simp only [nBlocks]
    rw [frcL_eq frcN_eq,r1]
    exact r3
  . simp only [shaBlocks]
    rw [<- List.map_take,<- List.map_drop]
    exact r4
theorem iv8:V8 (fnL ivL) 1779033703 3144134277 1013904242 2773480762 1359893119 2600822924 528734635 1541459225 :=
 ⟨⟨rfl,by decide⟩,⟨rfl,by decide⟩,⟨rfl,by decide⟩,⟨rfl,by decide⟩,⟨rfl,by decide⟩,⟨rfl,by decide⟩,⟨rfl,by decide⟩,⟨rfl,by decide⟩⟩
theorem nPad_lt {l:List Nat} (h:∀ x ∈ l,x < 256):∀ x ∈ nPad l,x < 256:=by
 intro x hx
 unfold nPad nLen at hx
 rw [List.mem_append] at hx
 rcases hx with hx | hx
 . exact h x hx
 . rcases List.mem_cons.1 hx with rfl | hx
   . decide
   . rw [List.mem_append] at hx
     rcases hx with hx | hx
     . rw [(List.mem_replicate.1 hx).2];decide
     . simp only [List.mem_cons,List.not_mem_nil,or_false] at hx
       omega
theorem u8_n (a:Nat):IntKind.u8.wrap (a:Int)=(a % 256:Nat):=wrap_nat (M:=256) rfl a
theorem dg_word {z:Nat->Int} {j x:Nat} (h:Is (z j) x):bytL (dgOf z) (4*j) 4=[byA (Nat.mod (Nat.div x 16777216) 256),byA (Nat.mod (Nat.div x 65536) 256),byA (Nat.mod (Nat.div x 256) 256),byA (Nat.mod x 256)]:=by
 have d0:(4*j) / 4=j:=by omega
 have d1:(4*j+1) / 4=j:=by omega
 have d2:(4*j+1+1) / 4=j:=by omega
 have d3:(4*j+1+1+1) / 4=j:=by omega
 have m0:(4*j) % 4=0:=by omega
 have m1:(4*j+1) % 4=1:=by omega
 have m2:(4*j+1+1) % 4=2:=by omega
 have m3:(4*j+1+1+1) % 4=3:=by omega
 simp only [bytL,dgOf,d0,d1,d2,d3,m0,m1,m2,m3]
 rw [h.1]
 have s24:IntKind.u8.wrap (wShr (x:Int) 24)=(x / 16777216 % 256:Nat):=by rw [wShr_n,u8_n]
 have s16:IntKind.u8.wrap (wShr (x:Int) 16)=(x / 65536 % 256:Nat):=by rw [wShr_n,u8_n]
 have s8:IntKind.u8.wrap (wShr (x:Int) 8)=(x / 256 % 256:Nat):=by rw [wShr_n,u8_n]
 have s0:IntKind.u8.wrap (x:Int)=(x % 256:Nat):=u8_n x
 show [AV.v (.int .u8 (IntKind.u8.wrap (wShr (x:Int) 24))),AV.v (.int .u8 (IntKind.u8.wrap (wShr (x:Int) 16))),AV.v (.int .u8 (IntKind.u8.wrap (wShr (x:Int) 8))),AV.v (.int .u8 (IntKind.u8.wrap (x:Int)))]=_
 rw [s24,s16,s8,s0]
 rfl
theorem bytL_add (b:Nat->Int):∀ (n m i:Nat),bytL b i (n+m)=bytL b i n ++ bytL b (i+n) m
 | 0,m,i=>by simp [bytL]
 | n+1,m,i=>by
  rw [show n+1+m=(n+m)+1 by omega]
  simp only [bytL,List.cons_append]
  rw [bytL_add b n m (i+1),show i+1+n=i+(n+1) by omega]
theorem nDig_ok {l:List Nat} (h:∀ x ∈ l,x < 256):nDig l=(cBy 32).agg.enc (shaG shaF (l.map Int.ofNat)):=by
 unfold nDig nSum
 rw [frcL_eq frcN_eq,frcL_eq frcN_eq]
 obtain ⟨a,c,d,e,f,g,q,i,r1,r2⟩:=blocks_ok ((l.length+72) / 64) (nPad l) (fnL ivL) _ _ _ _ _ _ _ _ (nPad_len l) (nPad_lt h) iv8
 have r1':nBlocks ((l.length+72) / 64) (nPad l) nIv=[a,c,d,e,f,g,q,i]:=r1
 rw [r1']
 have e0:shaG shaF (l.map Int.ofNat)=dgOf (shaBlocks shaF ((l.length+72) / 64) ((nPad l).map Int.ofNat) (fnL ivL)):=by
  unfold shaG shaS
  rw [padM_map,List.length_map]
 rw [e0]
 generalize shaBlocks shaF ((l.length+72) / 64) ((nPad l).map Int.ofNat) (fnL ivL)=z at r2
 have hb:bytL (dgOf z) 0 32=([byA (Nat.mod (Nat.div a 16777216) 256),byA (Nat.mod (Nat.div a 65536) 256),byA (Nat.mod (Nat.div a 256) 256),byA (Nat.mod a 256)] ++ ([byA (Nat.mod (Nat.div c 16777216) 256),byA (Nat.mod (Nat.div c 65536) 256),byA (Nat.mod (Nat.div c 256) 256),byA (Nat.mod c 256)] ++
  ([byA (Nat.mod (Nat.div d 16777216) 256),byA (Nat.mod (Nat.div d 65536) 256),byA (Nat.mod (Nat.div d 256) 256),byA (Nat.mod d 256)] ++ ([byA (Nat.mod (Nat.div e 16777216) 256),byA (Nat.mod (Nat.div e 65536) 256),byA (Nat.mod (Nat.div e 256) 256),byA (Nat.mod e 256)] ++
  ([byA (Nat.mod (Nat.div f 16777216) 256),byA (Nat.mod (Nat.div f 65536) 256),byA (Nat.mod (Nat.div f 256) 256),byA (Nat.mod f 256)] ++ ([byA (Nat.mod (Nat.div g 16777216) 256),byA (Nat.mod (Nat.div g 65536) 256),byA (Nat.mod (Nat.div g 256) 256),byA (Nat.mod g 256)] ++
  ([byA (Nat.mod (Nat.div q 16777216) 256),byA (Nat.mod (Nat.div q 65536) 256),byA (Nat.mod (Nat.div q 256) 256),byA (Nat.mod q 256)] ++ [byA (Nat.mod (Nat.div i 16777216) 256),byA (Nat.mod (Nat.div i 65536) 256),byA (Nat.mod (Nat.div i 256) 256),byA (Nat.mod i 256)]))))))):=by
  rw [show (32:Nat)=4+(4+(4+(4+(4+(4+(4+4)))))) from rfl,bytL_add,bytL_add,bytL_add,bytL_add,bytL_add,bytL_add,bytL_add]
  rw [<- dg_word r2.a,<- dg_word r2.b,<- dg_word r2.c,<- dg_word r2.d,<- dg_word r2.e,<- dg_word r2.f,<- dg_word r2.g,<- dg_word r2.h]
 show AV.agg _=AV.agg (bytL (dgOf z) 0 32)
 rw [hb]
 rfl
def lensS:List Nat:=[15]
def shS:SA->Bool
 | .own es n=>Nat.beq es 1 && memN n lensS
 | _=>false
def allBy:List Int->Bool
 | []=>true
 | .ofNat n :: t=>Nat.blt n 256 && allBy t
 | _=>false
def natsOf:List Int->List Nat
 | []=>[]
 | x :: t=>x.toNat :: natsOf t
theorem allBy_is:∀ {l:List Int},allBy l=true->l=(natsOf l).map Int.ofNat /\ ∀ x ∈ natsOf l,x < 256
 | [],_=>⟨rfl,fun x h=>by simp [natsOf] at h⟩
 | .ofNat n :: t,h=>by
  simp only [allBy,Bool.and_eq_true] at h
  obtain ⟨h1,h2⟩:=allBy_is h.2
  refine ⟨?_,fun x hx=>?_⟩
  . show Int.ofNat n :: t=Int.ofNat n :: (natsOf t).map Int.ofNat
    rw [<- h1]
  . simp only [natsOf,List.mem_cons] at hx
    rcases hx with rfl | hx
    . exact Nat.le_of_ble_eq_true h.1
    . exact h2 x hx
 | .negSucc n :: t,h=>by simp [allBy] at h
noncomputable def fastS (x:SA × List AV):AV:=match decS (cInt .u8) x with
 | some l=>bif allBy l then nDig (natsOf l) else (cBy 32).agg.enc (g1 (cInt .u8) (shaG shaF) x)
 | none=>(cBy 32).agg.enc (g1 (cInt .u8) (shaG shaF) x)
theorem fastS_eq (x:SA × List AV):fastS x=(cBy 32).agg.enc (g1 (cInt .u8) (shaG shaF) x):=by
 unfold fastS
 split
 . rename_i l hl
   cases hb:allBy l with
   | false=>rw [cond_false]
   | true =>
    rw [cond_true]
    obtain ⟨h1,h2⟩:=allBy_is hb
    rw [nDig_ok h2,<- h1]
    unfold g1
    rw [hl];rfl
 . rfl
noncomputable def sumV (args:List AV) (h:AH):Option (Bool × AV × AH):=match args with
 | [a]=>match readS a h with
  | some x=>some (ok1 shS (cInt .u8) x,fastS x,[])
  | none=>none
 | _=>none
theorem sumV_eq:sumV=s1V (cBy 32).agg (ok1 shS (cInt .u8)) (g1 (cInt .u8) (shaG shaF)):=by
 funext args h
 unfold sumV s1V
 simp only [fastS_eq]
 rfl
theorem sd_cod:codeOk (sdE shaF) (bodyOf PR 113)=true:=by kernel_rfl
end Go.Rq.Cl
