import Derived.Test.YtedplhdabefnkaaGreatDoorRq02
namespace Go.Rq
open Go
theorem maps_congr {ev ev':Operand->AV}:∀ {l:List Operand},(∀ x ∈ l,ev x=ev' x)->maps ev l=maps ev' l
 | [],_=>rfl
 | x :: t,h=>by simp only [maps];rw [h x (by simp),maps_congr fun y hy=>h y (by simp [hy])]
theorem evs_congr {ev ev':Operand->AV}:∀ {l:List (Nat × Operand)},(∀ p ∈ l,ev p.2=ev' p.2)->evs ev l=evs ev' l
 | [],_=>rfl
 | p :: t,h=>by obtain ⟨i,x⟩:=p;simp only [evs];rw [h (i,x) (by simp),evs_congr fun y hy=>h y (by simp [hy])]
theorem bound_congr {ev ev':Operand->AV}:∀ {o:Option Operand},(∀ x,o=some x->ev x=ev' x)->bound ev o=bound ev' o
 | none,_=>rfl
 | some x,h=>by simp only [bound];rw [h x rfl]
theorem opPure_congr {P:Program} {E:Env} {ev ev':Operand->AV} {op:Op} (h:∀ x ∈ op.operands,ev x=ev' x):opPure P E ev op=opPure P E ev' op:=by
 cases op with
 | slice t x lo hi mx =>
  cases mx with
  | some m =>
   cases hi with
   | none=>rfl
   | some hi =>
    have hx:ev x=ev' x:=h x (by simp [Op.operands])
    have hlo:bound ev lo=bound ev' lo:=bound_congr fun y hy=>h y (by subst hy;simp [Op.operands])
    have hh:ev hi=ev' hi:=h hi (by simp [Op.operands])
    have hm:ev m=ev' m:=h m (by simp [Op.operands])
    simp only [opPure,hx,hlo,hh,hm]
  | none =>
   have hx:ev x=ev' x:=h x (by simp [Op.operands])
   have hlo:bound ev lo=bound ev' lo:=bound_congr fun y hy=>h y (by subst hy;simp [Op.operands])
   have hhi:bound ev hi=bound ev' hi:=bound_congr fun y hy=>h y (by subst hy;simp [Op.operands])
   simp only [opPure,hx,hlo,hhi]
 | build t parts =>
  have hp:evs ev parts.toList=evs ev' parts.toList:=evs_congr fun p hp=>h p.2 (by
   simp only [Op.operands,List.mem_toArray,List.mem_map]
   exact ⟨p,hp,rfl⟩)
  simp only [opPure,buildA,hp]
 | makeFunc f as bs =>
  have h1:maps ev as.toList=maps ev' as.toList:=maps_congr fun x hx=>h x (by simp [Op.operands];exact .inl (by simpa using hx))
  have h2:maps ev bs.toList=maps ev' bs.toList:=maps_congr fun x hx=>h x (by simp [Op.operands];exact .inr (by simpa using hx))
  simp only [opPure,h1,h2]
 | pick c a b =>
  have h1:=h c (by simp [Op.operands]);have h2:=h a (by simp [Op.operands]);have h3:=h b (by simp [Op.operands])
  simp only [opPure,h1,h2,h3]
 | binOp op t x y u =>
  have h1:=h x (by simp [Op.operands]);have h2:=h y (by simp [Op.operands])
  simp only [opPure,h1,h2]
 | indexAddr t x y =>
  have h1:=h x (by simp [Op.operands]);have h2:=h y (by simp [Op.operands])
  simp only [opPure,h1,h2]
 | index t x y =>
  have h1:=h x (by simp [Op.operands]);have h2:=h y (by simp [Op.operands])
  simp only [opPure,h1,h2]
 | move x=>have h1:=h x (by simp [Op.operands]);simp only [opPure,h1]
 | assign x=>have h1:=h x (by simp [Op.operands]);simp only [opPure,h1]
 | nilCheck x=>have h1:=h x (by simp [Op.operands]);simp only [opPure,h1]
 | unOp o t x=>have h1:=h x (by simp [Op.operands]);simp only [opPure,h1]
 | convert s d x=>have h1:=h x (by simp [Op.operands]);simp only [opPure,h1]
 | makeInterface t x=>have h1:=h x (by simp [Op.operands]);simp only [opPure,h1]
 | sliceToArrayPointer t x=>have h1:=h x (by simp [Op.operands]);simp only [opPure,h1]
 | fieldAddr s x f=>have h1:=h x (by simp [Op.operands]);simp only [opPure,h1]
 | field s x f=>have h1:=h x (by simp [Op.operands]);simp only [opPure,h1]
 | extract x i=>have h1:=h x (by simp [Op.operands]);simp only [opPure,h1]
 | _=>rfl
theorem effOp_congr {P:Program} {E:Env} {ev ev':Operand->AV} {hp:AH} {id:Nat} {op:Op} (h:∀ x ∈ op.operands,ev x=ev' x):effOp P E ev hp id op=effOp P E ev' hp id op:=by
 cases op with
 | alloc t=>rfl
 | box t x=>have h1:=h x (by simp [Op.operands]);simp only [effOp,h1]
 | load t x=>have h1:=h x (by simp [Op.operands]);simp only [effOp,h1]
 | store t x y=>have h1:=h x (by simp [Op.operands]);have h2:=h y (by simp [Op.operands]);simp only [effOp,h1,h2]
 | call c =>
  have hargs:∀ x ∈ c.args.toList,ev x=ev' x:=fun x hx=>h x (by simp [Op.operands,Call.operands];exact .inr (by simpa using hx))
  simp only [effOp]
  split
  . rename_i f hf
    have h1:ev f=ev' f:=h f (by simp [Op.operands,Call.operands,hf])
    simp only [effCall,h1,maps_congr hargs]
  . have:effLen P ev c=effLen P ev' c:=by
     unfold effLen
     split
     . rename_i x xs t ts e1 e2
       rw [hargs x (by rw [e1];simp)]
     . rfl
    rw [this]
  . have ho:ownArg ev c=ownArg ev' c:=by
     unfold ownArg
     split
     . rename_i s xs e1
       rw [hargs s (by rw [e1];simp)]
     . rfl
    have:effAppend P ev hp id c=effAppend P ev' hp id c:=by
     unfold effAppend
     split
     . rename_i s x t t' e1 e2
       rw [hargs s (by rw [e1];simp),hargs x (by rw [e1];simp)]
     . rfl
    have hn:nilSrc P E.dyn ev c=nilSrc P E.dyn ev' c:=by
     unfold nilSrc
     split
     . rename_i s x t t' e1 e2
       rw [hargs s (by rw [e1];simp),hargs x (by rw [e1];simp)]
     . rfl
    simp only [effAppendF,ho,this,hn]
  . simp only [effMax,maps_congr hargs]
  . simp only [effMin,maps_congr hargs]
  . unfold effCopy
    split
    . rename_i s x t ts e1 e2
      rw [hargs s (by rw [e1];simp),hargs x (by rw [e1];simp)]
    . rfl
  . have:effCap P ev c=effCap P ev' c:=by
     unfold effCap
     split
     . rename_i x xs t ts e1 e2
       rw [hargs x (by rw [e1];simp)]
     . rfl
    rw [this]
  . rfl
 | convert s d x =>
  have h1:=h x (by simp [Op.operands])
  have h2:=opPure_congr (P:=P) (E:=E) h
  simp only [effOp,h1,h2]
 | buildSlice t len parts =>
  have hp:evs ev parts.toList=evs ev' parts.toList:=evs_congr fun p hp=>h p.2 (by
   simp only [Op.operands,List.mem_toArray,List.mem_map]
   exact ⟨p,hp,rfl⟩)
  simp only [effOp,effBuildSlice,hp]
 | makeSlice t l c =>
  have h1:=h l (by simp [Op.operands]);have h2:=h c (by simp [Op.operands])
  simp only [effOp,effMake,h1,h2]
 | makeMap t q =>
  have hq:hintOk P ev t q=hintOk P ev' t q:=by
   cases q with
   | none=>rfl
   | some z=>simp only [hintOk,h z (by simp [Op.operands])]
  simp only [effOp,hq]
 | lookup t x ix ok =>
  have h1:=h x (by simp [Op.operands]);have h2:=h ix (by simp [Op.operands])
  simp only [effOp,h1,h2]
 | mapUpdate t m k x =>
  have h1:=h m (by simp [Op.operands]);have h2:=h k (by simp [Op.operands]);have h3:=h x (by simp [Op.operands])
  simp only [effOp,h1,h2,h3]
 | _=>simp only [effOp,opPure_congr h]
theorem look_congr {tm tm':List AV} {x:Operand} (h:∀ t,x=.tmp t->tm'[t]?=tm[t]?):look tm' x=look tm x:=by
 cases x with
 | tmp t=>simp only [look,List.getD];rw [h t rfl]
 | _=>rfl
theorem rdArgs_mem {E:Env} {op:Op} {as:List Operand} (h:rdArgs E op=some as) {x:Operand} (hx:x ∈ as):x ∈ op.operands:=by
 unfold rdArgs at h
 split at h
 . rename_i c
   split at h
   . split at h
     . cases h
     . split at h
       . split at h
         . simp only [Option.some.injEq] at h
           subst h
           simp only [Op.operands,Call.operands,Array.mem_append]
           exact .inr (Array.mem_toList_iff.1 hx)
         . cases h
       . cases h
   . cases h
 . cases h
theorem strArg_mem {E:Env} {op:Op} {x:Operand} (h:strArg E op=some x):x ∈ op.operands:=by
 unfold strArg at h
 split at h
 . split at h
   . simp only [Option.some.injEq] at h
     subst h
     simp [Op.operands]
   . cases h
 . cases h
theorem mvArg_mem {E:Env} {op:Op} {x:Operand} (h:mvArg E op=some x):x ∈ op.operands:=by
 unfold mvArg at h
 split at h
 . split at h
   . simp only [Option.some.injEq] at h
     subst h
     simp [Op.operands]
   . cases h
 . cases h
theorem appArg_mem {op:Op} {s:Operand} (h:appArg op=some s):s ∈ op.operands:=by
 unfold appArg at h
 split at h
 . rename_i c
   split at h
   . split at h
     . rename_i x t hx
       simp at h;subst h
       have:x ∈ c.args.toList:=by rw [hx];simp
       simp only [Op.operands,Call.operands,Array.mem_append]
       exact .inr (Array.mem_toList_iff.1 this)
     . cases h
   . cases h
 . cases h
theorem eff_congr {P:Program} {E:Env} {γ:Nat->Option Bool} {base:Nat} {ops:Array Oper} {i:Nat} {o:Oper} {tm tm':List AV} {h:AH} (ho:ops[i]?=some o)
 (hl:∀ t ∈ o.looksAt ops,tm'[t]?=tm[t]?):eff P E γ base ops i tm' h=eff P E γ base ops i tm h:=by
 have hget:ops.toList[i]?=some o:=by simpa using ho
 have h1:wantedA ops tm' o=wantedA ops tm o:=by
  unfold wantedA
  split
  . rfl
  . rename_i j want hg
    have hy:(ops.toList[j]?).bind (·.dst)=(ops[j]?).bind (·.dst):=by simp
    rw [hy]
    split
    . rfl
    . rename_i d hd
      rw [hl d (by simp [Oper.looksAt,hg,hd])]
 have h2:effOp P E (look tm') h (base+E.kk*i) o.op=effOp P E (look tm) h (base+E.kk*i) o.op:=effOp_congr fun x hx=>look_congr fun t e=>by
  subst e
  refine hl t ?_
  simp only [Oper.looksAt,List.mem_append,List.mem_filterMap]
  exact .inl ⟨.tmp t,by simpa using hx,rfl⟩
 have h3:tauOk E i o.op (look tm')=tauOk E i o.op (look tm):=by
  have lk:∀ x,x ∈ o.op.operands->look tm' x=look tm x:=fun x hx=>look_congr fun t e=>by
   subst e
   refine hl t ?_
   simp only [Oper.looksAt,List.mem_append,List.mem_filterMap]
   exact .inl ⟨.tmp t,by simpa using hx,rfl⟩
  unfold tauOk
  split
  . rfl
  . split
    . rename_i hop
      rw [lk _ (by rw [hop];simp [Op.operands])]
    . rename_i hop
      rw [lk _ (by rw [hop];simp [Op.operands])]
    . split
      . rename_i s hs
        rw [lk _ (appArg_mem hs)]
      . split
        . rename_i a has
          rw [lk _ (strArg_mem has)]
        . split
          . rename_i as has
            rw [maps_congr fun x hx=>lk x (rdArgs_mem has hx)]
          . split
            . rename_i a has
              rw [lk _ (mvArg_mem has)]
            . rfl
 unfold eff
 rw [hget]
 simp only [h1,effT_of h2,h3]
theorem putA_get {tm:List AV} {d:Option Tmp} {r:AV} {t:Nat} (h:∀ e,d=some e->e ≠ t):(putA tm d r)[t]?=tm[t]?:=by
 cases d with
 | none=>rfl
 | some e=>simp only [putA];rw [List.getElem?_set,if_neg (h e rfl)]
theorem putA_comm {tm:List AV} {d e:Option Tmp} {r q:AV} (h:∀ x,d=some x->e ≠ some x):putA (putA tm d r) e q=putA (putA tm e q) d r:=by
 cases d with
 | none=>rfl
 | some x =>
  cases e with
  | none=>rfl
  | some y=>exact List.set_comm _ _ (fun he=>h x rfl (by rw [he]))
theorem cond_some {α:Type} {b:Bool} {x:Option α} {y:α} (h:(bif b then x else none)=some y):b=true /\ x=some y:=by
 cases b with
 | true=>exact ⟨rfl,h⟩
 | false=>cases h
theorem effAppendZ_lays {P:Program} {h:AH} {id:Nat} {t t':TypeId} {a x:AV} {cc:Bool} {r:AV} {ups:AH} (he:effAppendZ P h id t t' a x=some (cc,r,ups)):∃ b,ups=[(id,b)]:=by
 unfold effAppendZ at he
 split at he
 . split at he
   . split at he
     . obtain ⟨-,he⟩:=cond_some he
       simp at he
       exact ⟨_,he.2.2.symm⟩
     . cases he
   . cases he
 . cases he
theorem effAppendF_lays {P:Program} {E:Env} {ev:Operand->AV} {h:AH} {id:Nat} {c:Call} {cc:Bool} {r:AV} {ups:AH} (hf:E.fresh=true) (he:effAppendF P E ev h id c=some (cc,r,ups)):ups=[] \/ ∃ b,ups=[(id,b)]:=by
 unfold effAppendF at he
 split at he
 . cases he
 rename_i ho
 rw [hf,Bool.true_and] at ho
 rw [hf] at he
 simp only at he
 unfold effAppend at he
 split at he
 case h_2=>cases he
 rename_i s x t t' ea et
 split at he
 . unfold effAppendO at he
   split at he
   . obtain ⟨i,es,k,n,h1,-⟩:=effAppendT_own he
     unfold ownArg at ho
     rw [ea] at ho
     simp only [h1] at ho
     cases ho
   . exact .inr (effAppendZ_lays he)
 split at he
 case h_2=>cases he
 split at he
 . cases he
 split at he
 . cases he
 split at he
 . cases he
 obtain ⟨-,he⟩:=cond_some he
 unfold appendTo at he
 split at he
 . obtain ⟨-,he⟩:=cond_some he
   simp at he
   exact .inr ⟨_,he.2.2.symm⟩
 . rename_i hs
   unfold ownArg at ho
   rw [ea] at ho
   simp only [hs] at ho
   cases ho
 . split at he
   . cases he
   split at he
   . cases he
   obtain ⟨-,he⟩:=cond_some he
   simp at he
   exact .inr ⟨_,he.2.2.symm⟩
 . cases he
theorem effOp_lays0 {P:Program} {E:Env} {tm:List AV} {h:AH} {id:Nat} {op:Op} {c:Bool} {r:AV} {ups:AH} (hw:isWr E op=false) (he:effOp P E (look tm) h id op=some (c,r,ups)) :
 (ups=[] \/ ∃ b,ups=[(id,b)]) \/ ∀ p ∈ ups,inR id E.kk p.1:=by
 cases op with
 | alloc t=>simp only [effOp] at he;split at he <;> simp at he;exact .inl (.inr ⟨_,he.2.2.symm⟩)
 | box t x=>simp only [effOp] at he;split at he <;> simp at he;exact .inl (.inr ⟨_,he.2.2.symm⟩)
 | buildSlice t len parts =>
  simp only [effOp,effBuildSlice] at he
  split at he
  . split at he
    . cases he
    . split at he
      . cases he
      . obtain ⟨-,he⟩:=cond_some he
        split at he <;> simp at he
        exact .inl (.inr ⟨_,he.2.2.symm⟩)
  . cases he
 | load t a =>
  simp only [effOp] at he
  split at he
  . split at he
    . split at he <;> simp at he;exact .inl (.inl he.2.2)
    . cases he
  . split at he
    . split at he <;> simp at he;exact .inl (.inl he.2.2)
    . cases he
  . cases he
 | store t a x=>simp [isWr] at hw
 | mapUpdate t m k x=>simp [isWr] at hw
 | makeMap t q=>simp only [effOp] at he;split at he <;> simp at he;exact .inl (.inr ⟨_,he.2.2.symm⟩)
 | call c' =>
  simp only [effOp] at he
  split at he
  . rename_i f hf
    unfold effCall at he
    split at he
    . rename_i fid as bs hfv
      split at he
      . split at he <;> simp at he;exact .inl (.inl he.2.2)
      . rename_i hg
        split at he
        . rename_i f'
          simp [look] at hfv
          obtain ⟨rfl,-,-⟩:=hfv
          split at he
          . rename_i g hg'
            have hro:memN f' E.ro=true:=by simpa [isWr,hf,hg,hg'] using hw
            rw [hro] at he
            simp only at he
            split at he
            . simp at he;exact .inl (.inl he.2.2)
            . cases he
          . rename_i hg'
            split at he
            . split at he <;> simp at he
              exact .inl (.inr ⟨_,he.2.2.symm⟩)
            . rename_i hl
              split at he
              . rename_i g hga
                have hro:memN f' E.ro=true:=by simpa [isWr,hf,hg,hg',hl,hga] using hw
                rw [hro] at he
                simp only at he
                split at he
                . rename_i c1 r1 u1 h1
                  split at he
                  . rename_i hal
                    simp at he
                    obtain ⟨-,-,rfl⟩:=he
                    exact .inr (allB_spec hal)
                  . cases he
                . cases he
              . cases he
        . rename_i hnf
          have hd:isWr E (.call c')=E.dyn:=by
           simp only [isWr,hf]
           try (split;· rename_i f'' e;exact absurd e (hnf f'');· rfl)
          rw [<- hd,hw] at he
          cases he
    . cases he
  . split at he <;> simp at he;exact .inl (.inl he.2.2)
  . rename_i hb
    have hfr:E.fresh=true:=by simpa [isWr,hb] using hw
    exact .inl (effAppendF_lays hfr he)
  . split at he <;> simp at he;exact .inl (.inl he.2.2)
  . split at he <;> simp at he;exact .inl (.inl he.2.2)
  . rename_i hb;simp [isWr,hb] at hw
  . split at he <;> simp at he;exact .inl (.inl he.2.2)
  . cases he
 | makeSlice t l c' =>
  simp only [effOp,effMake] at he
  split at he
  . split at he
    . cases he
    . split at he
      . cases he
      . obtain ⟨-,he⟩:=cond_some he
        simp at he
        exact .inl (.inr ⟨_,he.2.2.symm⟩)
  . cases he
 | convert s d x =>
  have hmk:isMark E s d (look tm x)=false:=by
   have hw:(E.dyn && Nat.beq s d)=false:=hw
   unfold isMark
   rw [hw,Bool.false_and]
  simp only [effOp,hmk] at he
  split at he
  . split at he <;> simp at he <;> exact .inl (.inl he.2.2)
  . split at he
    . rename_i q hq
      simp only [Option.some.injEq] at he
      subst he
      unfold effBytes at hq
      split at hq
      case h_2=>cases hq
      split at hq
      case h_2=>cases hq
      obtain ⟨-,hq⟩:=cond_some hq
      simp only [Option.some.injEq,Prod.mk.injEq] at hq
      exact .inl (.inr ⟨_,hq.2.2.symm⟩)
    . split at he <;> simp at he <;> exact .inl (.inl he.2.2)
 | _=>simp only [effOp] at he;split at he <;> simp at he;exact .inl (.inl he.2.2)
theorem effOp_lays {P:Program} {E:Env} (hE:EnvOk P E) {tm:List AV} {h:AH} {id:Nat} {op:Op} {c:Bool} {r:AV} {ups:AH} (hw:isWr E op=false) (he:effOp P E (look tm) h id op=some (c,r,ups)) :
 ∀ p ∈ ups,inR id E.kk p.1:=by
 rcases effOp_lays0 hw he with (h | ⟨b,h⟩) | h
 . subst h;simp
 . subst h;intro p hp;simp at hp;subst hp;exact inR_self hE.kk
 . exact h
theorem effAppend_ups {P:Program} {ev:Operand->AV} {h:AH} {id:Nat} {c:Call} {cc:Bool} {r:AV} {ups:AH} (he:effAppend P ev h id c=some (cc,r,ups)):∀ p ∈ ups,p.1=id \/ ∃ B,h.get p.1=some B:=by
 unfold effAppend at he
 split at he
 case h_2=>cases he
 split at he
 . unfold effAppendO at he
   split at he
   . obtain ⟨i,es,k,n,-,B,b,h2,rfl⟩:=effAppendT_own he
     intro p hp
     simp at hp
     rcases hp with rfl | rfl
     . exact .inl rfl
     . exact .inr ⟨B,h2⟩
   obtain ⟨b,rfl⟩:=effAppendZ_lays he
   intro p hp;simp at hp;subst hp;exact .inl rfl
 split at he
 case h_2=>cases he
 split at he
 . cases he
 split at he
 . cases he
 split at he
 . cases he
 obtain ⟨-,he⟩:=cond_some he
 unfold appendTo at he
 split at he
 . obtain ⟨-,he⟩:=cond_some he
   simp at he
   obtain ⟨-,-,rfl⟩:=he
   intro p hp;simp at hp;subst hp;exact .inl rfl
 . split at he
   . cases he
   rename_i B hB
   split at he
   . cases he
   obtain ⟨-,he⟩:=cond_some he
   simp at he
   obtain ⟨-,-,rfl⟩:=he
   intro p hp;simp at hp
   rcases hp with rfl | rfl
   . exact .inl rfl
   . exact .inr ⟨B,getC_get hB⟩
 . split at he
   . cases he
   rename_i B hB
   split at he
   . cases he
   obtain ⟨-,he⟩:=cond_some he
   simp at he
   obtain ⟨-,-,rfl⟩:=he
   intro p hp;simp at hp;subst hp;exact .inl rfl
 . cases he
theorem effOp_writes {P:Program} {E:Env} (hE:EnvOk P E) {tm:List AV} {h:AH} {id:Nat} {op:Op} {c:Bool} {r:AV} {ups:AH} (hw:isWr E op=true) (he:effOp P E (look tm) h id op=some (c,r,ups)) :
 ∀ p ∈ ups,inR id E.kk p.1 \/ ∃ B,h.get p.1=some B:=by
 cases op with
 | store t a x =>
  simp only [effOp] at he
  split at he
  . rename_i i off _
    split at he
    . rename_i B hB
      split at he
      . split at he <;> simp at he
        obtain ⟨-,-,rfl⟩:=he
        intro p hp;simp at hp;subst hp;exact .inr ⟨B,getC_get hB⟩
      . cases he
    . cases he
  . cases he
 | mapUpdate t m k x =>
  simp only [effOp] at he
  split at he
  . rename_i i B hu
    simp at he
    obtain ⟨-,-,rfl⟩:=he
    obtain ⟨-,⟨B0,hB0,-⟩,-⟩:=updateA_dom hu
    intro p hp;simp at hp;subst hp;exact .inr ⟨B0,hB0⟩
  . cases he
 | call c' =>
  simp only [effOp] at he
  split at he
  . rename_i f hf
    unfold effCall at he
    split at he
    . rename_i fid as bs hfv
      split at he
      . split at he <;> simp at he
        obtain ⟨-,-,rfl⟩:=he
        simp
      . split at he
        . split at he
          . rename_i g hg
            split at he
            . exact fun p hp=>.inr ((hE.heap _ g hg).2.dom _ _ _ _ _ he p hp)
            . split at he
              . simp at he
                obtain ⟨-,-,rfl⟩:=he
                simp
              . cases he
          . split at he
            . split at he <;> simp at he
              obtain ⟨-,-,rfl⟩:=he
              intro p hp;simp at hp;subst hp;exact .inl (inR_self hE.kk)
            . split at he
              . rename_i g hga
                split at he
                . exact (hE.act _ g hga).2.dom _ _ _ _ _ _ he
                . split at he
                  . rename_i c1 r1 u1 h1
                    split at he
                    . simp at he
                      obtain ⟨-,-,rfl⟩:=he
                      exact (hE.act _ g hga).2.dom _ _ _ _ _ _ h1
                    . cases he
                  . cases he
              . cases he
        . split at he
          . cases he
          . split at he
            . rename_i g hga
              exact (hE.act _ g hga).2.dom _ _ _ _ _ _ he
            . cases he
    . cases he
  . rename_i hb;simp [isWr,hb] at hw
  . rcases effAppendF_cases he with he | ⟨r',-,he⟩
    case inr =>
     simp only [Prod.mk.injEq] at he
     obtain ⟨-,-,rfl⟩:=he
     intro p hp;cases hp
    . intro p hp
      rcases effAppend_ups he p hp with hq | hq
      . exact .inl (by rw [hq];exact inR_self hE.kk)
      . exact .inr hq
  . rename_i hb;simp [isWr,hb] at hw
  . rename_i hb;simp [isWr,hb] at hw
  . unfold effCopy at he
    split at he
    . split at he
      . split at he
        . rename_i n B hn hB
          split at he
          . split at he
            . obtain ⟨-,he⟩:=cond_some he
              simp at he
              obtain ⟨-,-,rfl⟩:=he
              intro p hp;simp at hp;subst hp;exact .inr ⟨B,getC_get hB⟩
            . cases he
          . cases he
        . cases he
      . cases he
    . cases he
  . rename_i hb;simp [isWr,hb] at hw
  . cases he
 | convert s d x =>
  have hw:(E.dyn && Nat.beq s d)=true:=hw
  simp only [effOp] at he
  split at he
  . unfold effMark at he
    split at he
    case h_2=>cases he
    split at he
    case h_2=>cases he
    split at he
    case h_2=>cases he
    rename_i i hi
    split at he
    case h_2=>cases he
    rename_i B hB
    split at he
    case h_2=>cases he
    simp only [Option.some.injEq,Prod.mk.injEq] at he
    obtain ⟨-,-,rfl⟩:=he
    intro p hp;simp at hp
    rcases hp with rfl | rfl
    . exact .inl (inR_self hE.kk)
    . exact .inr ⟨B,getC_get hB⟩
  . split at he
    . split at he <;> simp at he
      obtain ⟨-,-,rfl⟩:=he
      simp
    . split at he
      . rename_i q hq
        simp only [Option.some.injEq] at he
        subst he
        unfold effBytes at hq
        split at hq
        . split at hq
          . obtain ⟨-,hq⟩:=cond_some hq
            simp at hq
            obtain ⟨-,-,rfl⟩:=hq
            intro p hp;simp at hp;subst hp;exact .inl (inR_self hE.kk)
          . cases hq
        . cases hq
      . split at he <;> simp at he
        obtain ⟨-,-,rfl⟩:=he
        simp
 | _=>simp [isWr] at hw
theorem effOp_free {P:Program} {E:Env} {tm:List AV} {h h':AH} {id:Nat} {op:Op} (hw:isWr E op=false) (hr:isRd E op=false) :
 effOp P E (look tm) h id op=effOp P E (look tm) h' id op:=by
 cases op with
 | load t a=>simp [isRd] at hr
 | store t a x=>simp [isWr] at hw
 | lookup t x ix ok=>simp [isRd] at hr
 | mapUpdate t m k x=>simp [isWr] at hw
 | call c' =>
  simp only [effOp]
  split
  . rename_i f hf
    unfold effCall
    split
    . rename_i fid as bs hfv
      split
      . rfl
      . rename_i hg
        split
        . rename_i f'
          simp [look] at hfv
          obtain ⟨rfl,-,-⟩:=hfv
          split
          . rename_i g hg'
            have h1:memN f' E.ro=true:=by simpa [isWr,hf,hg,hg'] using hw
            have h2:memN f' E.ro=false:=by simpa [isRd,hf,hg,hg'] using hr
            rw [h1] at h2;cases h2
          . rename_i hg'
            split
            . rfl
            . rename_i hl
              split
              . rename_i g hga
                have h1:memN f' E.ro=true:=by simpa [isWr,hf,hg,hg',hl,hga] using hw
                have h2:memN f' E.ro=false:=by simpa [isRd,hf,hg,hg',hl,hga] using hr
                rw [h1] at h2;cases h2
              . rfl
        . rename_i hnf
          have hd:isWr E (.call c')=E.dyn:=by
           simp only [isWr,hf]
           try (split;· rename_i f'' e;exact absurd e (hnf f'');· rfl)
          rw [<- hd,hw]
    . rfl
  . rfl
  . rename_i hb
    have h1:E.fresh=true:=by simpa [isWr,hb] using hw
    have h2:E.fresh=false:=by simpa [isRd,hb] using hr
    rw [h1] at h2;cases h2
  . rfl
  . rfl
  . rename_i hb;simp [isWr,hb] at hw
  . rfl
  . rfl
 | convert s d x =>
  have hr:inL d E.strT=false:=hr
  have hmk:isMark E s d (look tm x)=false:=by
   have hw:(E.dyn && Nat.beq s d)=false:=hw
   unfold isMark
   rw [hw,Bool.false_and]
  simp only [effOp,hr,hmk,Bool.false_and]
 | _=>rfl
theorem effOp_weaken {P:Program} {E:Env} (hE:EnvOk P E) {ρ:Ren} {ev:Operand->AV} {va:Operand->Value} (hev:EvOk ρ ev va) {F:Fr} {w:World} {h:AH} (hw:RW F ρ h w) {u:AH} (hu:∀ p ∈ u,ρ p.1=none) {id:Nat} {op:Op} {x:Bool × AV × AH}
 (he:effOp P E ev (u ++ h) id op=some x):effOp P E ev h id op=some x:=by
 have past:∀ {i:Nat},ρ i ≠ none->AH.get (u ++ h) i=AH.get h i:=by
  intro i hi
  rw [AH.get_append,if_neg]
  rintro ⟨p,hp,rfl⟩
  exact hi (hu p hp)
 have key:∀ {y:Operand} {i off:Nat},ev y=.ptr i off->AH.get (u ++ h) i=AH.get h i:=by
  intro y i off hy
  have:=hev y;rw [hy] at this
  generalize va y=v at this
  cases this with
  | ptr hb=>exact past (by rw [hb];simp)
 have keyN:∀ (y:Operand) (i:Nat) (B:Blk),named (ev y) i->AH.get (u ++ h) i=some B->h.get i=some B:=by
  intro y i B hn hB
  have:=hev y
  unfold named at hn
  rw [past] at hB
  . exact hB
  . split at hn
    . rename_i hy;rw [hy] at this;subst hn
      generalize va y=v at this
      cases this with | slc hb=>rw [hb];simp
    . rename_i hy;rw [hy] at this;subst hn
      generalize va y=v at this
      cases this with | own hb _ _ _=>rw [hb];simp | ownE hb _=>rw [hb];simp
    . rename_i hy;rw [hy] at this;subst hn
      generalize va y=v at this
      cases this with | mp hb=>rw [hb];simp
    . exact hn.elim
 cases op with
 | load t a =>
  simp only [effOp] at he ⊢
  split at he
  . rename_i i off hx
    rw [getC_congr (key hx)] at he
    exact he
  . exact he
  . cases he
 | store t a y =>
  simp only [effOp] at he ⊢
  split at he
  . rename_i i off hx
    rw [getC_congr (key hx)] at he
    exact he
  . cases he
 | lookup t x ix ok =>
  simp only [effOp] at he ⊢
  split at he
  . rename_i r hr
    have:=lookupA_cong (h':=h) (fun i B hx hB=>keyN x i B (by rw [hx];rfl) hB) hr
    simp only [this];exact he
  . cases he
 | mapUpdate t m k x =>
  simp only [effOp] at he ⊢
  split at he
  . rename_i i B hr
    have:=updateA_cong (h':=h) (fun i B hx hB=>keyN m i B (by rw [hx];rfl) hB) hr
    simp only [this];exact he
  . cases he
 | call c =>
  simp only [effOp] at he ⊢
  split at he
  . rename_i f hf
    unfold effCall at he ⊢
    split at he
    . rename_i fid as bs hfv
      try simp only [hfv]
      split at he
      . exact he
      . rename_i hg
        split at he
        . rename_i f'
          split at he
          . rename_i g hg'
            have loc:∀ (u:AH),(∀ p ∈ u,ρ p.1=none)->∀ y,g (maps ev c.args.toList) (u ++ h)=some y->g (maps ev c.args.toList) h=some y:=by
             intro u
             induction u with
             | nil=>intro _ y hy;exact hy
             | cons p t ih =>
              intro hp y hy
              exact ih (fun q hq=>hp q (List.mem_cons_of_mem _ hq)) y ((hE.heap _ g hg').2.local_ ρ _ _ p.1 p.2 _ _ (Rvs.maps hev c.args.toList) (hp p (by simp)) hy)
            split at he
            . exact loc u hu _ he
            . split at he
              . rename_i c1 r1 h1
                simp only [loc u hu _ h1]
                exact he
              . cases he
          . split at he
            . exact he
            . split at he
              . rename_i g hga
                split at he
                . exact (hE.act _ g hga).2.local_ F ρ _ _ _ u h w _ (Rvs.maps hev c.args.toList) hw hu he
                . split at he
                  . rename_i c1 r1 u1 h1
                    simp only [(hE.act _ g hga).2.local_ F ρ _ _ _ u h w _ (Rvs.maps hev c.args.toList) hw hu h1]
                    exact he
                  . cases he
              . cases he
        . split at he
          . cases he
          . split at he
            . rename_i g hga
              have h0:=hev f
              rw [hfv] at h0
              obtain ⟨xs,ys,-,hxs,hys⟩:=h0.fn_iff
              exact (hE.act _ g hga).2.local_ F ρ _ _ _ u h w _ (hxs.append ((Rvs.maps hev c.args.toList).append hys)) hw hu he
            . cases he
    . cases he
  . exact he
  . exact effAppendF_to (effAppend_cong keyN) he
  . exact he
  . exact he
  . exact effCopy_cong keyN he
  . exact he
  . cases he
 | convert s d x =>
  simp only [effOp] at he ⊢
  split at he
  . exact effMark_cong (keyN x) he
  split at he
  . split at he
    . rename_i r hr
      have:=effStr_cong (h':=h) (keyN x) hr
      simp only [this];exact he
    . cases he
  . exact he
 | _=>exact he
def indep (E:Env) (ops:Array Oper) (x y:Oper):Bool :=
 x.apart ops y && (!(isWr E x.op && (isRd E y.op || isWr E y.op)) && !(isRd E x.op && isWr E y.op))
theorem eff_lays {P:Program} {E:Env} (hE:EnvOk P E) {γ:Nat->Option Bool} {base:Nat} {ops:Array Oper} {i:Nat} {o:Oper} {tm:List AV} {h:AH} {e:Eff} (ho:ops[i]?=some o) (hw:isWr E o.op=false)
 (he:eff P E γ base ops i tm h=some e):e.d=o.dst /\ ∀ p ∈ e.ups,inR (base+E.kk*i) E.kk p.1:=by
 have hget:ops.toList[i]?=some o:=by simpa using ho
 unfold eff at he
 rw [hget] at he
 simp only at he
 split at he
 . cases he
 . simp at he;subst he;exact ⟨rfl,by simp⟩
 . split at he
   . cases he
   split at he
   . cases he
   . rename_i hop
     have:=effOp_lays hE hw (effT_spec hop).1
     split at he
     . simp at he;subst he;exact ⟨rfl,this⟩
     . split at he
       . simp at he;subst he;exact ⟨rfl,this⟩
       . simp at he;subst he;exact ⟨rfl,this⟩
       . cases he
theorem eff_writes {P:Program} {E:Env} (hE:EnvOk P E) {γ:Nat->Option Bool} {base:Nat} {ops:Array Oper} {i:Nat} {o:Oper} {tm:List AV} {h:AH} {e:Eff} (ho:ops[i]?=some o) (hw:isWr E o.op=true)
 (he:eff P E γ base ops i tm h=some e):e.d=o.dst /\ ∀ p ∈ e.ups,inR (base+E.kk*i) E.kk p.1 \/ ∃ B,h.get p.1=some B:=by
 have hget:ops.toList[i]?=some o:=by simpa using ho
 unfold eff at he
 rw [hget] at he
 simp only at he
 split at he
 . cases he
 . simp at he;subst he;exact ⟨rfl,by simp⟩
 . split at he
   . cases he
   split at he
   . cases he
   . rename_i hop
     have:=effOp_writes hE hw (effT_spec hop).1
     split at he
     . simp at he;subst he;exact ⟨rfl,this⟩
     . split at he
       . simp at he;subst he;exact ⟨rfl,this⟩
       . simp at he;subst he;exact ⟨rfl,this⟩
       . cases he
theorem eff_dst {P:Program} {E:Env} (hE:EnvOk P E) {γ:Nat->Option Bool} {base:Nat} {ops:Array Oper} {i:Nat} {o:Oper} {tm:List AV} {h:AH} {e:Eff} (ho:ops[i]?=some o)
 (he:eff P E γ base ops i tm h=some e):e.d=o.dst:=by
 cases hw:isWr E o.op with
 | true=>exact (eff_writes hE ho hw he).1
 | false=>exact (eff_lays hE ho hw he).1
theorem eff_free {P:Program} {E:Env} {γ:Nat->Option Bool} {base:Nat} {ops:Array Oper} {i:Nat} {o:Oper} {tm:List AV} {h h':AH} (ho:ops[i]?=some o) (hw:isWr E o.op=false) (hr:isRd E o.op=false) :
 eff P E γ base ops i tm h=eff P E γ base ops i tm h':=by
 have hget:ops.toList[i]?=some o:=by simpa using ho
 unfold eff
 rw [hget]
 simp only
 rw [effT_of (effOp_free (h':=h') hw hr)]
theorem eff_weaken {P:Program} {E:Env} (hE:EnvOk P E) {ρ:Ren} {γ:Nat->Option Bool} {base:Nat} {ops:Array Oper} {i:Nat} {tm:List AV} {a:Act} (hev:EvOk ρ (look tm) a.eval) {F:Fr} {w:World} {h:AH} (hw:RW F ρ h w) {u:AH}
 (hu:∀ p ∈ u,ρ p.1=none) {e:Eff} (he:eff P E γ base ops i tm (u ++ h)=some e):eff P E γ base ops i tm h=some e:=by
 unfold eff at he ⊢
 split at he
 . cases he
 . split at he
   . cases he
   . exact he
   . split at he
     . cases he
     split at he
     . cases he
     . rename_i hop
       rw [effT_to (fun x k=>effOp_weaken hE hev hw hu k) hop]
       exact he
theorem eff_mono {P:Program} {E:Env} (hE:EnvOk P E) {γ:Nat->Option Bool} {base:Nat} {ops:Array Oper} {i:Nat} {tm:List AV} {h h':AH}
 (hh:∀ id B,h.get id=some B->h'.get id=some B) {e:Eff} (he:eff P E γ base ops i tm h=some e):eff P E γ base ops i tm h'=some e:=by
 unfold eff at he ⊢
 split at he
 . cases he
 . split at he
   . cases he
   . exact he
   . split at he
     . cases he
     split at he
     . cases he
     . rename_i hop
       rw [effT_to (fun x k=>effOp_mono hE hh k) hop]
       exact he
theorem AH.get_comm {u v h:AH} (hd:∀ p ∈ u,∀ q ∈ v,p.1 ≠ q.1) (id:Nat):AH.get (v ++ (u ++ h)) id=AH.get (u ++ (v ++ h)) id:=by
 rw [AH.get_append v,AH.get_append u,AH.get_append u,AH.get_append v]
 by_cases hu:∃ p ∈ u,p.1=id
 . by_cases hv:∃ q ∈ v,q.1=id
   . obtain ⟨p,hp,hpi⟩:=hu
     obtain ⟨q,hq,hqi⟩:=hv
     exact absurd (hpi.trans hqi.symm) (hd p hp q hq)
   . simp [hu,hv]
 . simp [hu]
theorem swap {P:Program} {E:Env} (hE:EnvOk P E) {F:Fr} {ds:List Deferred} {ρ:Ren} {γ:Nat->Option Bool} {base:Nat} {ops:Array Oper} {i j:Nat} {x y:Oper} (hi:ops[i]?=some x) (hj:ops[j]?=some y) (hij:i ≠ j)
 (hind:indep E ops x y=true) {s:St} {a:Act} {w:World} (hs:Sim F ds ρ s a w) (ri:freeR ρ (base+E.kk*i) E.kk) (rj:freeR ρ (base+E.kk*j) E.kk) {e f:Eff}
 (he:eff P E γ base ops i s.tm s.h=some e) (hf:eff P E γ base ops j (s.put e).tm (s.put e).h=some f) :
 eff P E γ base ops j s.tm s.h=some f /\ eff P E γ base ops i (s.put f).tm (s.put f).h=some e /\ Eqv ((s.put f).put e) ((s.put e).put f):=by
 simp only [indep,Bool.and_eq_true] at hind
 obtain ⟨hap,hx,hy⟩:=hind
 obtain ⟨p1,p2,p3⟩:=Oper.apart_spec hap
 have hed:=eff_dst hE hi he
 have hfd:=eff_dst hE hj hf
 have fresh:∀ {z:Nat} {B:Blk},s.h.get z=some B->ρ z ≠ none:=by
  intro z B hz
  obtain ⟨b,_,hb,_⟩:=hs.h.blk z B hz
  rw [hb];simp
 have hf1:eff P E γ base ops j s.tm (e.ups ++ s.h)=some f:=by
  rw [<- hf]
  refine (eff_congr hj (fun t ht=>?_)).symm
  exact putA_get fun d hd=>by
   rw [hed] at hd
   rintro rfl
   exact p1 _ hd ht
 have hf2:eff P E γ base ops j s.tm s.h=some f:=by
  cases hwi:isWr E x.op with
  | true =>
   have hwj:isWr E y.op=false:=by cases hh:isWr E y.op <;> simp_all
   have hrj:isRd E y.op=false:=by cases hh:isRd E y.op <;> simp_all
   rw [eff_free hj hwj hrj];exact hf1
  | false =>
   exact eff_weaken hE (look_ok hs.tm) hs.h (fun p hp=>ri _ ((eff_lays hE hi hwi he).2 p hp)) hf1
 have he1:eff P E γ base ops i s.tm (f.ups ++ s.h)=some e:=by
  cases hwj:isWr E y.op with
  | true =>
   have hwi:isWr E x.op=false:=by cases hh:isWr E x.op <;> simp_all
   have hri:isRd E x.op=false:=by cases hh:isRd E x.op <;> simp_all
   rw [eff_free (h':=s.h) hi hwi hri];exact he
  | false =>
   refine eff_mono hE (fun id B hB=>?_) he
   rw [AH.get_append,if_neg]
   . exact hB
   . rintro ⟨p,hp,rfl⟩
     exact fresh hB (rj _ ((eff_lays hE hj hwj hf2).2 p hp))
 refine ⟨hf2,?_,?_⟩
 . rw [<- he1]
   exact eff_congr hi (fun t ht=>putA_get fun d hd=>by
    rw [hfd] at hd
    rintro rfl
    exact p3 _ hd ht)
 . refine ⟨?_,?_,?_⟩
   . exact putA_comm fun d hd=>by
      rw [hfd] at hd
      rw [hed]
      intro hd'
      exact p2 d hd' hd
   . intro id
     show AH.get (e.ups ++ (f.ups ++ s.h)) id=AH.get (f.ups ++ (e.ups ++ s.h)) id
     refine AH.get_comm (fun p hp q hq=>?_) id
     cases hwi:isWr E x.op with
     | true =>
      have hwj:isWr E y.op=false:=by cases hh:isWr E y.op <;> simp_all
      have hpr:=(eff_lays hE hj hwj hf2).2 p hp
      intro hpq
      rcases (eff_writes hE hi hwi he).2 q hq with hq | ⟨B,hB⟩
      . rw [hpq] at hpr;exact hij (inR_inj hq hpr)
      . exact fresh hB (by rw [<- hpq];exact rj _ hpr)
     | false =>
      have hqr:=(eff_lays hE hi hwi he).2 q hq
      intro hpq
      cases hwj:isWr E y.op with
      | true =>
       rcases (eff_writes hE hj hwj hf2).2 p hp with hp | ⟨B,hB⟩
       . rw [hpq] at hp;exact hij (inR_inj hqr hp)
       . exact fresh hB (by rw [hpq];exact ri _ hqr)
      | false =>
       have hpr:=(eff_lays hE hj hwj hf2).2 p hp
       rw [hpq] at hpr;exact hij (inR_inj hqr hpr)
   . show (e.c && (f.c && s.ok))=(f.c && (e.c && s.ok))
     cases s.ok <;> cases f.c <;> cases e.c <;> rfl
def isLS (E:Env) (op:Op):Bool:=match op with
 | .load _ _=>true
 | .store _ _ _=>true
 | op=>(rdArgs E op).isSome || (strArg E op).isSome
def tauDis (E:Env) (i j:Nat):Bool :=
 match E.tau with
 | none=>false
 | some l=>match l.getD i none,l.getD j none with
  | some a,some b=>!Nat.beq a b
  | _,_=>false
def isLd:Op->Bool
 | .load _ _=>true
 | _=>false
def isApp:Op->Bool:=fun o=>(appArg o).isSome
def toldS (E:Env) (i:Nat):Bool:=match E.tau with
 | none=>false
 | some l=>(l.getD i none).isSome
def isLdS (E:Env) (o:Op):Bool:=isLd o || (strArg E o).isSome
def ldAct (E:Env) (i j:Nat) (x y:Op):Bool:=((isLdS E x && isAct E y) && toldS E i) || ((isAct E x && isLdS E y) && toldS E j)
def isMv (E:Env):Op->Bool
 | .convert s d _=>E.dyn && Nat.beq s d
 | _=>false
def isAM (E:Env) (o:Op):Bool:=isApp o || isMv E o
def indepD (E:Env) (ops:Array Oper) (i j:Nat) (x y:Oper):Bool:=indep E ops x y || (x.apart ops y && (isMv E x.op && !isWr E y.op)) || (x.apart ops y && (ldAct E i j x.op y.op || (isLS E x.op && (isLS E y.op && tauDis E i j)) || (((isLd x.op && isAM E y.op) || (isAM E x.op && isLd y.op)) && tauDis E i j)))
theorem tau_ptr {a:Nat} {v:AV} (h:tauEq (some a) v=true):∃ off,v=.ptr a off:=by
 unfold tauEq at h
 split at h
 . rename_i id j off hid
   simp at hid;subst hid
   obtain rfl:=Nat.eq_of_beq_eq_true h
   exact ⟨off,rfl⟩
 . cases h
theorem eff_at {P:Program} {E:Env} {γ:Nat->Option Bool} {base:Nat} {ops:Array Oper} {i:Nat} {o:Oper} {tm:List AV} {h:AH} {e:Eff} {l:List (Option Nat)} {a:Nat} (ho:ops[i]?=some o) (hl:E.tau=some l) (ha:l.getD i none=some a) (hE:EnvOk P E) (hls:isLS E o.op=true)
 (he:eff P E γ base ops i tm h=some e):(∀ h':AH,h.get a=h'.get a->eff P E γ base ops i tm h'=some e) /\ ∀ p ∈ e.ups,p.1=a:=by
 have hget:ops.toList[i]?=some o:=by simpa using ho
 have core:tauOk E i o.op (look tm)=true->(∀ h':AH,h.get a=h'.get a->effOp P E (look tm) h (base+E.kk*i) o.op=effOp P E (look tm) h' (base+E.kk*i) o.op) /\
  ∀ c r ups,effOp P E (look tm) h (base+E.kk*i) o.op=some (c,r,ups)->∀ p ∈ ups,p.1=a:=by
  intro ht
  unfold tauOk at ht
  rw [hl] at ht
  simp only at ht
  cases hop:o.op with
  | load t x =>
   rw [hop] at ht
   simp only [ha] at ht
   obtain ⟨off,hv⟩:=tau_ptr ht
   refine ⟨fun h' hh=>?_,fun c r ups hu=>?_⟩
   . simp only [effOp,hv,getC_congr hh]
   . simp only [effOp,hv] at hu
     split at hu
     . split at hu
       . simp at hu;obtain ⟨-,-,rfl⟩:=hu;simp
       . cases hu
     . cases hu
  | store t x y =>
   rw [hop] at ht
   simp only [ha] at ht
   obtain ⟨off,hv⟩:=tau_ptr ht
   refine ⟨fun h' hh=>?_,fun c r ups hu=>?_⟩
   . simp only [effOp,hv,getC_congr hh]
   . simp only [effOp,hv] at hu
     split at hu
     . split at hu
       . split at hu
         . simp at hu;obtain ⟨-,-,rfl⟩:=hu;simp
         . cases hu
       . cases hu
     . cases hu
  | call c =>
   rw [hop] at hls ht
   have hq:(rdArgs E (.call c)).isSome=true:=by simpa [isLS,strArg] using hls
   obtain ⟨as,has⟩:=Option.isSome_iff_exists.1 hq
   have hap:appArg (.call c)=none:=by
    unfold rdArgs at has
    simp only at has
    split at has
    . rename_i f hc
      unfold appArg
      simp only [hc]
    . cases has
   have hsn:strArg E (.call c)=none:=rfl
   simp only [hap,hsn,has,ha] at ht
   unfold rdArgs at has
   simp only at has
   split at has
   case h_2=>cases has
   rename_i f hc
   split at has
   . cases has
   rename_i hp
   split at has
   case h_2=>cases has
   rename_i g hg
   split at has
   case h_2=>cases has
   rename_i hro
   simp only [Option.some.injEq] at has
   subst has
   have hids:∀ i ∈ idsOf (maps (look tm) c.args.toList),i=a:=by
    unfold tauIds at ht
    intro i hi
    have key:∀ l:List Nat,allEq a l=true->∀ i ∈ l,i=a:=by
     intro l
     induction l with
     | nil=>intro _ i hi;cases hi
     | cons x t ih =>
      intro hh i hi
      simp only [allEq,Bool.and_eq_true] at hh
      rcases List.mem_cons.1 hi with rfl | hi
      . exact Nat.eq_of_beq_eq_true hh.1
      . exact ih hh.2 i hi
    exact key _ ht i hi
   have hcall:∀ h0:AH,effOp P E (look tm) h0 (base+E.kk*i) (.call c)=match g (maps (look tm) c.args.toList) h0 with
    | some (c,r,[])=>some (c,r,[])
    | _=>none:=by
    intro h0
    simp only [effOp,hc,effCall,look,hp,hg,hro]
    generalize g (maps (look tm) c.args.toList) h0=y
    rcases y with _ | ⟨c,r,_ | ⟨p,t⟩⟩ <;> rfl
   refine ⟨fun h' hh=>?_,fun c1 r ups hu=>?_⟩
   . rw [hcall,hcall]
     have hl1:=(hE.heap f g hg).2.loc (maps (look tm) c.args.toList)
     have:g (maps (look tm) c.args.toList) h=g (maps (look tm) c.args.toList) h':=by
      cases e1:g (maps (look tm) c.args.toList) h with
      | some x=>exact (hl1 h h' x (fun i hi B hB=>by rw [hids i hi] at hB ⊢;rw [<- hh];exact hB) e1).symm
      | none =>
       cases e2:g (maps (look tm) c.args.toList) h' with
       | none=>rfl
       | some x=>rw [hl1 h' h x (fun i hi B hB=>by rw [hids i hi] at hB ⊢;rw [hh];exact hB) e2] at e1;cases e1
     rw [this]
   . rw [hcall] at hu
     split at hu
     . simp at hu;obtain ⟨-,-,rfl⟩:=hu;simp
     . cases hu
  | convert s d x =>
   rw [hop] at hls ht
   have hq:(strArg E (.convert s d x)).isSome=true:=by
    simpa [isLS,rdArgs] using hls
   obtain ⟨y,has⟩:=Option.isSome_iff_exists.1 hq
   have hap:appArg (.convert s d x)=none:=rfl
   simp only [hap,has,ha] at ht
   simp only [strArg] at has
   split at has
   case h_2=>cases has
   rename_i hsd
   simp only [Option.some.injEq] at has
   subst has
   have hsd2:inL d E.strT=true /\ Nat.beq s d=false:=by
    cases h1:inL d E.strT <;> cases h2:Nat.beq s d <;> rw [h1,h2] at hsd <;> first | exact ⟨rfl,rfl⟩ | cases hsd
   obtain ⟨hst,hne⟩:=hsd2
   have hsl:isSl (look tm x)=true /\ ∀ j,named (look tm x) j->j=a:=by
    unfold tauSl at ht
    split at ht
    . rename_i h0;cases h0
    . rename_i m i o n c h0 h1
      simp only [Option.some.injEq] at h0
      subst h0
      rw [h1]
      exact ⟨rfl,fun j hj=>hj.symm.trans (Nat.eq_of_beq_eq_true ht)⟩
    . rename_i m i o n c h0 h1
      simp only [Option.some.injEq] at h0
      subst h0
      rw [h1]
      exact ⟨rfl,fun j hj=>hj.symm.trans (Nat.eq_of_beq_eq_true ht)⟩
    . cases ht
   obtain ⟨hsl,hnm⟩:=hsl
   have key:∀ h0:AH,effOp P E (look tm) h0 (base+E.kk*i) (.convert s d x)=match effStr P h0 s d (look tm x) with
    | some r=>some (true,r,[])
    | none=>none:=by
    intro h0
    have hmk:isMark E s d (look tm x)=false:=by
     unfold isMark
     rw [hne,Bool.and_false,Bool.false_and]
    simp only [effOp,hmk,hst,hsl,Bool.and_self]
    rfl
   have nm:∀ (h1 h2:AH),h1.get a=h2.get a->∀ j B,named (look tm x) j->h1.get j=some B->h2.get j=some B:=by
    intro h1 h2 h3 j B hj hB
    rw [hnm j hj] at hB ⊢
    rw [<- h3];exact hB
   refine ⟨fun h' hh=>?_,fun c1 r ups hu=>?_⟩
   . rw [key,key]
     have:effStr P h s d (look tm x)=effStr P h' s d (look tm x):=by
      cases e1:effStr P h s d (look tm x) with
      | some r=>exact (effStr_cong (nm h h' hh) e1).symm
      | none =>
       cases e2:effStr P h' s d (look tm x) with
       | none=>rfl
       | some r=>rw [effStr_cong (nm h' h hh.symm) e2] at e1;cases e1
     rw [this]
   . rw [key] at hu
     split at hu
     . simp at hu;obtain ⟨-,-,rfl⟩:=hu;simp
     . cases hu
  | _=>rw [hop] at hls;exact absurd hls (by simp [isLS,rdArgs,strArg])
 unfold eff at he ⊢
 rw [hget] at he ⊢
 simp only at he ⊢
 cases hw:wantedA ops tm o with
 | none=>rw [hw] at he;cases he
 | some b =>
  cases b with
  | false =>
   rw [hw] at he
   simp only at he ⊢
   simp at he;subst he
   exact ⟨fun _ _=>rfl,by simp⟩
  | true =>
   rw [hw] at he
   simp only at he ⊢
   cases ht:tauOk E i o.op (look tm) with
   | false=>rw [ht] at he;cases he
   | true =>
    rw [ht] at he
    simp only at he ⊢
    obtain ⟨c1,c2⟩:=core ht
    refine ⟨fun h' hh=>by rw [<- effT_of (c1 h' hh)];exact he,?_⟩
    split at he
    . cases he
    . rename_i hop
      have:=c2 _ _ _ (effT_spec hop).1
      split at he
      . simp at he;subst he;exact this
      . split at he
        . simp at he;subst he;exact this
        . simp at he;subst he;exact this
        . cases he
theorem get_past {a b:Nat} {u h:AH} (hu:∀ p ∈ u,p.1=a) (hab:a ≠ b):AH.get (u ++ h) b=AH.get h b:=by
 rw [AH.get_append,if_neg]
 rintro ⟨p,hp,hpb⟩
 exact hab ((hu p hp).symm.trans hpb)
theorem swapD {P:Program} {E:Env} (hE:EnvOk P E) {γ:Nat->Option Bool} {base:Nat} {ops:Array Oper} {i j:Nat} {x y:Oper} (hi:ops[i]?=some x) (hj:ops[j]?=some y)
 (hap:x.apart ops y=true) (hx:isLS E x.op=true) (hy:isLS E y.op=true) (hd:tauDis E i j=true) {s:St} {e f:Eff}
 (he:eff P E γ base ops i s.tm s.h=some e) (hf:eff P E γ base ops j (s.put e).tm (s.put e).h=some f) :
 eff P E γ base ops j s.tm s.h=some f /\ eff P E γ base ops i (s.put f).tm (s.put f).h=some e /\ Eqv ((s.put f).put e) ((s.put e).put f):=by
 obtain ⟨p1,p2,p3⟩:=Oper.apart_spec hap
 unfold tauDis at hd
 split at hd
 . cases hd
 . rename_i l hl
   split at hd
   . rename_i a b ha hb
     have hab:a ≠ b:=by
      rintro rfl
      rw [Nat.beq_refl] at hd;cases hd
     have hed:=eff_dst hE hi he
     have hfd:=eff_dst hE hj hf
     have hf1:eff P E γ base ops j s.tm (e.ups ++ s.h)=some f:=by
      rw [<- hf]
      refine (eff_congr hj (fun t ht=>?_)).symm
      exact putA_get fun d hd=>by
       rw [hed] at hd
       rintro rfl
       exact p1 _ hd ht
     have ue:=(eff_at hi hl ha hE hx he).2
     obtain ⟨f1,uf⟩:=eff_at hj hl hb hE hy hf1
     have hf2:=f1 s.h (get_past ue hab)
     have he1:=(eff_at hi hl ha hE hx he).1 (f.ups ++ s.h) (get_past uf (fun h=>hab h.symm)).symm
     refine ⟨hf2,?_,?_⟩
     . rw [<- he1]
       exact eff_congr hi (fun t ht=>putA_get fun d hd=>by
        rw [hfd] at hd
        rintro rfl
        exact p3 _ hd ht)
     . refine ⟨?_,?_,?_⟩
       . exact putA_comm fun d hd=>by
          rw [hfd] at hd
          rw [hed]
          intro hd'
          exact p2 d hd' hd
       . intro id
         show AH.get (e.ups ++ (f.ups ++ s.h)) id=AH.get (f.ups ++ (e.ups ++ s.h)) id
         refine AH.get_comm (fun p hp q hq=>?_) id
         rw [uf p hp,ue q hq]
         exact fun h=>hab h.symm
       . show (e.c && (f.c && s.ok))=(f.c && (e.c && s.ok))
         cases s.ok <;> cases f.c <;> cases e.c <;> rfl
   . cases hd
theorem app_ups {P:Program} {E:Env} {γ:Nat->Option Bool} {base:Nat} {ops:Array Oper} {i:Nat} {o:Oper} {tm:List AV} {h:AH} {e:Eff} {l:List (Option Nat)} {b:Nat} (ho:ops[i]?=some o) (hl:E.tau=some l) (hb:l.getD i none=some b) (ha:isApp o.op=true)
 (he:eff P E γ base ops i tm h=some e):∀ p ∈ e.ups,p.1=base+E.kk*i \/ p.1=b:=by
 have hget:ops.toList[i]?=some o:=by simpa using ho
 have core:tauOk E i o.op (look tm)=true->∀ c r ups,effOp P E (look tm) h (base+E.kk*i) o.op=some (c,r,ups)->∀ p ∈ ups,p.1=base+E.kk*i \/ p.1=b:=by
  intro ht c r ups hu
  unfold isApp at ha
  obtain ⟨s,hs⟩:=Option.isSome_iff_exists.1 ha
  cases hop:o.op with
  | call q =>
   rw [hop] at hs ht hu
   unfold tauOk at ht
   rw [hl] at ht
   simp only [hs,hb] at ht
   have hs':=hs
   unfold appArg at hs
   simp only at hs
   split at hs
   . rename_i hc
     split at hs
     . rename_i x t hx
       simp only [Option.some.injEq] at hs
       subst hs
       have hown:(∃ es k n,look tm x=.own b es k n) \/ (look tm x=.v (.slice none 0 0) \/ ∃ i off n cap,look tm x=.slc i off n cap):=by
        unfold tauOwn at ht
        split at ht
        . rename_i h0;cases h0
        . rename_i id j es k n h0 h1
          simp only [Option.some.injEq] at h0
          subst h0
          have:=Nat.eq_of_beq_eq_true ht
          subst this
          exact .inl ⟨es,k,n,h1⟩
        . rename_i h1;exact .inr (.inl h1)
        . rename_i h1;exact .inr (.inr ⟨_,_,_,_,h1⟩)
        . cases ht
       simp only [effOp,hc] at hu
       rcases effAppendF_cases hu with hu | ⟨r',-,hu⟩
       case inr =>
        simp only [Prod.mk.injEq] at hu
        obtain ⟨-,-,rfl⟩:=hu
        intro p hp;cases hp
       unfold effAppend at hu
       split at hu
       case h_2=>cases hu
       rename_i s2 x2 t1 t2 hx2 _
       obtain ⟨rfl,-⟩:s2=x /\ [x2]=t:=by
        have:=hx2.symm.trans hx
        simp at this
        exact ⟨this.1,this.2⟩
       split at hu
       . unfold effAppendO at hu
         split at hu
         . obtain ⟨i,es,k,n,h1,B,b',h2,rfl⟩:=effAppendT_own hu
           rcases hown with ⟨es',k',n',hown⟩ | hown
           . rw [hown] at h1
             cases h1
             intro p hp
             simp at hp
             rcases hp with rfl | rfl
             . exact .inl rfl
             . exact .inr rfl
           . rcases hown with hown | ⟨_,_,_,_,hown⟩
             . rw [hown] at h1;cases h1
             . rw [hown] at h1;cases h1
         obtain ⟨b',rfl⟩:=effAppendZ_lays hu
         intro p hp;simp at hp;subst hp;exact .inl rfl
       split at hu
       case h_2=>cases hu
       split at hu
       . cases hu
       split at hu
       . cases hu
       split at hu
       . cases hu
       obtain ⟨-,hu⟩:=cond_some hu
       rcases hown with ⟨es,k,n,hown⟩ | hown | ⟨i',off,n,cap,hown⟩
       case inr.inl =>
        rw [hown] at hu
        unfold appendTo at hu
        obtain ⟨-,hu⟩:=cond_some hu
        simp at hu
        obtain ⟨-,-,rfl⟩:=hu
        intro p hp;simp at hp;subst hp;exact .inl rfl
       case inr.inr =>
        rw [hown] at hu
        simp only [appendTo] at hu
        split at hu
        . cases hu
        split at hu
        . cases hu
        obtain ⟨-,hu⟩:=cond_some hu
        simp at hu
        obtain ⟨-,-,rfl⟩:=hu
        intro p hp;simp at hp;subst hp;exact .inl rfl
       rw [hown] at hu
       unfold appendTo at hu
       split at hu
       . rename_i h0;cases h0
       . rename_i i' es' n' h0
         cases h0
         split at hu
         . cases hu
         split at hu
         . cases hu
         obtain ⟨-,hu⟩:=cond_some hu
         simp at hu
         obtain ⟨-,-,rfl⟩:=hu
         intro p hp;simp at hp
         rcases hp with rfl | rfl
         . exact .inl rfl
         . exact .inr rfl
       . rename_i h0;cases h0
       . cases hu
     . cases hs
   . cases hs
  | _=>rw [hop] at hs;simp [appArg] at hs
 unfold eff at he
 rw [hget] at he
 simp only at he
 split at he
 . cases he
 . simp at he;subst he;simp
 . split at he
   . cases he
   rename_i ht
   split at he
   . cases he
   rename_i hop
   have:=core ht _ _ _ (effT_spec hop).1
   split at he
   . simp at he;subst he;exact this
   . split at he
     . simp at he;subst he;exact this
     . simp at he;subst he;exact this
     . cases he
theorem mv_ups {P:Program} {E:Env} {γ:Nat->Option Bool} {base:Nat} {ops:Array Oper} {i:Nat} {o:Oper} {tm:List AV} {h:AH} {e:Eff} {l:List (Option Nat)} {b:Nat} (ho:ops[i]?=some o) (hl:E.tau=some l) (hb:l.getD i none=some b) (ha:isMv E o.op=true)
 (he:eff P E γ base ops i tm h=some e):∀ p ∈ e.ups,p.1=base+E.kk*i \/ p.1=b:=by
 have hget:ops.toList[i]?=some o:=by simpa using ho
 have core:tauOk E i o.op (look tm)=true->∀ c r ups,effOp P E (look tm) h (base+E.kk*i) o.op=some (c,r,ups)->∀ p ∈ ups,p.1=base+E.kk*i \/ p.1=b:=by
  intro ht c r ups hu
  cases hop:o.op with
  | convert s d x =>
   rw [hop] at hu ha ht
   have hsd:(E.dyn && Nat.beq s d)=true:=ha
   have hsd2:Nat.beq s d=true:=(Bool.and_eq_true _ _ ▸ hsd).2
   have hs0:strArg E (.convert s d x)=none:=by
    show (match inL d E.strT && !Nat.beq s d with | true=>some x | false=>none)=none
    rw [hsd2,Bool.not_true,Bool.and_false]
   have hm0:mvArg E (.convert s d x)=some x:=by
    show (match E.dyn && Nat.beq s d with | true=>some x | false=>none)=some x
    rw [hsd]
   unfold tauOk at ht
   rw [hl] at ht
   simp only [appArg,hs0,rdArgs,hm0,hb] at ht
   simp only [effOp] at hu
   split at hu
   . unfold effMark at hu
     split at hu
     case h_2=>cases hu
     split at hu
     case h_2=>cases hu
     split at hu
     case h_2=>cases hu
     rename_i k hk
     split at hu
     case h_2=>cases hu
     rename_i B hB
     split at hu
     case h_2=>cases hu
     simp only [Option.some.injEq,Prod.mk.injEq] at hu
     obtain ⟨-,-,rfl⟩:=hu
     have hkb:k=b:=by
      generalize look tm x=a at ht hk
      unfold slName at hk
      split at hk
      . simp only [Option.some.injEq] at hk;subst hk;exact Nat.eq_of_beq_eq_true ht
      . simp only [Option.some.injEq] at hk;subst hk;exact Nat.eq_of_beq_eq_true ht
      . cases hk
     intro p hp
     simp at hp
     rcases hp with rfl | rfl
     . exact .inl rfl
     . exact .inr hkb
   . split at hu
     . split at hu <;> simp at hu
       obtain ⟨-,-,rfl⟩:=hu
       simp
     . split at hu
       . rename_i q hq
         simp only [Option.some.injEq] at hu
         subst hu
         unfold effBytes at hq
         split at hq
         . split at hq
           . obtain ⟨-,hq⟩:=cond_some hq
             simp at hq
             obtain ⟨-,-,rfl⟩:=hq
             intro p hp
             simp at hp;subst hp;exact .inl rfl
           . cases hq
         . cases hq
       . split at hu <;> simp at hu
         obtain ⟨-,-,rfl⟩:=hu
         simp
  | _=>rw [hop] at ha;cases ha
 unfold eff at he
 rw [hget] at he
 simp only at he
 split at he
 . cases he
 . simp at he;subst he;simp
 . split at he
   . cases he
   rename_i ht
   split at he
   . cases he
   rename_i hop
   have:=core ht _ _ _ (effT_spec hop).1
   split at he
   . simp at he;subst he;exact this
   . split at he
     . simp at he;subst he;exact this
     . simp at he;subst he;exact this
     . cases he
theorem am_ups {P:Program} {E:Env} {γ:Nat->Option Bool} {base:Nat} {ops:Array Oper} {i:Nat} {o:Oper} {tm:List AV} {h:AH} {e:Eff} {l:List (Option Nat)} {b:Nat} (ho:ops[i]?=some o) (hl:E.tau=some l) (hb:l.getD i none=some b) (ha:isAM E o.op=true)
 (he:eff P E γ base ops i tm h=some e):∀ p ∈ e.ups,p.1=base+E.kk*i \/ p.1=b:=by
 unfold isAM at ha
 cases h1:isApp o.op with
 | true=>exact app_ups ho hl hb h1 he
 | false=>rw [h1,Bool.false_or] at ha;exact mv_ups ho hl hb ha he
theorem ld_facts {P:Program} {E:Env} {γ:Nat->Option Bool} {base:Nat} {ops:Array Oper} {i:Nat} {o:Oper} {tm:List AV} {h:AH} {e:Eff} {l:List (Option Nat)} {a:Nat} (ho:ops[i]?=some o) (hl:E.tau=some l) (ha:l.getD i none=some a) (hld:isLd o.op=true)
 (he:eff P E γ base ops i tm h=some e):e.ups=[] /\ ((∀ h',eff P E γ base ops i tm h'=some e) \/ ∃ x off,look tm x=.ptr a off):=by
 have hget:ops.toList[i]?=some o:=by simpa using ho
 unfold eff at he ⊢
 rw [hget] at he ⊢
 simp only at he ⊢
 cases hw:wantedA ops tm o with
 | none=>rw [hw] at he;cases he
 | some b =>
  cases b with
  | false =>
   rw [hw] at he
   simp only at he ⊢
   simp at he;subst he
   exact ⟨rfl,.inl fun _=>rfl⟩
  | true =>
   rw [hw] at he
   simp only at he
   cases ht:tauOk E i o.op (look tm) with
   | false=>rw [ht] at he;cases he
   | true =>
    rw [ht] at he
    simp only at he
    cases hop:o.op with
    | load t x =>
     rw [hop] at ht he
     unfold tauOk at ht
     rw [hl] at ht
     simp only [ha] at ht
     obtain ⟨off,hv⟩:=tau_ptr ht
     refine ⟨?_,.inr ⟨x,off,hv⟩⟩
     split at he
     . cases he
     rename_i c r ups hu
     have hu:=(effT_spec hu).1
     have hups:ups=[]:=by
      simp only [effOp,hv] at hu
      split at hu
      . split at hu
        . simp at hu;exact hu.2.2
        . cases hu
      . cases hu
     split at he
     . simp at he;subst he;exact hups
     . split at he
       . simp at he;subst he;exact hups
       . simp at he;subst he;exact hups
       . cases he
    | _=>rw [hop] at hld;cases hld
theorem lds_ups {P:Program} {E:Env} {γ:Nat->Option Bool} {base:Nat} {ops:Array Oper} {i:Nat} {o:Oper} {tm:List AV} {h:AH} {e:Eff} {l:List (Option Nat)} {a:Nat} (ho:ops[i]?=some o) (hl:E.tau=some l) (ha:l.getD i none=some a) (hld:isLdS E o.op=true)
 (he:eff P E γ base ops i tm h=some e):e.ups=[]:=by
 unfold isLdS at hld
 cases h0:isLd o.op with
 | true=>exact (ld_facts ho hl ha h0 he).1
 | false =>
  rw [h0,Bool.false_or] at hld
  obtain ⟨y,has⟩:=Option.isSome_iff_exists.1 hld
  have hget:ops.toList[i]?=some o:=by simpa using ho
  unfold eff at he
  rw [hget] at he
  simp only at he
  cases hw:wantedA ops tm o with
  | none=>rw [hw] at he;cases he
  | some b =>
   cases b with
   | false =>
    rw [hw] at he
    simp only at he
    simp at he;subst he
    rfl
   | true =>
    rw [hw] at he
    simp only at he
    cases ht:tauOk E i o.op (look tm) with
    | false=>rw [ht] at he;cases he
    | true =>
     rw [ht] at he
     simp only at he
     cases hop:o.op with
     | convert s d x =>
      rw [hop] at ht he has
      unfold tauOk at ht
      rw [hl] at ht
      have hap:appArg (.convert s d x)=none:=rfl
      simp only [hap,has,ha] at ht
      simp only [strArg] at has
      split at has
      case h_2=>cases has
      rename_i hsd
      simp only [Option.some.injEq] at has
      subst has
      have hsd2:inL d E.strT=true /\ Nat.beq s d=false:=by
       cases h1:inL d E.strT <;> cases h2:Nat.beq s d <;> rw [h1,h2] at hsd <;> first | exact ⟨rfl,rfl⟩ | cases hsd
      obtain ⟨hst,hne⟩:=hsd2
      have hsl:isSl (look tm x)=true:=by
       unfold tauSl at ht
       split at ht
       . rename_i h0;cases h0
       . rename_i h1;rw [h1];rfl
       . rename_i h1;rw [h1];rfl
       . cases ht
      split at he
      . cases he
      rename_i c r ups hu
      have hu:=(effT_spec hu).1
      have hmk:isMark E s d (look tm x)=false:=by
       unfold isMark
       rw [hne,Bool.and_false,Bool.false_and]
      have hups:ups=[]:=by
       simp only [effOp,hmk,hst,hsl,Bool.and_self] at hu
       split at hu
       . simp at hu;exact hu.2.2
       . cases hu
      split at he
      . simp at he;subst he;exact hups
      . split at he
        . simp at he;subst he;exact hups
        . simp at he;subst he;exact hups
        . cases he
     | _=>rw [hop] at has;cases has
theorem swapL {P:Program} {E:Env} (hE:EnvOk P E) {F:Fr} {ds:List Deferred} {ρ:Ren} {γ:Nat->Option Bool} {base:Nat} {ops:Array Oper} {i j:Nat} {x y:Oper} (hi:ops[i]?=some x) (hj:ops[j]?=some y)
 (hap:x.apart ops y=true) (hxy:(isLd x.op=true /\ isAM E y.op=true) \/ (isAM E x.op=true /\ isLd y.op=true)) (hd:tauDis E i j=true) {s:St} {ac:Act} {w:World} (hs:Sim F ds ρ s ac w) (ri:freeR ρ (base+E.kk*i) E.kk) (rj:freeR ρ (base+E.kk*j) E.kk) {e f:Eff}
 (he:eff P E γ base ops i s.tm s.h=some e) (hf:eff P E γ base ops j (s.put e).tm (s.put e).h=some f) :
 eff P E γ base ops j s.tm s.h=some f /\ eff P E γ base ops i (s.put f).tm (s.put f).h=some e /\ Eqv ((s.put f).put e) ((s.put e).put f):=by
 obtain ⟨p1,p2,p3⟩:=Oper.apart_spec hap
 unfold tauDis at hd
 split at hd
 . cases hd
 . rename_i l hl
   split at hd
   . rename_i a b ha hb
     have hab:a ≠ b:=by
      rintro rfl
      rw [Nat.beq_refl] at hd;cases hd
     have hed:=eff_dst hE hi he
     have hfd:=eff_dst hE hj hf
     have hf1:eff P E γ base ops j s.tm (e.ups ++ s.h)=some f:=by
      rw [<- hf]
      refine (eff_congr hj (fun t ht=>?_)).symm
      exact putA_get fun d hd=>by
       rw [hed] at hd
       rintro rfl
       exact p1 _ hd ht
     have back:eff P E γ base ops i s.tm (f.ups ++ s.h)=some e->eff P E γ base ops i (s.put f).tm (s.put f).h=some e:=fun hh=>by
      rw [<- hh]
      exact eff_congr hi (fun t ht=>putA_get fun d hd=>by
       rw [hfd] at hd
       rintro rfl
       exact p3 _ hd ht)
     have named:∀ {z:Nat} {x off},look s.tm x=.ptr z off->ρ z ≠ none:=by
      intro z x off hv hz
      have:=look_ok hs.tm x
      rw [hv] at this
      generalize ac.eval x=v at this
      cases this
      rename_i b' hb'
      rw [hz] at hb';cases hb'
     have comm:putA (putA s.tm f.d f.r) e.d e.r=putA (putA s.tm e.d e.r) f.d f.r:=putA_comm fun d hd=>by
      rw [hfd] at hd
      rw [hed]
      intro hd'
      exact p2 d hd' hd
     have okE:(e.c && (f.c && s.ok))=(f.c && (e.c && s.ok)):=by
      cases s.ok <;> cases f.c <;> cases e.c <;> rfl
     have past:∀ {u:AH} {z n:Nat},(∀ p ∈ u,p.1=n \/ p.1=z)->∀ {q:Nat},q ≠ n->q ≠ z->AH.get (u ++ s.h) q=AH.get s.h q:=by
      intro u z n hu q h1 h2
      rw [AH.get_append,if_neg]
      rintro ⟨p,hp,hpq⟩
      rcases hu p hp with h | h
      . exact h1 (hpq.symm.trans h)
      . exact h2 (hpq.symm.trans h)
     rcases hxy with ⟨hx,hy⟩ | ⟨hx,hy⟩
     . obtain ⟨eu,ek⟩:=ld_facts hi hl ha hx he
       rw [eu,List.nil_append] at hf1
       have fu:=am_ups hj hl hb hy hf1
       refine ⟨hf1,back ?_,comm,fun id=>?_,okE⟩
       . rcases ek with ek | ⟨q,off,hv⟩
         . exact ek _
         . refine (eff_at hi hl ha hE (by cases hop:x.op <;> rw [hop] at hx <;> first | rfl | cases hx) he).1 _ (past fu (fun h=>?_) hab).symm
           exact named hv (h ▸ rj _ (inR_self hE.kk))
       . show AH.get (e.ups ++ (f.ups ++ s.h)) id=AH.get (f.ups ++ (e.ups ++ s.h)) id
         rw [eu];rfl
     . have eu:=am_ups hi hl ha hx he
       obtain ⟨fu,fk⟩:=ld_facts hj hl hb hy hf1
       have hf2:eff P E γ base ops j s.tm s.h=some f:=by
        rcases fk with fk | ⟨q,off,hv⟩
        . exact fk _
        . refine (eff_at hj hl hb hE (by cases hop:y.op <;> rw [hop] at hy <;> first | rfl | cases hy) hf1).1 _ (past eu (fun h=>?_) (fun h=>hab h.symm))
          exact named hv (h ▸ ri _ (inR_self hE.kk))
       refine ⟨hf2,back (by rw [fu];exact he),comm,fun id=>?_,okE⟩
       show AH.get (e.ups ++ (f.ups ++ s.h)) id=AH.get (f.ups ++ (e.ups ++ s.h)) id
       rw [fu];rfl
   . cases hd
theorem notIn_spec {l:List (Option Nat)} {i a:Nat} {k:Nat} (h:notIn l i=true) (hk:l.getD k none=some a):i ≠ a:=by
 induction l generalizing k with
 | nil=>simp at hk
 | cons x t ih =>
  cases x with
  | none =>
   simp only [notIn] at h
   cases k with
   | zero=>simp at hk
   | succ k=>exact ih h (by simpa using hk)
  | some j =>
   simp only [notIn,Bool.and_eq_true,Bool.not_eq_true'] at h
   cases k with
   | zero =>
    simp at hk
    subst hk
    rintro rfl
    rw [Nat.beq_refl] at h
    cases h.1
   | succ k=>exact ih h.2 (by simpa using hk)
theorem upsOut_spec {l:List (Option Nat)} {a k:Nat} (hk:l.getD k none=some a):∀ {u:AH},upsOut l u=true->∀ p ∈ u,p.1 ≠ a
 | [],_,p,hp=>by cases hp
 | q :: t,h,p,hp=>by
  simp only [upsOut,Bool.and_eq_true] at h
  rcases List.mem_cons.1 hp with rfl | hp
  . exact notIn_spec h.1 hk
  . exact upsOut_spec hk h.2 p hp
theorem act_ups {P:Program} {E:Env} {γ:Nat->Option Bool} {base:Nat} {ops:Array Oper} {i:Nat} {o:Oper} {tm:List AV} {h:AH} {e:Eff} {l:List (Option Nat)} (ho:ops[i]?=some o) (hl:E.tau=some l) (hc:isAct E o.op=true)
 (he:eff P E γ base ops i tm h=some e):upsOut l e.ups=true:=by
 have hget:ops.toList[i]?=some o:=by simpa using ho
 unfold eff at he
 rw [hget] at he
 simp only at he
 split at he
 . cases he
 . simp at he;subst he;rfl
 . split at he
   . cases he
   split at he
   . cases he
   rename_i hop
   have h2:=(effT_spec hop).2
   unfold upsOk at h2
   rw [hl] at h2
   simp only [hc] at h2
   split at he
   . simp at he;subst he;exact h2
   . split at he
     . simp at he;subst he;exact h2
     . simp at he;subst he;exact h2
     . cases he
theorem swapC {P:Program} {E:Env} (hE:EnvOk P E) {γ:Nat->Option Bool} {base:Nat} {ops:Array Oper} {i j:Nat} {x y:Oper} (hi:ops[i]?=some x) (hj:ops[j]?=some y)
 (hap:x.apart ops y=true) (hxy:ldAct E i j x.op y.op=true) {s:St} {e f:Eff}
 (he:eff P E γ base ops i s.tm s.h=some e) (hf:eff P E γ base ops j (s.put e).tm (s.put e).h=some f) :
 eff P E γ base ops j s.tm s.h=some f /\ eff P E γ base ops i (s.put f).tm (s.put f).h=some e /\ Eqv ((s.put f).put e) ((s.put e).put f):=by
 obtain ⟨p1,p2,p3⟩:=Oper.apart_spec hap
 have hed:=eff_dst hE hi he
 have hfd:=eff_dst hE hj hf
 have hf1:eff P E γ base ops j s.tm (e.ups ++ s.h)=some f:=by
  rw [<- hf]
  refine (eff_congr hj (fun t ht=>?_)).symm
  exact putA_get fun d hd=>by
   rw [hed] at hd
   rintro rfl
   exact p1 _ hd ht
 have back:eff P E γ base ops i s.tm (f.ups ++ s.h)=some e->eff P E γ base ops i (s.put f).tm (s.put f).h=some e:=fun hh=>by
  rw [<- hh]
  exact eff_congr hi (fun t ht=>putA_get fun d hd=>by
   rw [hfd] at hd
   rintro rfl
   exact p3 _ hd ht)
 have comm:putA (putA s.tm f.d f.r) e.d e.r=putA (putA s.tm e.d e.r) f.d f.r:=putA_comm fun d hd=>by
  rw [hfd] at hd
  rw [hed]
  intro hd'
  exact p2 d hd' hd
 have okE:(e.c && (f.c && s.ok))=(f.c && (e.c && s.ok)):=by
  cases s.ok <;> cases f.c <;> cases e.c <;> rfl
 have past:∀ {u:AH} {a:Nat},(∀ p ∈ u,p.1 ≠ a)->AH.get (u ++ s.h) a=AH.get s.h a:=by
  intro u a hu
  rw [AH.get_append,if_neg]
  rintro ⟨p,hp,hpa⟩
  exact hu p hp hpa
 have told:∀ {k:Nat},toldS E k=true->∃ l a,E.tau=some l /\ l.getD k none=some a:=by
  intro k hk
  unfold toldS at hk
  split at hk
  . cases hk
  . rename_i l hl
    obtain ⟨a,ha⟩:=Option.isSome_iff_exists.1 hk
    exact ⟨l,a,hl,ha⟩
 have isls:∀ {o:Op},isLdS E o=true->isLS E o=true:=by
  intro o ho
  unfold isLdS at ho
  cases o <;> first | rfl | (simp only [isLd,Bool.false_or] at ho;simp only [isLS,ho,Bool.or_true])
 simp only [ldAct,Bool.or_eq_true,Bool.and_eq_true] at hxy
 rcases hxy with ⟨⟨hx,hy⟩,hk⟩ | ⟨⟨hx,hy⟩,hk⟩
 . obtain ⟨l,a,hl,ha⟩:=told hk
   have eu:=lds_ups hi hl ha hx he
   rw [eu,List.nil_append] at hf1
   have fu:=upsOut_spec ha (act_ups hj hl hy hf1)
   refine ⟨hf1,back ((eff_at hi hl ha hE (isls hx) he).1 _ (past fu).symm),comm,fun id=>?_,okE⟩
   show AH.get (e.ups ++ (f.ups ++ s.h)) id=AH.get (f.ups ++ (e.ups ++ s.h)) id
   rw [eu];rfl
 . obtain ⟨l,b,hl,hb⟩:=told hk
   have fu:=lds_ups hj hl hb hy hf1
   have eu:=upsOut_spec hb (act_ups hi hl hx he)
   refine ⟨(eff_at hj hl hb hE (isls hy) hf1).1 _ (past eu),back (by rw [fu];exact he),comm,fun id=>?_,okE⟩
   show AH.get (e.ups ++ (f.ups ++ s.h)) id=AH.get (f.ups ++ (e.ups ++ s.h)) id
   rw [fu];rfl
theorem mv_parts {P:Program} {E:Env} (hE:EnvOk P E) {γ:Nat->Option Bool} {base:Nat} {ops:Array Oper} {i:Nat} {o:Oper} {tm:List AV} {h:AH} {e:Eff} (ho:ops[i]?=some o) (hm:isMv E o.op=true)
 (he:eff P E γ base ops i tm h=some e):∃ u v,e.ups=u ++ v /\ (∀ p ∈ u,inR (base+E.kk*i) E.kk p.1) /\ ∀ p ∈ v,p.2=none:=by
 have hget:ops.toList[i]?=some o:=by simpa using ho
 have core:∀ c r ups,effOp P E (look tm) h (base+E.kk*i) o.op=some (c,r,ups)->∃ u v,ups=u ++ v /\ (∀ p ∈ u,inR (base+E.kk*i) E.kk p.1) /\ ∀ p ∈ v,p.2=none:=by
  intro c r ups hu
  cases hop:o.op with
  | convert s d x =>
   rw [hop] at hu
   simp only [effOp] at hu
   split at hu
   . unfold effMark at hu
     split at hu
     case h_2=>cases hu
     split at hu
     case h_2=>cases hu
     split at hu
     case h_2=>cases hu
     rename_i k hk
     split at hu
     case h_2=>cases hu
     rename_i B hB
     split at hu
     case h_2=>cases hu
     simp only [Option.some.injEq,Prod.mk.injEq] at hu
     obtain ⟨-,-,rfl⟩:=hu
     refine ⟨[(base+E.kk*i,some ⟨false,B.ty,B.cs⟩)],[(k,none)],rfl,fun p hp=>?_,fun p hp=>?_⟩
     . simp at hp;subst hp;exact inR_self hE.kk
     . simp at hp;subst hp;rfl
   . split at hu
     . split at hu <;> simp at hu
       obtain ⟨-,-,rfl⟩:=hu
       exact ⟨[],[],rfl,by simp,by simp⟩
     . split at hu
       . rename_i q hq
         simp only [Option.some.injEq] at hu
         subst hu
         unfold effBytes at hq
         split at hq
         . split at hq
           . obtain ⟨-,hq⟩:=cond_some hq
             simp at hq
             obtain ⟨-,-,rfl⟩:=hq
             refine ⟨_,[],(List.append_nil _).symm,fun p hp=>?_,by simp⟩
             simp at hp;subst hp;exact inR_self hE.kk
           . cases hq
         . cases hq
       . split at hu <;> simp at hu
         obtain ⟨-,-,rfl⟩:=hu
         exact ⟨[],[],rfl,by simp,by simp⟩
  | _=>rw [hop] at hm;cases hm
 unfold eff at he
 rw [hget] at he
 simp only at he
 split at he
 . cases he
 . simp at he;subst he;exact ⟨[],[],rfl,by simp,by simp⟩
 . split at he
   . cases he
   split at he
   . cases he
   rename_i hop
   have h2:=core _ _ _ (effT_spec hop).1
   split at he
   . simp at he;subst he;exact h2
   . split at he
     . simp at he;subst he;exact h2
     . simp at he;subst he;exact h2
     . cases he
theorem swapM {P:Program} {E:Env} (hE:EnvOk P E) {F:Fr} {ds:List Deferred} {ρ:Ren} {γ:Nat->Option Bool} {base:Nat} {ops:Array Oper} {i j:Nat} {x y:Oper} (hi:ops[i]?=some x) (hj:ops[j]?=some y) (hij:i ≠ j)
 (hap:x.apart ops y=true) (hm:isMv E x.op=true) (hwj:isWr E y.op=false) {s:St} {a:Act} {w:World} (hs:Sim F ds ρ s a w) (ri:freeR ρ (base+E.kk*i) E.kk) (rj:freeR ρ (base+E.kk*j) E.kk) {e f:Eff}
 (he:eff P E γ base ops i s.tm s.h=some e) (hf:eff P E γ base ops j (s.put e).tm (s.put e).h=some f) :
 eff P E γ base ops j s.tm s.h=some f /\ eff P E γ base ops i (s.put f).tm (s.put f).h=some e /\ Eqv ((s.put f).put e) ((s.put e).put f):=by
 obtain ⟨p1,p2,p3⟩:=Oper.apart_spec hap
 have hed:=eff_dst hE hi he
 have hfd:=eff_dst hE hj hf
 have hwi:isWr E x.op=true:=by
  cases hx:x.op <;> rw [hx] at hm <;> first | exact hm | cases hm
 have fresh:∀ {z:Nat} {B:Blk},s.h.get z=some B->ρ z ≠ none:=by
  intro z B hz
  obtain ⟨b,_,hb,_⟩:=hs.h.blk z B hz
  rw [hb];simp
 have hf1:eff P E γ base ops j s.tm (e.ups ++ s.h)=some f:=by
  rw [<- hf]
  refine (eff_congr hj (fun t ht=>?_)).symm
  exact putA_get fun d hd=>by
   rw [hed] at hd
   rintro rfl
   exact p1 _ hd ht
 have hf2:eff P E γ base ops j s.tm s.h=some f:=by
  obtain ⟨u,v,huv,hu,hv⟩:=mv_parts hE hi hm he
  have hle:∀ id B,AH.get (v ++ s.h) id=some B->s.h.get id=some B:=by
   intro id B hB
   rw [AH.get_append] at hB
   split at hB
   . have hn:∀ (l:AH),(∀ p ∈ l,p.2=none)->AH.get l id=none:=by
      intro l
      induction l with
      | nil=>intro _;rfl
      | cons q t ih =>
       intro hq
       obtain ⟨k,b⟩:=q
       rw [AH.get_cons]
       split
       . exact hq (k,b) (by simp)
       . exact ih fun p hp=>hq p (by simp [hp])
     rw [hn v hv] at hB;cases hB
   . exact hB
  rw [huv,List.append_assoc] at hf1
  exact eff_mono hE hle (eff_weaken hE (look_ok hs.tm) (hs.h.sub hle) (fun p hp=>ri _ (hu p hp)) hf1)
 have he1:eff P E γ base ops i s.tm (f.ups ++ s.h)=some e:=by
  refine eff_mono hE (fun id B hB=>?_) he
  rw [AH.get_append,if_neg]
  . exact hB
  . rintro ⟨p,hp,rfl⟩
    exact fresh hB (rj _ ((eff_lays hE hj hwj hf2).2 p hp))
 refine ⟨hf2,?_,?_⟩
 . rw [<- he1]
   exact eff_congr hi (fun t ht=>putA_get fun d hd=>by
    rw [hfd] at hd
    rintro rfl
    exact p3 _ hd ht)
 . refine ⟨?_,?_,?_⟩
   . exact putA_comm fun d hd=>by
      rw [hfd] at hd
      rw [hed]
      intro hd'
      exact p2 d hd' hd
   . intro id
     show AH.get (e.ups ++ (f.ups ++ s.h)) id=AH.get (f.ups ++ (e.ups ++ s.h)) id
     refine AH.get_comm (fun p hp q hq=>?_) id
     have hpr:=(eff_lays hE hj hwj hf2).2 p hp
     intro hpq
     rcases (eff_writes hE hi hwi he).2 q hq with hq | ⟨B,hB⟩
     . rw [hpq] at hpr;exact hij (inR_inj hq hpr)
     . exact fresh hB (by rw [<- hpq];exact rj _ hpr)
   . show (e.c && (f.c && s.ok))=(f.c && (e.c && s.ok))
     cases s.ok <;> cases f.c <;> cases e.c <;> rfl
theorem swapB {P:Program} {E:Env} (hE:EnvOk P E) {F:Fr} {ds:List Deferred} {ρ:Ren} {γ:Nat->Option Bool} {base:Nat} {ops:Array Oper} {i j:Nat} {x y:Oper} (hi:ops[i]?=some x) (hj:ops[j]?=some y) (hij:i ≠ j)
 (hind:indepD E ops i j x y=true) {s:St} {a:Act} {w:World} (hs:Sim F ds ρ s a w) (ri:freeR ρ (base+E.kk*i) E.kk) (rj:freeR ρ (base+E.kk*j) E.kk) {e f:Eff}
 (he:eff P E γ base ops i s.tm s.h=some e) (hf:eff P E γ base ops j (s.put e).tm (s.put e).h=some f) :
 eff P E γ base ops j s.tm s.h=some f /\ eff P E γ base ops i (s.put f).tm (s.put f).h=some e /\ Eqv ((s.put f).put e) ((s.put e).put f):=by
 simp only [indepD,Bool.or_eq_true,Bool.and_eq_true] at hind
 rcases hind with (h | ⟨h1,h2,h3⟩) | ⟨h1,(h0 | ⟨h2,h3,h4⟩) | ⟨h2,h4⟩⟩
 . exact swap hE hi hj hij h hs ri rj he hf
 . exact swapM hE hi hj hij h1 h2 (by simpa using h3) hs ri rj he hf
 . exact swapC hE hi hj h1 h0 he hf
 . exact swapD hE hi hj h1 h2 h3 h4 he hf
 . exact swapL hE hi hj h1 h2 h4 hs ri rj he hf
theorem step_exists {P:Program} {E:Env} (hE:EnvOk P E) {F:Fr} {ds:List Deferred} {ρ:Ren} {γ:Nat->Option Bool} {base:Nat} {ops:Array Oper} {i:Nat} {s:St} {e:Eff} {a:Act} {w:World}
 (he:eff P E γ base ops i s.tm s.h=some e) (hc:e.c=true) (hs:Sim F ds ρ s a w) (hid:freeR ρ (base+E.kk*i) E.kk) :
 ∃ a' w' ρ',ρ.le ρ' /\ (∀ j,¬ inR (base+E.kk*i) E.kk j->ρ' j=ρ j) /\ Sim F ds ρ' (s.put e) a' w':=by
 have h:=step_sim hE he hc hs hid (K:=fun a' w'=>∃ ρ',ρ.le ρ' /\ (∀ j,¬ inR (base+E.kk*i) E.kk j->ρ' j=ρ j) /\ Sim F ds ρ' (s.put e) a' w') (Q:=fun _ _ _=>False)
  (fun a' w' ρ' h1 h2 h3=>⟨ρ',h1,h2,h3⟩)
 have conv:∀ {o:Oper} {K:Act->World->Prop},o.wp P a w K (fun _ _ _=>False)->∃ a' w',K a' w':=by
  intro o K hh
  unfold Oper.wp at hh
  generalize (execOp a.eval o).run P w=r at hh
  cases r with
  | ok n w' =>
   cases n <;> simp only [Oper.upon] at hh
   . exact ⟨_,_,hh⟩
   . exact ⟨_,_,hh⟩
   . obtain ⟨ee,w'',fr,h1,_⟩:=hh []
     cases ee with
     | returned v=>exact ⟨_,_,h1⟩
     | panicked ch=>exact h1.elim
     | outgrown=>obtain ⟨_,_,hf⟩:=h1;exact hf.elim
   . exact ⟨_,_,hh⟩
   . obtain ⟨v,w'',h1,_⟩:=hh default []
     exact ⟨_,_,h1⟩
  | halt x w'=>cases x <;> simp only [Oper.upon] at hh
 unfold wpOp at h
 split at h
 . obtain ⟨ρ',h1,h2,h3⟩:=h;exact ⟨_,_,ρ',h1,h2,h3⟩
 . split at h
   . rcases h with h | ⟨_,a',w',hf⟩
     . obtain ⟨a',w',ρ',h1,h2,h3⟩:=conv h;exact ⟨a',w',ρ',h1,h2,h3⟩
     . exact hf.elim
   . obtain ⟨ρ',h1,h2,h3⟩:=h;exact ⟨_,_,ρ',h1,h2,h3⟩
theorem move_front {P:Program} {E:Env} (hE:EnvOk P E) {F:Fr} {ds:List Deferred} {γ:Nat->Option Bool} {base:Nat} {ops:Array Oper} {i:Nat} {y:Oper} (hi:ops[i]?=some y) {B:List Nat} :
 ∀ {A:List Nat} {s s':St} {ρ:Ren} {a:Act} {w:World},(∀ j ∈ A,j ≠ i /\ ∃ x,ops[j]?=some x /\ indepD E ops j i x y=true)->A.Nodup->runL P E γ base ops (A ++ i :: B) s=some s'->s'.ok=true ->
  Sim F ds ρ s a w->(∀ j ∈ A,freeR ρ (base+E.kk*j) E.kk)->freeR ρ (base+E.kk*i) E.kk->∃ s1,runL P E γ base ops (i :: (A ++ B)) s=some s1 /\ Eqv s' s1:=by
 intro A
 induction A with
 | nil=>intro s s' ρ a w _ _ h _ _ _ _;exact ⟨s',h,Eqv.refl _⟩
 | cons j A ih =>
  intro s s' ρ a w hA hnd h hok hs hr hri
  simp only [List.cons_append,runL] at h
  split at h
  . cases h
  . rename_i e he
    have hok1:=runL_ok h hok
    have hec:e.c=true:=by simp [St.put] at hok1;exact hok1.1
    obtain ⟨a1,w1,ρ1,hle,hne,hs1⟩:=step_exists hE he hec hs (hr j (by simp))
    have hji:=(hA j (by simp)).1
    obtain ⟨s1,h1,hq1⟩:=ih (fun k hk=>hA k (by simp [hk])) (List.nodup_cons.1 hnd).2 h hok hs1
     (fun k hk id hin=>by
      rw [hne]
      . exact hr k (by simp [hk]) id hin
      . intro hh
        have:k=j:=inR_inj hin hh
        subst this
        exact (List.nodup_cons.1 hnd).1 hk)
     (fun id hin=>by
      rw [hne]
      . exact hri id hin
      . intro hh;exact hji (inR_inj hh hin))
    simp only [runL] at h1
    split at h1
    . cases h1
    . rename_i f hf
      obtain ⟨x,hx,hind⟩:=(hA j (by simp)).2
      obtain ⟨g1,g2,g3⟩:=swapB hE hx hi hji hind hs (hr j (by simp)) hri he hf
      obtain ⟨s2,h2,hq2⟩:=runL_eqv hE g3.symm h1
      refine ⟨s2,?_,hq1.trans hq2⟩
      simp only [runL,g1,List.cons_append,g2]
      exact h2
def preds (after:List Edge) (acc:List Nat):Nat :=
 match after with
 | []=>0
 | e :: t=>bif Region.binds .any e then (2 ^ e.on ||| acc.getD e.on 0) ||| preds t acc else preds t acc
def closure:List Oper->List Nat->List Nat
 | [],acc=>acc
 | o :: t,acc=>closure t (acc ++ [preds o.after.toList acc])
def chkRow (E:Env) (ops:Array Oper) (y:Oper) (i:Nat) (bits:Nat):List Oper->Nat->Bool
 | [],_=>true
 | x :: t,j=>(indepD E ops j i x y || Nat.testBit bits j) && chkRow E ops y i bits t (j+1)
def chkRows (E:Env) (ops:Array Oper) (l:List Oper) (bits:List Nat):List Oper->Nat->Bool
 | [],_=>true
 | y :: t,i=>chkRow E ops y i (bits.getD i 0) (l.take i) 0 && chkRows E ops l bits t (i+1)
def backOk:List Edge->Nat->Bool
 | [],_=>true
 | e :: t,i=>(!Region.binds .any e || Nat.blt e.on i) && backOk t i
def backs:List Oper->Nat->Bool
 | [],_=>true
 | o :: t,i=>backOk o.after.toList i && backs t (i+1)
def chk (E:Env) (ops:Array Oper):Bool:=backs ops.toList 0 && chkRows E ops ops.toList (closure ops.toList []) ops.toList 0
theorem closure_length:∀ (l:List Oper) (acc:List Nat),(closure l acc).length=acc.length+l.length
 | [],acc=>by simp [closure]
 | o :: t,acc=>by simp [closure,closure_length t];omega
theorem closure_take:∀ (l:List Oper) (acc:List Nat) (k:Nat),k < acc.length->(closure l acc)[k]?=acc[k]?
 | [],acc,k,_=>rfl
 | o :: t,acc,k,h=>by
  simp only [closure]
  rw [closure_take t _ k (by simp;omega),List.getElem?_append_left h]
theorem closure_get:∀ (l:List Oper) (acc:List Nat) (i:Nat) (o:Oper),l[i]?=some o ->
 (closure l acc)[acc.length+i]?=some (preds o.after.toList ((closure l acc).take (acc.length+i)))
 | [],acc,i,o,h=>by simp at h
 | x :: t,acc,0,o,h=>by
  simp at h;subst h
  simp only [closure,Nat.add_zero]
  rw [closure_take t _ acc.length (by simp)]
  have e:(closure t (acc ++ [preds x.after.toList acc])).take acc.length=acc:=by
   apply List.ext_getElem?
   intro k
   rw [List.getElem?_take]
   split
   . rename_i hk
     rw [closure_take t _ k (by simp;omega),List.getElem?_append_left hk]
   . rename_i hk
     rw [List.getElem?_eq_none];omega
  rw [e];simp
 | x :: t,acc,i+1,o,h=>by
  have:=closure_get t (acc ++ [preds x.after.toList acc]) i o (by simpa using h)
  simp only [closure]
  have e:(acc ++ [preds x.after.toList acc]).length+i=acc.length+(i+1):=by simp;omega
  rw [e] at this
  exact this
theorem preds_bit {l:List Edge} {acc:List Nat} {a:Nat}:Nat.testBit (preds l acc) a=true->∃ e ∈ l,Region.binds .any e=true /\ (e.on=a \/ Nat.testBit (acc.getD e.on 0) a=true):=by
 induction l with
 | nil=>intro h;simp [preds] at h
 | cons e t ih =>
  intro h
  simp only [preds] at h
  cases hb:Region.binds .any e with
  | false =>
   rw [hb] at h;simp only [cond_false] at h
   obtain ⟨f,hf,h1,h2⟩:=ih h
   exact ⟨f,by simp [hf],h1,h2⟩
  | true =>
   rw [hb] at h;simp only [cond_true,Nat.testBit_or,Bool.or_eq_true] at h
   rcases h with (h | h) | h
   . rw [Nat.testBit_two_pow] at h
     exact ⟨e,by simp,hb,.inl (by simpa using h)⟩
   . exact ⟨e,by simp,hb,.inr h⟩
   . obtain ⟨f,hf,h1,h2⟩:=ih h
     exact ⟨f,by simp [hf],h1,h2⟩
def Closed (ops:Array Oper) (listed:Array Bool):Prop :=
 ∀ x o,listed.getD x false=true->ops[x]?=some o->∀ e ∈ o.after,Region.binds .any e=true->listed.getD e.on false=true
theorem closure_sound {ops:Array Oper} {listed:Array Bool} (hc:Closed ops listed):∀ (i:Nat) (o:Oper),ops[i]?=some o ->
 (∀ e ∈ o.after,Region.binds .any e=true->listed.getD e.on false=true)->∀ a,Nat.testBit ((closure ops.toList []).getD i 0) a=true->listed.getD a false=true:=by
 intro i
 induction i using Nat.strongRecOn with
 | _ i ih =>
  intro o ho hpre a hbit
  have hg:=closure_get ops.toList [] i o (by simpa using ho)
  simp only [List.length_nil,Nat.zero_add] at hg
  rw [List.getD,hg] at hbit
  simp only [Option.getD_some] at hbit
  obtain ⟨e,he,h1,h2⟩:=preds_bit hbit
  have he':e ∈ o.after:=by simpa using he
  rcases h2 with h2 | h2
  . rw [<- h2];exact hpre e he' h1
  . have hl:=hpre e he' h1
    rw [List.getD,List.getElem?_take] at h2
    split at h2
    . rename_i hlt
      cases hoe:ops[e.on]? with
      | none =>
       exfalso
       have:(closure ops.toList [])[e.on]?=none:=by
        rw [List.getElem?_eq_none_iff,closure_length]
        simp
        exact Array.getElem?_eq_none_iff.1 hoe
       rw [this] at h2;simp at h2
      | some oe=>exact ih e.on hlt oe hoe (hc e.on oe hl hoe) a h2
    . simp at h2
theorem chkRow_spec {E:Env} {ops:Array Oper} {y:Oper} {i bits:Nat}:∀ {l:List Oper} {k:Nat},chkRow E ops y i bits l k=true->∀ (j:Nat) (x:Oper),l[j]?=some x->indepD E ops (k+j) i x y=true \/ Nat.testBit bits (k+j)=true
 | [],_,_,j,x,h=>by simp at h
 | z :: t,k,hc,0,x,h=>by
  simp at h;subst h
  simp only [chkRow,Bool.and_eq_true,Bool.or_eq_true] at hc
  simpa using hc.1
 | z :: t,k,hc,j+1,x,h=>by
  simp only [chkRow,Bool.and_eq_true] at hc
  have:=chkRow_spec hc.2 j x (by simpa using h)
  rw [show k+(j+1)=k+1+j from by omega]
  exact this
theorem chkRows_spec {E:Env} {ops:Array Oper} {l:List Oper} {bits:List Nat}:∀ {m:List Oper} {k:Nat},chkRows E ops l bits m k=true->∀ (i:Nat) (y:Oper),m[i]?=some y->chkRow E ops y (k+i) (bits.getD (k+i) 0) (l.take (k+i)) 0=true
 | [],_,_,i,y,h=>by simp at h
 | z :: t,k,hc,0,y,h=>by
  simp at h;subst h
  simp only [chkRows,Bool.and_eq_true] at hc
  simpa using hc.1
 | z :: t,k,hc,i+1,y,h=>by
  simp only [chkRows,Bool.and_eq_true] at hc
  have:=chkRows_spec hc.2 i y (by simpa using h)
  rw [show k+(i+1)=k+1+i from by omega]
  exact this
theorem backOk_spec:∀ {l:List Edge} {i:Nat},backOk l i=true->∀ e ∈ l,Region.binds .any e=true->e.on < i
 | [],_,_,e,h,_=>by simp at h
 | f :: t,i,hc,e,h,hb=>by
  simp only [backOk,Bool.and_eq_true,Bool.or_eq_true] at hc
  rcases List.mem_cons.1 h with rfl | h
  . rcases hc.1 with h1 | h1
    . rw [hb] at h1;simp at h1
    . exact Nat.le_of_ble_eq_true h1
  . exact backOk_spec hc.2 e h hb
theorem backs_spec:∀ {l:List Oper} {k:Nat},backs l k=true->∀ (i:Nat) (o:Oper),l[i]?=some o->backOk o.after.toList (k+i)=true
 | [],_,_,i,o,h=>by simp at h
 | z :: t,k,hc,0,o,h=>by
  simp at h;subst h
  simp only [backs,Bool.and_eq_true] at hc
  simpa using hc.1
 | z :: t,k,hc,i+1,o,h=>by
  simp only [backs,Bool.and_eq_true] at hc
  have:=backs_spec hc.2 i o (by simpa using h)
  rw [show k+(i+1)=k+1+i from by omega]
  exact this
def todo (n:Nat) (listed:Array Bool):List Nat:=(List.range n).filter fun i=>!listed.getD i true
theorem todo_sorted (n:Nat) (listed:Array Bool):(todo n listed).Pairwise (· < ·):=List.Pairwise.filter _ List.pairwise_lt_range
theorem todo_mem {n:Nat} {listed:Array Bool} {i:Nat}:i ∈ todo n listed ↔ i < n /\ listed.getD i true=false:=by
 simp [todo]
theorem todo_set {n:Nat} {listed:Array Bool} (hs:listed.size=n) {i:Nat} (hi:i < n) {A B:List Nat} (hL:todo n listed=A ++ i :: B):todo n (listed.setIfInBounds i true)=A ++ B:=by
 have h1:todo n (listed.setIfInBounds i true)=(todo n listed).filter (fun j=>decide (j ≠ i)):=by
  unfold todo
  rw [List.filter_filter]
  apply List.filter_congr
  intro j hj
  have hj:j < n:=by simpa using hj
  by_cases hji:j=i
  . subst hji;simp [hs,hj]
  . have:¬ i=j:=fun h=>hji h.symm
    simp [hs,hj,hji,this]
 have hsorted:=todo_sorted n listed
 rw [hL] at hsorted
 rw [h1,hL,List.filter_append,List.filter_cons]
 have hA:∀ j ∈ A,j < i:=fun j hj=>(List.pairwise_append.1 hsorted).2.2 j hj i (by simp)
 have hB:∀ j ∈ B,i < j:=fun j hj=>(List.pairwise_cons.1 (List.pairwise_append.1 hsorted).2.1).1 j hj
 rw [List.filter_eq_self.2 (fun j hj=>by have:=hA j hj;simp;omega),List.filter_eq_self.2 (fun j hj=>by have:=hB j hj;simp;omega)]
 simp
theorem getD_set_self {l:Array Bool} {i:Nat} (h:i < l.size):(l.setIfInBounds i true).getD i false=true:=by
 rw [Array.getD_eq_getD_getElem?,Array.getElem?_setIfInBounds_self_of_lt h];rfl
theorem getD_set_mono {l:Array Bool} {i x:Nat} (h:l.getD x false=true):(l.setIfInBounds i true).getD x false=true:=by
 by_cases hx:i=x
 . subst hx
   refine getD_set_self ?_
   rw [Array.getD_eq_getD_getElem?] at h
   cases hl:l[i]? with
   | none=>rw [hl] at h;cases h
   | some b=>exact (Array.getElem?_eq_some_iff.1 hl).1
 . rw [Array.getD_eq_getD_getElem?,Array.getElem?_setIfInBounds_ne hx,<- Array.getD_eq_getD_getElem?];exact h
theorem getD_set_inv {l:Array Bool} {i x:Nat} (hx:¬ x=i) (h:(l.setIfInBounds i true).getD x false=true):l.getD x false=true:=by
 have:¬ i=x:=fun e=>hx e.symm
 rw [Array.getD_eq_getD_getElem?,Array.getElem?_setIfInBounds_ne this,<- Array.getD_eq_getD_getElem?] at h;exact h
theorem any_sim {P:Program} {E:Env} (hE:EnvOk P E) {F:Fr} {ds:List Deferred} {γ:Nat->Option Bool} {base:Nat} {ops:Array Oper} (hchk:chk E ops=true) {s':St} (hok:s'.ok=true) {Q:Exit->Act->World->Prop} :
 ∀ (fuel:Nat) (listed:Array Bool) (s:St) (ρ:Ren) (a:Act) (w:World),listed.size=ops.size->(todo ops.size listed).length=fuel->Closed ops listed ->
  ∀ s1,runL P E γ base ops (todo ops.size listed) s=some s1->Eqv s1 s'->Sim F ds ρ s a w->(∀ j ∈ todo ops.size listed,freeR ρ (base+E.kk*j) E.kk) ->
  (∀ a' w' ρ',ρ.le ρ'->(∀ id,(∀ j ∈ todo ops.size listed,¬ inR (base+E.kk*j) E.kk id)->ρ' id=ρ id)->Sim F ds ρ' s' a' w'->Q .normal a' w') ->
  wpAny P .any ops Q fuel listed a w:=by
 simp only [chk,Bool.and_eq_true] at hchk
 obtain ⟨hback,hrows⟩:=hchk
 have back:∀ (i:Nat) (o:Oper),ops[i]?=some o->∀ e ∈ o.after,Region.binds .any e=true->e.on < i:=by
  intro i o ho e he hb
  have:=backs_spec hback i o (by simpa using ho)
  rw [Nat.zero_add] at this
  exact backOk_spec this e (by simpa using he) hb
 have ready_iff:∀ (listed:Array Bool),listed.size=ops.size->∀ i,i ∈ Region.ready .any ops listed ↔ i ∈ todo ops.size listed /\ ∀ o,ops[i]?=some o->∀ e ∈ o.after,Region.binds .any e=true->listed.getD e.on false=true:=by
  intro listed hsz i
  unfold Region.ready
  rw [List.mem_filter,todo_mem]
  constructor
  . rintro ⟨h1,h2⟩
    have h1:i < ops.size:=by simpa using h1
    simp only [Bool.and_eq_true,Bool.not_eq_true'] at h2
    refine ⟨⟨h1,h2.1⟩,fun o ho e he hb=>?_⟩
    have h3:=h2.2
    rw [ho] at h3
    simp only [Option.map_some,Option.getD_some,Array.all_eq_true_iff_forall_mem] at h3
    have:=h3 e he
    simpa [hb] using this
  . rintro ⟨⟨h1,h2⟩,h3⟩
    refine ⟨by simp [h1],?_⟩
    have hg:ops[i]?=some ops[i]:=Array.getElem?_eq_getElem h1
    rw [hg]
    simp only [h2,Option.map_some,Option.getD_some,Bool.not_false,Bool.true_and,Array.all_eq_true_iff_forall_mem]
    intro e he
    cases hb:Region.binds .any e with
    | false=>rfl
    | true=>simpa using h3 _ hg e he hb
 intro fuel
 induction fuel with
 | zero =>
  intro listed s ρ a w hsz hlen hcl s1 hrun heq hs hr hQ
  have hnil:todo ops.size listed=[]:=List.length_eq_zero_iff.1 hlen
  rw [hnil] at hrun
  simp [runL] at hrun
  subst hrun
  refine ⟨?_,hQ a w ρ (Ren.le_refl _) (fun _ _=>rfl) (hs.eqv heq)⟩
  cases hrd:Region.ready .any ops listed with
  | nil=>rfl
  | cons i t =>
   have:=(ready_iff listed hsz i).1 (by rw [hrd];simp)
   rw [hnil] at this
   simp at this
 | succ fuel ih =>
  intro listed s ρ a w hsz hlen hcl s1 hrun heq hs hr hQ
  refine ⟨fun hnil=>?_,fun i hi=>?_⟩
  . exfalso
    cases hL:todo ops.size listed with
    | nil=>rw [hL] at hlen;simp at hlen
    | cons i t =>
     have hmem:i ∈ todo ops.size listed:=by rw [hL];simp
     have hsorted:=todo_sorted ops.size listed
     rw [hL] at hsorted
     have hmin:∀ j ∈ todo ops.size listed,i <= j:=by
      intro j hj
      rw [hL] at hj
      rcases List.mem_cons.1 hj with rfl | hj
      . exact Nat.le_refl _
      . exact Nat.le_of_lt ((List.pairwise_cons.1 hsorted).1 j hj)
     have:i ∈ Region.ready .any ops listed:=by
      rw [ready_iff listed hsz]
      refine ⟨hmem,fun o ho e he hb=>?_⟩
      have hlt:=back i o ho e he hb
      have hin:=(todo_mem.1 hmem).1
      cases hv:listed.getD e.on true with
      | true =>
       have:e.on < listed.size:=by omega
       simp [Array.getD,this] at hv ⊢
       exact hv
      | false =>
       have:=hmin e.on (todo_mem.2 ⟨by omega,hv⟩)
       omega
     rw [hnil] at this
     simp at this
  . obtain ⟨hmem,hpre⟩:=(ready_iff listed hsz i).1 hi
    have hin:=(todo_mem.1 hmem).1
    obtain ⟨A,B,hL⟩:=List.append_of_mem hmem
    have hsorted:=todo_sorted ops.size listed
    rw [hL] at hsorted
    have hA:∀ j ∈ A,j < i:=fun j hj=>(List.pairwise_append.1 hsorted).2.2 j hj i (by simp)
    have hnd:A.Nodup:=((List.pairwise_append.1 hsorted).1).imp (fun h=>Nat.ne_of_lt h)
    have hi':ops[i]?=some ops[i]:=Array.getElem?_eq_getElem hin
    have hs1ok:s1.ok=true:=by rw [heq.ok];exact hok
    obtain ⟨s2,h2,hq2⟩:=move_front hE (i:=i) hi' (A:=A) (B:=B) (s:=s) (s':=s1) (fun j hj=>by
     refine ⟨Nat.ne_of_lt (hA j hj),ops[j]'(by have:=hA j hj;omega),Array.getElem?_eq_getElem _,?_⟩
     have hrow:=chkRows_spec hrows i ops[i] (by simp)
     rw [Nat.zero_add] at hrow
     have hlt:=hA j hj
     rcases chkRow_spec hrow j (ops[j]'(by omega)) (by rw [List.getElem?_take,if_pos hlt];simp) with h | h
     . rw [Nat.zero_add] at h;exact h
     . exfalso
       rw [Nat.zero_add] at h
       have hl:=closure_sound hcl i _ hi' (hpre _ hi') j h
       have hj':=(todo_mem.1 (show j ∈ todo ops.size listed by rw [hL];simp [hj])).2
       have:j < listed.size:=by omega
       simp [Array.getD,this] at hl hj'
       rw [hl] at hj';cases hj') hnd (by rw [<- hL];exact hrun) hs1ok hs (fun j hj=>hr j (by rw [hL];simp [hj])) (hr i hmem)
    simp only [runL] at h2
    split at h2
    . cases h2
    . rename_i e he
      have hs2ok:s2.ok=true:=by rw [<- hq2.ok];exact hs1ok
      have hok1:=runL_ok h2 hs2ok
      have hec:e.c=true:=by simp [St.put] at hok1;exact hok1.1
      have htodo:=todo_set hsz hin hL
      refine step_sim hE he hec hs (hr i hmem) ?_
      intro a' w' ρ' hle hne hs'
      refine ih (listed.setIfInBounds i true) (s.put e) ρ' a' w' (by simpa using hsz) ?_ ?_ s2 (by rw [htodo];exact h2) (hq2.symm.trans heq) hs' ?_ ?_
      . rw [htodo]
        rw [hL] at hlen
        simp at hlen ⊢
        omega
      . intro x o hx ho e' he' hb
        by_cases hxi:x=i
        . subst hxi
          exact getD_set_mono (hpre o ho e' he' hb)
        . exact getD_set_mono (hcl x o (getD_set_inv hxi hx) ho e' he' hb)
      . intro j hj
        rw [htodo] at hj
        have hji:j ≠ i:=by
         rintro rfl
         rcases List.mem_append.1 hj with hj | hj
         . exact absurd (hA j hj) (Nat.lt_irrefl _)
         . exact absurd ((List.pairwise_cons.1 (List.pairwise_append.1 hsorted).2.1).1 j hj) (Nat.lt_irrefl _)
        intro id hin
        rw [hne id (fun hh=>hji (inR_inj hin hh))]
        refine hr j ?_ id hin
        rw [hL]
        rcases List.mem_append.1 hj with hj | hj <;> simp [hj]
      . intro a2 w2 ρ2 hle2 hne2 hs2
        refine hQ a2 w2 ρ2 (Ren.le_trans hle hle2) (fun id hid=>?_) hs2
        rw [hne2 id (fun j hj=>hid j (by
         rw [htodo] at hj
         rw [hL]
         rcases List.mem_append.1 hj with hj | hj <;> simp [hj])),hne id (hid i hmem)]
end Go.Rq
