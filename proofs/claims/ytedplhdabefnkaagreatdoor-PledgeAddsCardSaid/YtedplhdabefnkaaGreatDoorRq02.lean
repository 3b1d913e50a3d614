import Derived.Test.YtedplhdabefnkaaGreatDoorRq01
import Derived.Lib.AppendStr
import Derived.Laws.AppendOwn
import Derived.Laws.BytesString
import Derived.Laws.MakeOwn
import Derived.Lib.ConvBytes
namespace Go.Rq
open Go
theorem wp_value {P:Program} {o:Oper} {a:Act} {w w':World} {v:Value} {K:Act->World->Prop} {Q:Exit->Act->World->Prop}
 (h:(execOp a.eval o).run P w=.ok (.value v) w') (hK:K (a.put o.dst v) w'):o.wp P a w K Q:=by
 unfold Oper.wp
 rw [h]
 exact hK
theorem wp_skip' {P:Program} {o:Oper} {a:Act} {w w':World} {K:Act->World->Prop} {Q:Exit->Act->World->Prop}
 (h:(execOp a.eval o).run P w=.ok .skip w') (hK:K (a.put o.dst undef) w'):o.wp P a w K Q:=by
 unfold Oper.wp
 rw [h]
 exact hK
theorem wp_enter {P:Program} {o:Oper} {a:Act} {w w':World} {f:FuncId} {args:Array Value} {R:Value->World->Prop} {K:Act->World->Prop} {Q:Exit->Act->World->Prop}
 (h:(execOp a.eval o).run P w=.ok (.enter f args) w') (hc:Calls P f args w' (fun e w''=>∃ v,e=.returned v /\ R v w'')) (hK:∀ v w'',R v w''->K (a.put o.dst v) w''):o.wp P a w K Q:=by
 unfold Oper.wp
 rw [h]
 refine Calls.mono hc ?_
 rintro e w'' ⟨v,rfl,hR⟩
 exact hK v w'' hR
theorem RW.below {F:Fr} {ρ:Ren} {h:AH} {w w':World} (r:RW F ρ h w) (hb:RowKit.Below w.heap.size w w'):RW F ρ h w':=by
 refine ⟨fun id B hB=>?_,r.inj,fun b o ho=>?_,hb.os.trans r.os,hb.tape.trans r.tape,hb.output.trans r.out,r.gc⟩
 . obtain ⟨b,o,h1,h2,h3,h4⟩:=r.blk id B hB
   exact ⟨b,o,h1,by rw [hb.block b (Array.getElem?_eq_some_iff.1 h2).1];exact h2,h3,h4⟩
 . have:=r.fr b o ho
   rw [hb.block b (Array.getElem?_eq_some_iff.1 this).1];exact this
theorem resolve_value {P:Program} {va:Operand->Value} {c:Call} {f:Operand} {type:TypeId} {fn:Fn} {xs ys:Array Value} (hc:c.callee=.value f) (hf:va f=.func fn xs ys) (w:World) :
 (resolve va c type).run P w=.ok { target:=.fn fn ys,args:=xs ++ c.args.map va } w:=by
 simp [resolve,hc,hf,Deferred.ofValue]
theorem cut_rvs {ρ:Ren} {bs:Nat} {cs l:List AV} {xs:Array Value} {off n:Nat} (hc:cut cs off n=some l) (hl:bs+cs.length <= xs.size) (hx:∀ (i:Nat) (a:AV) (x:Value),cs[i]?=some a->xs[bs+i]?=some x->Rv ρ a x) :
 l.length=n /\ bs+(off+n) <= xs.size /\ Rvs ρ l ((xs.toList.drop (bs+off)).take n):=by
 obtain ⟨hle,rfl⟩:=cut_some hc
 refine ⟨by simp;omega,by omega,by simp;omega,fun i a x ha hx'=>?_⟩
 rw [List.getElem?_take] at ha hx'
 split at ha
 . rename_i hlt
   rw [if_pos hlt] at hx'
   rw [List.getElem?_drop] at ha hx'
   exact hx _ a x ha (by rw [<- Nat.add_assoc];simpa using hx')
 . cases ha
theorem cells_at {w:World} {b off n:Nat} {xs:Array Value} {ty:TypeId} {fr:Nat × Nat} (hb:w.heap[b]?=some (.cells xs ty fr)) :
 ∀ j u,((xs.toList.drop off).take n)[j]?=some u->w.cell? ((⟨b,off,none⟩:Addr).add j)=some u:=by
 intro j u hu
 rw [List.getElem?_take] at hu
 split at hu
 . rw [List.getElem?_drop] at hu
   rw [Addr.add_none]
   simp [World.cell?,hb]
   simpa using hu
 . cases hu
theorem sliceCells_ok {F:Fr} {ρ:Ren} {h:AH} {w:World} (hw:RW F ρ h w) {size m:Nat} {a:AV} {l:List AV} (hs:sliceCells size h a=some (m,l)) {v:Value} (hv:Rv ρ a v) :
 ∃ ad c news,v=.slice (some ad) m c /\ news.length=m*size /\ Rvs ρ l news /\ ∀ j u,news[j]?=some u->w.cell? (ad.add j)=some u:=by
 unfold sliceCells at hs
 split at hs
 . rename_i i off len cap
   split at hs
   . cases hs
   . rename_i B hB
     split at hs
     . cases hs
     . rename_i l' hl
       simp at hs
       obtain ⟨rfl,rfl⟩:=hs
       obtain ⟨b,o,h1,h2,⟨xs,fr,rfl,h3,h4,h5⟩,h6⟩:=hw.blkC hB
       cases hv with
       | slc hb =>
        rw [h1] at hb;simp at hb;subst hb
        obtain ⟨k1,k2,k3⟩:=cut_rvs hl h4 h5
        exact ⟨_,_,_,rfl,by rw [<- k3.1];exact k1,k3,cells_at h2⟩
 . rename_i i es k len
   split at hs
   . cases hs
   . rename_i he
     have he:=Nat.eq_of_beq_eq_true he
     subst he
     split at hs
     . cases hs
     . rename_i B hB
       split at hs
       . cases hs
       . rename_i l' hl
         simp at hs
         obtain ⟨rfl,rfl⟩:=hs
         obtain ⟨b,o,h1,h2,⟨xs,fr,rfl,h3,h4,h5⟩,h6⟩:=hw.blkC hB
         cases hv with
         | own hb h0 hc hle hm =>
          rw [h1] at hb;simp at hb;subst hb
          rw [h0] at h4 h5
          obtain ⟨k1,k2,k3⟩:=cut_rvs hl h4 h5
          rw [Nat.zero_add] at k3
          exact ⟨_,_,_,rfl,by rw [<- k3.1];exact k1,k3,cells_at h2⟩
         | ownE hb hk =>
          obtain ⟨k1,k2,k3⟩:=cut_rvs hl h4 h5
          rw [Nat.zero_mul] at k1
          have hz:l'=[]:=List.eq_nil_of_length_eq_zero k1
          rw [hz]
          exact ⟨_,_,[],rfl,by simp,.nil,fun j u hu=>by simp at hu⟩
 . cases hs
theorem RW.grew {F:Fr} {ρ:Ren} {h:AH} {w:World} (r:RW F ρ h w) {id:Nat} (hid:ρ id=none) (e:TypeId) {cs:List AV} {xs:List Value} (hx:Rvs ρ cs xs) (zs:Array Value) (n:Nat) (hn:xs.length+zs.size=n) :
 RW F (ρ.upd id w.heap.size n) ((id,some ⟨true,e,cs⟩) :: h) (w.drew.alloc (.cells (xs.toArray ++ zs) e)):=by
 have:=(r.drawn (w.drawn+1)).allocP hid true e cs (xs ++ zs.toList) (by rw [hx.1];simp) (fun i a x ha hx'=>by
  have hlt:i < xs.length:=by rw [<- hx.1];exact (List.getElem?_eq_some_iff.1 ha).1
  rw [List.getElem?_append_left hlt] at hx'
  exact hx.2 i a x ha hx')
 have e1:(xs ++ zs.toList).length=n:=by simp [<- hn]
 rw [e1] at this
 have e2:(xs ++ zs.toList).toArray=xs.toArray ++ zs:=by apply Array.ext';simp
 rw [e2] at this
 exact this
theorem RW.regrow {F:Fr} {ρ:Ren} {h:AH} {w w':World} (r:RW F ρ h w) {i id b:Nat} {B:Blk} (hb:h.get i=some B) (hρ:ρ i=some b) (hwr:B.wr=true) (hid:ρ id=none)
 {xs:Array Value} (hx:w.heap[b]?=some (.cells xs B.ty (0,0))) (cs':List AV) (ys:Array Value)
 (hsz:ys.size=xs.size) (hys:cs'.length <= ys.size) (hrel:∀ (j:Nat) (a:AV) (x:Value),cs'[j]?=some a->ys[j]?=some x->Rv ρ a x)
 (h1:w'.heap[b]?=some (.cells ys B.ty (0,0))) (h2:∀ k,k ≠ b->w'.heap[k]?=w.heap[k]?) (h3:w'.os=w.os) (h4:w'.tape=w.tape) (h5:w'.output=w.output) :
 RW F (ρ.upd id b xs.size) ((id,some ⟨true,B.ty,cs'⟩) :: (i,none) :: h) w':=by
 have hle:=Ren.le_upd (b:=b) (n:=xs.size) hid
 obtain ⟨b0,o0,hb0,ho0,hB0,hF0,hcn⟩:=r.blk i B hb
 rw [hρ] at hb0;simp at hb0;subst hb0
 have old:∀ {j:Nat} {C:Blk},AH.get ((i,none) :: h) j=some C->j ≠ i /\ h.get j=some C:=by
  intro j C hj
  rw [AH.get_cons] at hj
  split at hj
  . cases hj
  . rename_i e;exact ⟨fun e'=>e e'.symm,hj⟩
 refine ⟨fun j C hj=>?_,fun j j' C C' c hj hj' hw hc hc'=>?_,fun k o hk=>?_,h3.trans r.os,h4.trans r.tape,h5.trans r.out,r.gc⟩
 . rw [AH.get_cons] at hj
   split at hj
   . rename_i e;subst e;simp at hj;subst hj
     exact ⟨b,_,Ren.upd_same _ _ _ _,h1,.inl ⟨ys,(0,0),rfl,fun _=>⟨rfl,Ren.upd_base _ _ _ _⟩,by rw [Ren.upd_base,Nat.zero_add];exact hys,fun j a x ha hx'=>(hrel j a x ha (by rw [Ren.upd_base,Nat.zero_add] at hx';exact hx')).mono hle⟩,fun _=>hF0 hwr,by simp [count,Ren.upd_cells,hsz]⟩
   . obtain ⟨hne,hj⟩:=old hj
     obtain ⟨c,o,hc,ho,hC,hk⟩:=r.blk j C hj
     have hcb:c ≠ b:=fun ec=>by subst ec;exact hne (r.inj i j B C c hb hj hwr hρ hc).symm
     exact ⟨c,o,(hle _ _ hc).1,by rw [h2 c hcb];exact ho,hC.mono hle hc,hk.1,hk.2.trans (hle _ _ hc).2.1.symm⟩
 . have key:∀ {k:Nat} {C:Blk},AH.get ((id,some ⟨true,B.ty,cs'⟩) :: (i,none) :: h) k=some C->k ≠ id->ρ.upd id b xs.size k ≠ some b /\ ∃ d,ρ k=some d /\ ρ.upd id b xs.size k=some d /\ h.get k=some C:=by
    intro k C hk hne
    rw [AH.get_cons,if_neg (fun e=>hne e.symm)] at hk
    obtain ⟨hn,hk⟩:=old hk
    obtain ⟨d,o,hd,_⟩:=r.blk k C hk
    refine ⟨?_,d,hd,(hle _ _ hd).1,hk⟩
    rw [(hle _ _ hd).1]
    intro e
    simp at e;subst e
    exact hn (r.inj i k B C d hb hk hwr hρ hd).symm
   by_cases e1:j=id
   . by_cases e2:j'=id
     . rw [e1,e2]
     . subst e1
       rw [Ren.upd_same] at hc;simp at hc;subst hc
       exact absurd hc' (key hj' e2).1
   . by_cases e2:j'=id
     . subst e2
       rw [Ren.upd_same] at hc';simp at hc';subst hc'
       exact absurd hc (key hj e1).1
     . obtain ⟨_,d,g1,g2,g3⟩:=key hj e1
       obtain ⟨_,d',g1',g2',g3'⟩:=key hj' e2
       rw [g2] at hc;rw [g2'] at hc'
       exact r.inj j j' C C' c g3 g3' hw (by rw [g1];exact hc) (by rw [g1'];exact hc')
 . have:=r.fr k o hk
   have hne:k ≠ b:=fun e=>by subst e;rw [hF0 hwr] at hk;cases hk
   rw [h2 k hne];exact this
theorem madeCells_get (z:Array Value) {n k:Nat} (h:k < n):(madeCells z n).toList[k]?=some z[k % z.size]! := by
 unfold madeCells
 rw [Array.toList_map,List.getElem?_map,Array.toList_range,List.getElem?_range h]
 rfl
theorem canons_get:∀ {l:List Value} {k:Nat} {x:Value},l[k]?=some x->(canons l)[k]?=some (Rq.canon x)
 | [],k,x,h=>by simp at h
 | y :: t,0,x,h=>by simp at h;subst h;rfl
 | y :: t,k+1,x,h=>by
  simp only [canons,List.getElem?_cons_succ] at h ⊢
  exact canons_get h
theorem run_append_zeros {P:Program} (w:World) (t tx ty e:TypeId) (k:IntKind) (i:TypeInfo) (z:Value) (ht:P.underlying t=some (.slice e)) (hk:P.underlying tx=some (.int k)) (hi:P.info? e=some i) (hz:i.zero=some z)
 (base:Option Addr) (sLen sCap:Nat) (olds:List Value) (hold:(Builtin.firstCells i.size sLen (.slice base sLen sCap)).run P w.drew=.ok olds.toArray w.drew) (kx:IntKind) (n:Nat) (hpos:n*i.size ≠ 0)
 (hg:sCap < sLen+n) (h63:((sLen+n:Nat):Int) <= 9223372036854775807) (hb:(n:Int)*(i.bytes:Int) <= 281474976710656) (hfit:Builtin.nextslicecap (sLen+n) sCap*i.bytes <= 281474976710656) :
 (Builtin.append_ #[t,tx] ty #[.slice base sLen sCap,.int kx (n:Int)]).run P w =
  .ok (.slice (some ⟨w.heap.size,0,none⟩) (sLen+n) (grownCap w (sLen+n) sCap e))
   (w.drew.alloc (.cells (olds.toArray ++ Builtin.zeroCells z.cells n ++ Builtin.zeroCells z.cells (grownCap w (sLen+n) sCap e - (sLen+n))) e)):=by
 have hn:¬ (sLen+n <= sCap):=by omega
 have h63':¬ (9223372036854775807 < ((sLen:Int)+(n:Int))):=by omega
 have h48':¬ (281474976710656 < Builtin.nextslicecap (sLen+n) sCap*i.bytes):=by omega
 have hw:IntKind.i64.wrap (n:Int)=n:=by rw [IntKind.wrap_i64];omega
 have h0:¬ ((n:Int) < 0):=by omega
 have hb':¬ (281474976710656 < (n:Int)*(i.bytes:Int)):=by omega
 simp [Builtin.append_,run_underlying ht,run_underlying hk,asInt,asIntOf,sizeOf,typeInfo,zeroValue,hi,hz,hw,h0,hb',hn,h63',h48',Question.forced,hold,hpos,newRow,grownCap]
theorem zeros_rvs {ρ:Ren} {z:Value} {n m:Nat} (hz:z.cells.size=n) (hn:0 < n):Rvs ρ (zerosA (canons z.cells.toList) n 0 m) (madeCells z.cells m).toList:=by
 refine ⟨by rw [zerosA_length,Array.length_toList,size_madeCells],fun k a x ha hx=>?_⟩
 obtain ⟨h1,h2⟩:=zerosA_get _ _ _ _ _ _ ha
 have hk:k % n < z.cells.size:=by rw [hz];exact Nat.mod_lt _ hn
 have hx':x=z.cells[k % z.cells.size]! := by
  rw [madeCells_get _ h1] at hx
  exact (Option.some.inj hx).symm
 have hzz:z.cells.toList[k % n]?=some z.cells[k % n]:=by simp [hk]
 rw [hx',h2,Nat.zero_add,hz]
 have hcan:(canons z.cells.toList)[k % n]?=some (Rq.canon z.cells[k % n]):=canons_get hzz
 rw [List.getD_eq_getElem?_getD,hcan]
 simp only [Option.getD_some]
 have:z.cells[k % n]! = z.cells[k % n]:=by simp [hk]
 rw [this]
 exact .canon _
theorem appendZ_sim {P:Program} {F:Fr} {ρ:Ren} {w:World} {h:AH} {id:Nat} {t t' ty:TypeId} {a x r:AV} {ups:AH} {cc:Bool} {u v:Value}
 (he:effAppendZ P h id t t' a x=some (cc,r,ups)) (ha:Rv ρ a u) (hx:Rv ρ x v) (hw:RW F ρ h w) (hid:ρ id=none) :
 ∃ q w' ρ',(Builtin.append_ #[t,t'] ty #[u,v]).run P w=.ok q w' /\ ρ.le ρ' /\ (∀ j,j ≠ id->ρ' j=ρ j) /\ Rv ρ' r q /\ RW F ρ' (ups ++ h) w':=by
 unfold effAppendZ at he
 split at he
 . rename_i e k kx n i0 off len cap hu hk hfx
   split at he
   . rename_i i B hi hB
     split at he
     . rename_i z olds hz ho
       cases hc:(Nat.beq z.cells.size i.size && (Nat.blt 0 i.size && (decide (0 < n) && (Nat.blt cap (len+n.toNat) && (Nat.ble (len+n.toNat) maxLen && Nat.ble ((len+n.toNat)*i.bytes) 140737488355328))))) with
       | false=>rw [hc] at he;cases he
       | true =>
        rw [hc,cond_true] at he
        simp at he
        obtain ⟨-,rfl,rfl⟩:=he
        simp only [Bool.and_eq_true] at hc
        obtain ⟨c1,c2,c3,c4,c5,c6⟩:=hc
        have c1:=Nat.eq_of_beq_eq_true c1
        have c2:0 < i.size:=Nat.le_of_ble_eq_true c2
        have c3:=of_decide_eq_true c3
        have c4:cap < len+n.toNat:=Nat.le_of_ble_eq_true c4
        have c5:=Nat.le_of_ble_eq_true c5
        have c6:=Nat.le_of_ble_eq_true c6
        have hv:=hx.flat_eq hfx
        subst hv
        have hnn:n=((n.toNat:Nat):Int):=by omega
        obtain ⟨b,o,g1,g2,⟨cur,fr,rfl,g3,g4,g5⟩,g6,g7⟩:=hw.blkC hB
        cases ha with
        | slc hb' =>
         rw [g1] at hb';simp at hb';subst hb'
         obtain ⟨k1,k2,k3⟩:=cut_rvs ho g4 g5
         have hol:((cur.toList.drop (ρ.base i0+off)).take (len*i.size)).length=len*i.size:=by rw [<- k3.1];exact k1
         have hold:=run_firstCells_some (P:=P) w.drew i.size len ⟨b,ρ.base i0+off,none⟩ len cap ((cur.toList.drop (ρ.base i0+off)).take (len*i.size)) hol (by simpa using cells_at g2)
         have hbytes:(n.toNat:Int)*(i.bytes:Int) <= 281474976710656:=by
          have h1:n.toNat*i.bytes <= (len+n.toNat)*i.bytes:=Nat.mul_le_mul_right _ (by omega)
          have h2:((n.toNat*i.bytes:Nat):Int) <= 281474976710656:=by omega
          rwa [Int.natCast_mul] at h2
         have hr:=run_append_zeros (P:=P) w t t' ty e k i z hu hk hi hz (some ⟨b,ρ.base i0+off,none⟩) len cap _ hold kx n.toNat (Nat.mul_ne_zero (by omega) (by omega))
          c4 (by simp only [maxLen] at c5;omega) hbytes (growslice_fits c4 c6)
         rw [<- hnn] at hr
         have hge:=grownCap_ge w (len+n.toNat) cap e
         have hcm:=grownCap_le_maxLen w (len+n.toNat) cap e c5
         have hzc:Builtin.zeroCells z.cells n.toNat=madeCells z.cells (n.toNat*i.size):=by
          unfold Builtin.zeroCells madeCells
          rw [c1]
         have hnr:=zeros_rvs (ρ:=ρ) (m:=n.toNat*i.size) c1 c2
         have hcells:((cur.toList.drop (ρ.base i0+off)).take (len*i.size) ++ (madeCells z.cells (n.toNat*i.size)).toList).length+(Builtin.zeroCells z.cells (grownCap w (len+n.toNat) cap e - (len+n.toNat))).size=grownCap w (len+n.toNat) cap e*i.size:=by
          rw [List.length_append,size_zeroCells,c1,hol,Array.length_toList,size_madeCells,<- Nat.add_mul,<- Nat.add_mul]
          congr 1
          omega
         refine ⟨_,_,ρ.upd id w.heap.size (grownCap w (len+n.toNat) cap e*i.size),hr,Ren.le_upd hid,fun j hj=>Ren.upd_ne ρ hj,?_,?_⟩
         . have:=Rv.own (ρ:=ρ.upd id w.heap.size (grownCap w (len+n.toNat) cap e*i.size)) (id:=id) (es:=i.size) (k:=0) (len:=len+n.toNat) (b:=w.heap.size) (cap:=grownCap w (len+n.toNat) cap e)
            (Ren.upd_same _ _ _ _) (Ren.upd_base _ _ _ _) (Ren.upd_cells _ _ _ _).symm (by omega) hcm
           simpa using this
         . have:=hw.grew hid e (k3.append hnr) _ _ hcells
           rw [hzc]
           have e1:(((cur.toList.drop (ρ.base i0+off)).take (len*i.size) ++ (madeCells z.cells (n.toNat*i.size)).toList).toArray ++ Builtin.zeroCells z.cells (grownCap w (len+n.toNat) cap e - (len+n.toNat))) =
            (((cur.toList.drop (ρ.base i0+off)).take (len*i.size)).toArray ++ madeCells z.cells (n.toNat*i.size) ++ Builtin.zeroCells z.cells (grownCap w (len+n.toNat) cap e - (len+n.toNat))):=by
            apply Array.ext';simp
           rw [e1] at this
           exact this
     . cases he
   . cases he
 . cases he
theorem append_same {P:Program} {t t' ty:TypeId} {u v:Value} {w:World} (h:sameT P t t'=true):(Builtin.append_ #[t,t'] ty #[u,v]).run P w=(Builtin.append_ #[t,t] ty #[u,v]).run P w:=by
 unfold sameT at h
 split at h
 . rename_i hb;rw [Nat.eq_of_beq_eq_true hb]
 . split at h
   . rename_i h1 h2
     cases u with
     | slice b n c =>
      have e1:=run_underlying h1
      have e2:=run_underlying h2
      simp only [Builtin.append_,Sem.run_bind,e1,Result.andThen_ok,List.getElem?_toArray,List.getElem?_cons_zero,List.getElem?_cons_succ]
      simp [e2]
     | _=>simp [Builtin.append_,run_underlying h1]
   . cases h
theorem appendNil_sim {P:Program} {ρ:Ren} {ev:Operand->AV} {va:Operand->Value} {w:World} {c:Call} {r:AV} {dyn:Bool} (he:nilSrc P dyn ev c=some r) (hev:EvOk ρ ev va) (ty:TypeId) :
 ∃ v,(Builtin.append_ c.argTypes ty (c.args.map va)).run P w=.ok v w /\ Rv ρ r v:=by
 unfold nilSrc at he
 split at he
 case h_2=>cases he
 rename_i s x t t' ha ht
 have ea:c.args.map va=#[va s,va x]:=by apply Array.ext';simp [ha]
 have et:c.argTypes=#[t,t']:=by apply Array.ext';simp [ht]
 rw [ea,et]
 split at he
 . cases he
 rename_i htt
 rw [append_same htt]
 split at he
 case h_2=>cases he
 rename_i e hu
 split at he
 . cases he
 rename_i i hi
 split at he
 . cases he
 rename_i hx
 have hvx:∃ ad cp,va x=.slice ad 0 cp:=by
  have:=hev x
  unfold isNoS at hx
  split at hx
  . rename_i hq
    rw [hq] at this
    generalize va x=y at this ⊢
    cases this
    exact ⟨_,_,rfl⟩
  . rename_i i0 off n m hq
    rw [hq] at this
    generalize va x=y at this ⊢
    rw [Bool.and_eq_true] at hx
    have:=Nat.eq_of_beq_eq_true hx.2
    subst this
    cases this with
    | slc _=>exact ⟨_,_,rfl⟩
  . rename_i i0 es k n hq
    rw [hq] at this
    generalize va x=y at this ⊢
    rw [Bool.and_eq_true] at hx
    have:=Nat.eq_of_beq_eq_true hx.2
    subst this
    cases this with
    | own _ _ _ _ _=>exact ⟨_,_,rfl⟩
    | ownE _ _=>exact ⟨_,_,rfl⟩
  . cases hx
 obtain ⟨ad,cp,hvx⟩:=hvx
 rw [hvx]
 have hvs:=hev s
 have first:(Builtin.firstCells i.size 0 (.slice ad 0 cp)).run P w=.ok #[] w:=by
  cases ad with
  | none=>exact run_firstCells_none (P:=P) w _ _ _ _
  | some a=>exact run_firstCells_some (P:=P) w _ 0 a 0 cp [] (by simp) (fun j v h=>by simp at h)
 have room:∀ (b:Option Addr) (n cap:Nat),n <= cap->(Builtin.append_ #[t,t] ty #[.slice b n cap,.slice ad 0 cp]).run P w=.ok (.slice b n cap) w:=by
  intro b n cap hle
  cases b with
  | none=>simp [Builtin.append_,run_underlying hu,sizeOf,typeInfo,hi,Builtin.lenOf,hle,first]
  | some a=>simp [Builtin.append_,run_underlying hu,sizeOf,typeInfo,hi,Builtin.lenOf,hle,first,storeCells]
 split at he
 . rename_i j es k n hs
   simp only [Option.some.injEq] at he
   subst he
   rw [hs] at hvs
   generalize va s=q at hvs ⊢
   cases hvs with
   | own h1 h2 h3 h4 h5=>exact ⟨_,room _ _ _ (by omega),.own h1 h2 h3 h4 h5⟩
   | ownE h1 h2=>exact ⟨_,room _ _ _ (Nat.zero_le _),.ownE h1 h2⟩
 . rename_i hs
   simp only [Option.some.injEq] at he
   subst he
   rw [hs] at hvs
   generalize va s=q at hvs ⊢
   cases hvs
   exact ⟨_,room _ _ _ (Nat.le_refl _),.v _⟩
 . rename_i j off n m hs
   cases hb:(dyn && Nat.ble n m) with
   | false=>rw [hb] at he;cases he
   | true =>
    rw [hb,cond_true] at he
    simp only [Option.some.injEq] at he
    subst he
    rw [Bool.and_eq_true] at hb
    rw [hs] at hvs
    generalize va s=q at hvs ⊢
    cases hvs with
    | slc h1=>exact ⟨_,room _ _ _ (Nat.le_of_ble_eq_true hb.2),.slc h1⟩
 . cases he
theorem appendOwn_sim {P:Program} {F:Fr} {ρ:Ren} {w:World} {h:AH} {id i0 es n m size bytes:Nat} {e:TypeId} {z v:Value} {news:List AV} {nv:List Value} {r:AV} {ups:AH} {cc:Bool} {A:Value->Sem Value}
 (he:appendTo h id e size bytes m news (.own i0 es 0 n)=some (cc,r,ups)) (hv:Rv ρ (.own i0 es 0 n) v) (hw:RW F ρ h w) (hid:ρ id=none) (b2:z.cells.size=size) (hnl:nv.length=m*size) (hnr:Rvs ρ news nv)
 (hR:∀ (b cap:Nat) (cur:Array Value),w.heap[b]?=some (.cells cur e (0,0))->n+m <= cap->n*size+nv.length <= cur.size->(A (.slice (some ⟨b,0,none⟩) n cap)).run P w=.ok (.slice (some ⟨b,0,none⟩) (n+m) cap) (w.setRow b (cur.toList.take (n*size) ++ nv ++ cur.toList.drop (n*size+nv.length)).toArray))
 (hG:∀ (b cap:Nat) (olds:List Value),olds.length=n*size->(∀ j v,olds[j]?=some v->w.cell? ((⟨b,0,none⟩:Addr).add j)=some v)->cap < n+m->n+m <= maxLen->(n+m)*bytes <= 140737488355328 ->
  (A (.slice (some ⟨b,0,none⟩) n cap)).run P w=.ok (.slice (some ⟨w.heap.size,0,none⟩) (n+m) (grownCap w (n+m) cap e)) (w.drew.alloc (.cells (olds.toArray ++ nv.toArray ++ Builtin.zeroCells z.cells (grownCap w (n+m) cap e - (n+m))) e))) :
 ∃ u w' ρ',(A v).run P w=.ok u w' /\ ρ.le ρ' /\ (∀ j,j ≠ id->ρ' j=ρ j) /\ Rv ρ' r u /\ RW F ρ' (ups ++ h) w':=by
 simp only [appendTo] at he
 split at he
 . cases he
 rename_i B hB
 split at he
 . cases he
 rename_i olds ho
 cases hc:(Nat.beq es size && (B.wr && (Nat.beq B.ty e && (Nat.ble (n+m) maxLen && Nat.ble ((n+m)*bytes) 140737488355328)))) with
 | false=>rw [hc] at he;cases he
 | true =>
  rw [hc,cond_true] at he
  simp at he
  obtain ⟨-,rfl,rfl⟩:=he
  simp only [Bool.and_eq_true] at hc
  obtain ⟨c0,c1,c2,c3,c4⟩:=hc
  have c0:=Nat.eq_of_beq_eq_true c0
  have c2:=Nat.eq_of_beq_eq_true c2
  have c3:=Nat.le_of_ble_eq_true c3
  have c4:=Nat.le_of_ble_eq_true c4
  have c0:=c0.symm
  subst c0
  subst c2
  have hvs:=hv
  obtain ⟨b,o,g1,g2,⟨cur,fr,rfl,g3,g4,g5⟩,g6,g7⟩:=hw.blkC hB
  have gz:=(g3 c1).2
  rw [(g3 c1).1] at g2
  rw [gz] at g4 g5
  simp only [count] at g7
  cases hvs with
  | ownE _ hk=>exact absurd hk (Nat.lt_irrefl 0)
  | @own _ _ _ _ b' cap hb' hb0 hcc hle hm =>
   rw [g1] at hb';simp at hb';subst hb'
   simp only [Nat.zero_mul,Nat.sub_zero,Nat.zero_add] at hle ⊢
   obtain ⟨k1,k2,k3⟩:=cut_rvs ho g4 g5
   simp only [List.drop_zero,Nat.zero_add] at k2 k3
   have hol:(cur.toList.take (n*size)).length=n*size:=by simp;omega
   by_cases hroom:n+m <= cap
   . have hfit:n*size+nv.length <= cur.size:=by
      rw [hnl,g7,<- hcc,<- Nat.add_mul];exact Nat.mul_le_mul_right _ hroom
     have hr:=hR b cap cur g2 hroom hfit
     refine ⟨_,_,ρ.upd id b cur.size,hr,Ren.le_upd hid,fun j hj=>Ren.upd_ne ρ hj,?_,?_⟩
     . have:=Rv.own (ρ:=ρ.upd id b cur.size) (id:=id) (es:=size) (k:=0) (len:=n+m) (b:=b) (cap:=cap)
        (Ren.upd_same _ _ _ _) (Ren.upd_base _ _ _ _) (by rw [Ren.upd_cells,g7];exact hcc) (by omega) hm
       simpa using this
     . have hlen:(cur.toList.take (n*size) ++ nv ++ cur.toList.drop (n*size+nv.length)).length=cur.size:=by
        simp only [List.length_append,List.length_take,List.length_drop,Array.length_toList];omega
       refine hw.regrow (getC_get hB) g1 c1 hid g2 (olds ++ news) (cur.toList.take (n*size) ++ nv ++ cur.toList.drop (n*size+nv.length)).toArray (by simpa using hlen) ?_ ?_ (setRow_heap w b cur _ B.ty _ g2) (fun k hk=>setRow_other w b k _ hk) rfl rfl rfl
       . have e1:=k3.1
         have e2:=hnr.1
         simp only [List.length_append,List.size_toArray,hlen]
         simp only [List.length_append] at hlen
         omega
       . intro j a x hj hx
         have hrel:=(k3.append hnr)
         have hlt:j < (cur.toList.take (n*size) ++ nv).length:=by rw [<- hrel.1];exact (List.getElem?_eq_some_iff.1 hj).1
         refine hrel.2 j a x hj ?_
         rw [List.getElem?_toArray,List.getElem?_append_left hlt] at hx
         exact hx
   . have hr:=hG b cap (cur.toList.take (n*size)) hol (by simpa using cells_at (w:=w) (off:=0) (n:=n*size) g2) (by omega) c3 c4
     have hge:=grownCap_ge w (n+m) cap B.ty
     have hcm:=grownCap_le_maxLen w (n+m) cap B.ty c3
     have hcells:(cur.toList.take (n*size) ++ nv).length+(Builtin.zeroCells z.cells (grownCap w (n+m) cap B.ty - (n+m))).size=grownCap w (n+m) cap B.ty*size:=by
      rw [List.length_append,size_zeroCells,b2,hnl,hol,<- Nat.add_mul,<- Nat.add_mul]
      congr 1
      omega
     refine ⟨_,_,ρ.upd id w.heap.size (grownCap w (n+m) cap B.ty*size),hr,Ren.le_upd hid,fun j hj=>Ren.upd_ne ρ hj,?_,?_⟩
     . have:=Rv.own (ρ:=ρ.upd id w.heap.size (grownCap w (n+m) cap B.ty*size)) (id:=id) (es:=size) (k:=0) (len:=n+m) (b:=w.heap.size) (cap:=grownCap w (n+m) cap B.ty)
        (Ren.upd_same _ _ _ _) (Ren.upd_base _ _ _ _) (Ren.upd_cells _ _ _ _).symm (by omega) hcm
       simpa using this
     . have:=hw.grew hid B.ty (k3.append hnr) _ _ hcells
       have e1:((cur.toList.take (n*size) ++ nv).toArray ++ Builtin.zeroCells z.cells (grownCap w (n+m) cap B.ty - (n+m))) =
        ((cur.toList.take (n*size)).toArray ++ nv.toArray ++ Builtin.zeroCells z.cells (grownCap w (n+m) cap B.ty - (n+m))):=by
        apply Array.ext';simp
       rw [e1] at this
       refine this.sub (fun j C hj=>?_)
       change AH.get ((id,some ⟨true,B.ty,olds ++ news⟩) :: (i0,none) :: h) j=some C at hj
       rw [AH.get_cons] at hj ⊢
       split at hj
       . rename_i ee;rw [if_pos ee];exact hj
       . rename_i ee
         rw [if_neg ee]
         rw [AH.get_cons] at hj
         split at hj
         . cases hj
         . exact hj
theorem appendT_sim {P:Program} {F:Fr} {ρ:Ren} {w:World} {h:AH} {id:Nat} {t t' ty:TypeId} {a x r:AV} {u v:Value} {ups:AH} {cc:Bool}
 (he:effAppendT P h id t t' a x=some (cc,r,ups)) (ha:Rv ρ a u) (hx:Rv ρ x v) (hw:RW F ρ h w) (hid:ρ id=none) :
 ∃ y w' ρ',(Builtin.append_ #[t,t'] ty #[u,v]).run P w=.ok y w' /\ ρ.le ρ' /\ (∀ j,j ≠ id->ρ' j=ρ j) /\ Rv ρ' r y /\ RW F ρ' (ups ++ h) w':=by
 unfold effAppendT at he
 split at he
 case h_2=>cases he
 rename_i e s i es k n hu hs
 split at he
 case h_2=>cases he
 rename_i ti hi
 split at he
 case h_2=>cases he
 rename_i z hz
 cases hb:(Nat.beq z.cells.size ti.size && (Nat.beq ti.size 1 && Nat.beq k 0)) with
 | false=>rw [hb] at he;cases he
 | true =>
  rw [hb,cond_true] at he
  simp only [Bool.and_eq_true] at hb
  obtain ⟨b1,b2,b3⟩:=hb
  have b1:=Nat.eq_of_beq_eq_true b1
  have b2:=Nat.eq_of_beq_eq_true b2
  have b3:=Nat.eq_of_beq_eq_true b3
  subst b3
  cases hx with
  | v _ =>
   have hsz:s.data.toList.length=s.size:=Array.length_toList
   have hc:Rvs ρ (s.data.toList.map fun b=>AV.v (.int .u8 (b.toNat:Nat))) (Lib.strCells s):=by
    have e1:Lib.strCells s=s.data.toList.map fun b=>Value.int .u8 (b.toNat:Nat):=by
     unfold Lib.strCells;rfl
    rw [e1]
    have:=Rvs.map_v (ρ:=ρ) (s.data.toList.map fun b=>Value.int .u8 (b.toNat:Nat))
    rwa [List.map_map] at this
   rw [hsz] at he
   exact appendOwn_sim (A:=fun y=>Builtin.append_ #[t,t'] ty #[y,.string s]) (z:=z) he ha hw hid b1 (by rw [b2,Nat.mul_one];exact Lib.strCells_length s) hc
    (fun b cap cur hg h5 h6=>by
     have hr:=Lib.run_append_room_string (P:=P) (w:=w) t t' ty e ti hu hs hi b2 b n cap cur hg s h5 (by rw [b2,Nat.mul_one,Lib.strCells_length] at h6;exact h6)
     rw [b2,Nat.mul_one,Lib.strCells_length]
     exact hr)
    (fun b cap olds ho1 ho2 h5 h6 h7=>Lib.run_append_grow_string (P:=P) (w:=w) t t' ty e ti z hu hs hi hz ⟨b,0,none⟩ n cap olds ho1 ho2 s h5 (by simp only [maxLen] at h6;omega) (growslice_fits h5 h7))
theorem append_sim {P:Program} {F:Fr} {ρ:Ren} {ev:Operand->AV} {va:Operand->Value} {w:World} {h:AH} {id:Nat} {c:Call} {r:AV} {ups:AH} {cc:Bool}
 (he:effAppend P ev h id c=some (cc,r,ups)) (hev:EvOk ρ ev va) (hw:RW F ρ h w) (hid:ρ id=none) (ty:TypeId) :
 ∃ v w' ρ',(Builtin.append_ c.argTypes ty (c.args.map va)).run P w=.ok v w' /\ ρ.le ρ' /\ (∀ j,j ≠ id->ρ' j=ρ j) /\ Rv ρ' r v /\ RW F ρ' (ups ++ h) w':=by
 unfold effAppend at he
 split at he
 case h_2=>cases he
 rename_i s x t t' ha ht
 have ea:c.args.map va=#[va s,va x]:=by apply Array.ext';simp [ha]
 have et:c.argTypes=#[t,t']:=by apply Array.ext';simp [ht]
 rw [ea,et]
 split at he
 . unfold effAppendO at he
   split at he
   . exact appendT_sim he (hev s) (hev x) hw hid
   . exact appendZ_sim he (hev s) (hev x) hw hid
 rename_i htt
 rw [append_same htt]
 split at he
 case h_2=>cases he
 rename_i e hu
 split at he
 . cases he
 rename_i i hi
 split at he
 . cases he
 rename_i z hz
 split at he
 . cases he
 rename_i m news hn
 cases hb:(allOne news && (Nat.beq z.cells.size i.size && Nat.blt 0 i.size)) with
 | false=>rw [hb] at he;cases he
 | true =>
 rw [hb,cond_true] at he
 simp only [Bool.and_eq_true] at hb
 obtain ⟨b1,b2,b3⟩:=hb
 have b2:=Nat.eq_of_beq_eq_true b2
 have b3:0 < i.size:=Nat.le_of_ble_eq_true b3
 obtain ⟨ad,cp,nv,hvx,hnl,hnr,hnc⟩:=sliceCells_ok hw hn (hev x)
 have h1:=hnr.one b1
 unfold appendTo at he
 split at he
 . rename_i hs
   cases hc:(Nat.blt 0 m && (Nat.ble m maxLen && Nat.ble (m*i.bytes) 140737488355328)) with
   | false=>rw [hc] at he;cases he
   | true =>
    rw [hc,cond_true] at he
    simp at he
    obtain ⟨-,rfl,rfl⟩:=he
    simp only [Bool.and_eq_true] at hc
    obtain ⟨c1,c2,c3⟩:=hc
    have c1:0 < m:=Nat.le_of_ble_eq_true c1
    have c2:=Nat.le_of_ble_eq_true c2
    have c3:=Nat.le_of_ble_eq_true c3
    have hvs:=hev s
    rw [hs] at hvs
    generalize hq:va s=q at hvs
    cases hvs
    rw [hvx]
    have hge:=grownCap_ge w m 0 e
    have hcm:=grownCap_le_maxLen w m 0 e c2
    have h63:(m:Int) <= 9223372036854775807:=by simp only [maxLen] at c2;omega
    have hr:=run_append_nil (P:=P) w t ty e i z hu hi hz ad m cp nv hnl hnc c1 h63 (by omega)
    have hcells:nv.length+(Builtin.zeroCells z.cells (grownCap w m 0 e - m)).size=grownCap w m 0 e*i.size:=by
     rw [size_zeroCells,b2,hnl,<- Nat.add_mul]
     congr 1
     omega
    refine ⟨_,_,ρ.upd id w.heap.size (grownCap w m 0 e*i.size),hr,Ren.le_upd hid,fun j hj=>Ren.upd_ne ρ hj,?_,hw.grew hid e hnr _ _ hcells⟩
    have:=Rv.own (ρ:=ρ.upd id w.heap.size (grownCap w m 0 e*i.size)) (id:=id) (es:=i.size) (k:=0) (len:=m) (b:=w.heap.size) (cap:=grownCap w m 0 e)
     (Ren.upd_same _ _ _ _) (Ren.upd_base _ _ _ _) (Ren.upd_cells _ _ _ _).symm (by omega) hcm
    simpa using this
 . rename_i i0 es n hs
   have he':appendTo h id e i.size i.bytes m news (.own i0 es 0 n)=some (cc,r,ups):=he
   have hvs:=hev s
   rw [hs] at hvs
   rw [hvx]
   exact appendOwn_sim (A:=fun y=>Builtin.append_ #[t,t] ty #[y,.slice (some ad) m cp]) (z:=z) he' hvs hw hid b2 hnl hnr
    (fun b cap cur hg h5 h6=>run_append_room (P:=P) w t ty e i hu hi b n cap cur hg ad m cp nv hnl hnc h1 h5 h6)
    (fun b cap olds ho1 ho2 h5 h6 h7=>run_append_grow (P:=P) w t ty e i z hu hi hz ⟨b,0,none⟩ n cap olds ho1 ho2 ad m cp nv hnl hnc h5 (by simp only [maxLen] at h6;omega) (growslice_fits h5 h7))
 . rename_i i0 off n cap hs
   split at he
   . cases he
   rename_i B hB
   split at he
   . cases he
   rename_i olds ho
   cases hc:(Nat.blt cap (n+m) && (Nat.ble (n+m) maxLen && Nat.ble ((n+m)*i.bytes) 140737488355328)) with
   | false=>rw [hc] at he;cases he
   | true =>
    rw [hc,cond_true] at he
    simp at he
    obtain ⟨-,rfl,rfl⟩:=he
    simp only [Bool.and_eq_true] at hc
    obtain ⟨c1,c3,c4⟩:=hc
    have c1:cap < n+m:=Nat.le_of_ble_eq_true c1
    have c3:=Nat.le_of_ble_eq_true c3
    have c4:=Nat.le_of_ble_eq_true c4
    have hvs:=hev s
    rw [hs] at hvs
    generalize hq:va s=q at hvs
    obtain ⟨b,o,g1,g2,⟨cur,fr,rfl,g3,g4,g5⟩,g6,g7⟩:=hw.blkC hB
    cases hvs with
    | slc hb' =>
     rw [g1] at hb';simp at hb';subst hb'
     rw [hvx]
     obtain ⟨k1,k2,k3⟩:=cut_rvs ho g4 g5
     have hol:((cur.toList.drop (ρ.base i0+off)).take (n*i.size)).length=n*i.size:=by rw [<- k3.1];exact k1
     have hr:=run_append_grow (P:=P) w t ty e i z hu hi hz ⟨b,ρ.base i0+off,none⟩ n cap ((cur.toList.drop (ρ.base i0+off)).take (n*i.size)) hol (cells_at g2)
      ad m cp nv hnl hnc c1 (by simp only [maxLen] at c3;omega) (growslice_fits c1 c4)
     have hge:=grownCap_ge w (n+m) cap e
     have hcm:=grownCap_le_maxLen w (n+m) cap e c3
     have hcells:((cur.toList.drop (ρ.base i0+off)).take (n*i.size) ++ nv).length+(Builtin.zeroCells z.cells (grownCap w (n+m) cap e - (n+m))).size=grownCap w (n+m) cap e*i.size:=by
      rw [List.length_append,size_zeroCells,b2,hnl,hol,<- Nat.add_mul,<- Nat.add_mul]
      congr 1
      omega
     refine ⟨_,_,ρ.upd id w.heap.size (grownCap w (n+m) cap e*i.size),hr,Ren.le_upd hid,fun j hj=>Ren.upd_ne ρ hj,?_,?_⟩
     . have:=Rv.own (ρ:=ρ.upd id w.heap.size (grownCap w (n+m) cap e*i.size)) (id:=id) (es:=i.size) (k:=0) (len:=n+m) (b:=w.heap.size) (cap:=grownCap w (n+m) cap e)
        (Ren.upd_same _ _ _ _) (Ren.upd_base _ _ _ _) (Ren.upd_cells _ _ _ _).symm (by omega) hcm
       simpa using this
     . have:=hw.grew hid e (k3.append hnr) _ _ hcells
       have e1:(((cur.toList.drop (ρ.base i0+off)).take (n*i.size) ++ nv).toArray ++ Builtin.zeroCells z.cells (grownCap w (n+m) cap e - (n+m))) =
        (((cur.toList.drop (ρ.base i0+off)).take (n*i.size)).toArray ++ nv.toArray ++ Builtin.zeroCells z.cells (grownCap w (n+m) cap e - (n+m))):=by
        apply Array.ext';simp
       rw [e1] at this
       exact this
 . cases he
theorem setAt_take:∀ (m:List Value) (ys:List Value) (k j:Nat),k+m.length <= j->Rq.setAt (ys.take j) k m=(Rq.setAt ys k m).take j:=by
 intro m
 induction m with
 | nil=>intros;rfl
 | cons z m ihm =>
  intro ys k j hk
  simp only [Rq.setAt]
  simp at hk
  rw [<- ihm (ys.set k z) (k+1) j (by omega),List.take_set]
theorem store_list {P:Program} {F:Fr} {ρ:Ren} {h:AH} {w:World} (hw:RW F ρ h w) {i b:Nat} {B:Blk} (hB:h.get i=some B) (h1:ρ i=some b) (hwr:B.wr=true) {xs:Array Value} (h2:w.heap[b]?=some (.cells xs B.ty (0,0))) (hbz:ρ.base i=0)
 (h4:B.cs.length <= xs.size) (h5:∀ (j:Nat) (a:AV) (x:Value),B.cs[j]?=some a->xs[j]?=some x->Rv ρ a x) {l:List AV} {vs:List Value} (hl:Rvs ρ l vs) (e3:allOne l=true) (off:Nat) (e2:off+l.length <= B.cs.length) :
 ∃ w',(storeCells ⟨b,off,none⟩ vs).run P w=.ok () w' /\ RW F ρ ((i,some ⟨true,B.ty,setAt B.cs off l⟩) :: h) w':=by
 have hlen:=hl.1
 obtain ⟨w',g1,g2,g3,g4,g5,g6⟩:=storeCells_run (P:=P) (ty:=B.ty) vs off 0 xs w h2 (by omega) (hl.one e3)
 refine ⟨w',g1,?_⟩
 have hrel0:Rvs ρ B.cs (xs.toList.take B.cs.length):=by
  refine ⟨by simp;omega,fun i a x ha hx'=>?_⟩
  have hlt:i < B.cs.length:=(List.getElem?_eq_some_iff.1 ha).1
  rw [List.getElem?_take,if_pos hlt] at hx'
  exact h5 i a x ha (by simpa using hx')
 have hrel1:=hl.setAt off hrel0
 rw [setAt_take _ _ _ _ (by omega)] at hrel1
 have:=hw.store hB h1 hwr (xs:=xs) h2 (hbz:=hbz) (setAt B.cs off l) (setAt xs.toList (off+0) vs).toArray
  (by simp [setAt_length]) (by simp [setAt_length];omega) (fun i a' x ha hx'=>hrel1.2 i a' x ha (by
   have hlt:i < B.cs.length:=by have:=(List.getElem?_eq_some_iff.1 ha).1;simpa [setAt_length] using this
   rw [List.getElem?_take,if_pos hlt];simpa using hx')) g2 g3 g4 g5 g6
 rw [hwr] at this
 exact this
theorem copy_sim {P:Program} {F:Fr} {ρ:Ren} {ev:Operand->AV} {va:Operand->Value} {w:World} {h:AH} {c:Call} {r:AV} {ups:AH} {cc:Bool} (he:effCopy P ev h c=some (cc,r,ups)) (hev:EvOk ρ ev va) (hw:RW F ρ h w) (ty:TypeId) :
 ∃ v w',(Builtin.copy_ c.argTypes ty (c.args.map va)).run P w=.ok v w' /\ Rv ρ r v /\ RW F ρ (ups ++ h) w':=by
 unfold effCopy at he
 split at he
 . rename_i d s t ts ea et
   split at he
   . rename_i e i off dl cap hu hd
     split at he
     . rename_i n B hn hB
       split at he
       . rename_i m cs hm
         split at he
         . rename_i l hl
           obtain ⟨hb,he⟩:(B.wr && (allOne l && Nat.ble (off+Nat.min m dl*n) B.cs.length))=true /\ some (true,AV.v (.int .i64 ((Nat.min m dl:Nat):Int)),[(i,some (⟨true,B.ty,setAt B.cs off l⟩:Blk))])=some (cc,r,ups):=by
            cases hb:(B.wr && (allOne l && Nat.ble (off+Nat.min m dl*n) B.cs.length)) with
            | true=>rw [hb] at he;exact ⟨rfl,he⟩
            | false=>rw [hb] at he;cases he
           simp at he
           obtain ⟨-,rfl,rfl⟩:=he
           simp only [Bool.and_eq_true] at hb
           obtain ⟨b1,b2,b3⟩:=hb
           have b3:=Nat.le_of_ble_eq_true b3
           obtain ⟨ad,c',news,hv,hnl,hnr,hnc⟩:=sliceCells_ok hw hm (hev s)
           obtain ⟨b,o,g1,g2,⟨xs,fr,rfl,g3,g4,g5⟩,g6⟩:=hw.blkC hB
           have gz:=(g3 b1).2
           rw [(g3 b1).1] at g2
           rw [gz] at g4 g5
           simp only [Nat.zero_add] at g4 g5
           have hdv:=hev d
           rw [hd] at hdv
           generalize hq:va d=q at hdv
           cases hdv with
           | slc hb' =>
            rw [g1] at hb';simp at hb';subst hb'
            rw [gz,Nat.zero_add] at hq
            obtain ⟨hle,hlc⟩:=cut_some hl
            rw [List.drop_zero] at hlc
            have hlr:Rvs ρ l (news.take (Nat.min m dl*n)):=by rw [hlc];exact hnr.take _
            have hll:l.length=Nat.min m dl*n:=by rw [hlc];simp;omega
            obtain ⟨w',k1,k2⟩:=store_list (P:=P) hw (getC_get hB) g1 b1 g2 gz g4 g5 hlr b2 off (by omega)
            have hfc:=run_firstCells_some (P:=P) w n (Nat.min m dl) ad m c' (news.take (Nat.min m dl*n)) (by rw [<- hlr.1];exact hll) (fun j v hj=>by
             rw [List.getElem?_take] at hj
             split at hj
             . exact hnc j v hj
             . cases hj)
            refine ⟨.int .i64 ((Nat.min m dl:Nat):Int),w',?_,.v _,k2⟩
            have a0:c.argTypes[0]?=some t:=by rw [<- Array.getElem?_toList,et];rfl
            have x0:(c.args.map va)[0]?=some (.slice (some ⟨b,off,none⟩) dl cap):=by rw [Array.getElem?_map,<- Array.getElem?_toList,ea,<- hq];rfl
            have x1:(c.args.map va)[1]?=some (.slice (some ad) m c'):=by rw [Array.getElem?_map,<- Array.getElem?_toList,ea,<- hv];rfl
            simp only [Builtin.copy_,a0,x0,x1,Sem.run_bind,run_underlying hu,Result.andThen_ok,Builtin.lenOf,Sem.run_pure,run_sizeOf hn,hfc,k1,goInt]
         . cases he
       . cases he
     . cases he
   . cases he
 . cases he
theorem makeSlice_sim {P:Program} {F:Fr} {ρ:Ren} {ev:Operand->AV} {va:Operand->Value} {w:World} {h:AH} {id:Nat} {t:TypeId} {l c:Operand} {r:AV} {ups:AH}
 (he:effMake P ev id t l c=some (true,r,ups)) (hev:EvOk ρ ev va) (hw:RW F ρ h w) (hid:ρ id=none) :
 ∃ v w' ρ',(Instr.makeSlice t (va l) (va c)).run P w=.ok v w' /\ ρ.le ρ' /\ (∀ j,j ≠ id->ρ' j=ρ j) /\ Rv ρ' r v /\ RW F ρ' (ups ++ h) w':=by
 unfold effMake at he
 split at he
 . rename_i e kl len kc cap hu hl hc
   split at he
   . cases he
   . rename_i i hi
     split at he
     . cases he
     . rename_i z hz
       cases hb:(Nat.beq z.cells.size i.size && Nat.blt 0 i.size) with
       | false=>rw [hb] at he;cases he
       | true =>
        rw [hb,cond_true] at he
        simp only [Bool.and_eq_true] at hb
        have b2:=Nat.eq_of_beq_eq_true hb.1
        have b3:0 < i.size:=Nat.le_of_ble_eq_true hb.2
        simp only [Option.some.injEq,Prod.mk.injEq,decide_eq_true_eq] at he
        obtain ⟨⟨c1,c2,c3,c4⟩,rfl,rfl⟩:=he
        rw [flat_run hev hl,flat_run hev hc]
        have hr:=run_make (P:=P) w t e i z hu hi hz kl kc len cap c1 c2 c3 c4
        have hlen:(madeCells z.cells (cap.toNat*i.size)).toList.length=cap.toNat*i.size:=by rw [Array.length_toList,size_madeCells]
        refine ⟨_,_,ρ.upd id w.heap.size (madeCells z.cells (cap.toNat*i.size)).toList.length,hr,Ren.le_upd hid,fun j hj=>Ren.upd_ne ρ hj,.slcU,?_⟩
        have key:∀ cs:List AV,cs.length <= (madeCells z.cells (cap.toNat*i.size)).toList.length->(∀ (k:Nat) (a:AV) (x:Value),cs[k]?=some a->(madeCells z.cells (cap.toNat*i.size)).toList[k]?=some x->Rv ρ a x) ->
         RW F (ρ.upd id w.heap.size (madeCells z.cells (cap.toNat*i.size)).toList.length) ([(id,some ⟨true,e,cs⟩)] ++ h) { w with heap:=w.heap.push (.cells (madeCells z.cells (cap.toNat*i.size)) e) }:=by
         intro cs h1 h2
         have:=hw.allocP hid true e cs (madeCells z.cells (cap.toNat*i.size)).toList h1 h2
         rw [Array.toArray_toList] at this
         exact this
        unfold toldN
        cases hbl:Nat.blt 2000 (cap.toNat*i.size) with
        | true=>exact key [] (Nat.zero_le _) (fun k a x hk=>by simp at hk)
        | false =>
         have hz':=zeros_rvs (ρ:=ρ) (z:=z) (n:=i.size) (m:=cap.toNat*i.size) b2 b3
         exact key _ (Nat.le_of_eq hz'.1) hz'.2
 . cases he
theorem buildSlice_sim {P:Program} {F:Fr} {ρ:Ren} {ev:Operand->AV} {va:Operand->Value} {w:World} {h:AH} {id:Nat} {t:TypeId} {len:Nat} {parts:Array (Nat × Operand)} {r:AV} {ups:AH} {cc:Bool}
 (he:effBuildSlice P ev id t len parts.toList=some (cc,r,ups)) (hev:EvOk ρ ev va) (hw:RW F ρ h w) (hid:ρ id=none) :
 ∃ v w' ρ',(Instr.buildSlice t len (parts.map fun (i,x)=>(i,va x))).run P w=.ok v w' /\ ρ.le ρ' /\ (∀ j,j ≠ id->ρ' j=ρ j) /\ Rv ρ' r v /\ RW F ρ' (ups ++ h) w':=by
 unfold effBuildSlice at he
 split at he
 case h_2=>cases he
 rename_i e hu
 split at he
 . cases he
 rename_i z hz
 split at he
 . cases he
 rename_i n hn
 cases hb:(Nat.beq z.length n && (Nat.blt 0 n && Nat.ble (len*n) 16777216)) with
 | false=>rw [hb] at he;cases he
 | true =>
  rw [hb,cond_true] at he
  simp only [Bool.and_eq_true] at hb
  obtain ⟨b1,b2,b3⟩:=hb
  have b1:=Nat.eq_of_beq_eq_true b1
  have b2:0 < n:=Nat.le_of_ble_eq_true b2
  have b3:=Nat.le_of_ble_eq_true b3
  split at he
  case h_2=>cases he
  rename_i l hl
  simp at he
  obtain ⟨-,rfl,rfl⟩:=he
  obtain ⟨zv,hzr,rfl⟩:=zeroOf_run hz
  have hzc:=Rvs.canons (ρ:=ρ) zv.cells.toList
  have hzn:zv.cells.size=n:=by rw [<- b1,hzc.1];simp
  have hzeros:∀ zero:Array Value,(len*n=0 \/ zero=zv.cells)->Rvs ρ (zerosA (canons zv.cells.toList) n 0 (len*n)) ((Array.range (len*n)).map (zero[· % zero.size]!)).toList:=by
   intro zero hzero
   refine ⟨by simp [zerosA_length],fun i a x ha hx=>?_⟩
   obtain ⟨h1,h2⟩:=zerosA_get _ _ _ _ _ _ ha
   have hzero:zero=zv.cells:=by rcases hzero with h | h;omega;exact h
   subst hzero
   have h3:i % n < zv.cells.size:=by rw [hzn];exact Nat.mod_lt _ b2
   simp [h1] at hx
   rw [hzn] at hx
   have h4:zv.cells[i % n]! = zv.cells[i % n]:=by simp [h3]
   rw [h4] at hx
   subst hx
   rw [h2]
   simp only [Nat.zero_add]
   have h5:i % n < (canons zv.cells.toList).length:=by rw [hzc.1];simpa using h3
   have h6:(canons zv.cells.toList)[i % n]?=some ((canons zv.cells.toList).getD (i % n) .any):=by simp [List.getD,h5]
   exact hzc.2 _ _ _ h6 (by simp [h3])
  have hparts:∀ (i:Nat) (a:Nat × AV) (x:Nat × Value),(evs ev parts.toList)[i]?=some a->(parts.toList.map fun p=>(p.1,va p.2))[i]?=some x->a.1=x.1 /\ Rv ρ a.2 x.2:=by
   intro i a x ha hx
   rw [evs_eq] at ha
   simp only [List.getElem?_map,Option.map_eq_some_iff] at ha hx
   obtain ⟨p,hp,rfl⟩:=ha
   obtain ⟨q,hq,rfl⟩:=hx
   rw [hp] at hq;simp at hq;subst hq
   exact ⟨rfl,hev _⟩
  have hlen:(evs ev parts.toList).length=(parts.toList.map fun p=>(p.1,va p.2)).length:=by rw [evs_eq];simp
  have main:∀ zero:Array Value,(len*n=0 \/ zero=zv.cells)->∃ ys:List Value,Instr.fill (fun i=>some (i*n,n)) ((Array.range (len*n)).map (zero[· % zero.size]!)) (parts.toList.map fun p=>(p.1,va p.2))=some ys.toArray /\ Rvs ρ l ys:=by
   intro zero hzero
   obtain ⟨ys,h1,h2⟩:=fillA_run (ρ:=ρ) _ _ _ _ _ _ hlen hparts (hzeros zero hzero) hl
   exact ⟨ys,by rw [Array.toArray_toList] at h1;exact h1,h2⟩
  have hpl:(parts.map fun (i,x)=>(i,va x)).toList=parts.toList.map fun p=>(p.1,va p.2):=by simp
  have fin:∀ ys:List Value,Rvs ρ l ys->(Instr.buildSlice t len (parts.map fun (i,x)=>(i,va x))).run P w=.ok (.slice (some ⟨w.heap.size,0,none⟩) len len) { w with heap:=w.heap.push (.cells ys.toArray e) } ->
   ∃ v w' ρ',(Instr.buildSlice t len (parts.map fun (i,x)=>(i,va x))).run P w=.ok v w' /\ ρ.le ρ' /\ (∀ j,j ≠ id->ρ' j=ρ j) /\ Rv ρ' (.slc id 0 len len) v /\ RW F ρ' ([(id,some ⟨true,e,l⟩)] ++ h) w':=by
   intro ys hys hr
   exact ⟨_,_,ρ.upd id w.heap.size ys.length,hr,Ren.le_upd hid,fun j hj=>Ren.upd_ne ρ hj,.slcU,hw.alloc hid true e l ys hys⟩
  by_cases h0:len*n=0
  . obtain ⟨ys,h1,h2⟩:=main #[] (.inl h0)
    refine fin ys h2 ?_
    simp only [Instr.buildSlice,Sem.run_bind,run_underlying hu,Result.andThen_ok,run_sizeOf hn]
    rw [if_neg (by omega),if_pos h0]
    simp only [Sem.run_pure,Sem.run_bind,Result.andThen_ok,hpl,h1]
    simp [newRow]
  . obtain ⟨ys,h1,h2⟩:=main zv.cells (.inr rfl)
    refine fin ys h2 ?_
    simp only [Instr.buildSlice,Sem.run_bind,run_underlying hu,Result.andThen_ok,run_sizeOf hn]
    rw [if_neg (by omega),if_neg h0]
    simp only [Sem.run_pure,Sem.run_bind,Result.andThen_ok,hzr,hpl,h1]
    simp [newRow]
theorem bytesA_run {ρ:Ren}:∀ {l:List AV} {xs:List Value} {ns:List Int},Rvs ρ l xs->bytesA l=some ns->xs=ns.map (Value.int .u8)
 | [],xs,ns,h,e=>by simp [bytesA] at e;subst e;rw [h.unnil];rfl
 | a :: t,xs,ns,h,e=>by
  obtain ⟨x,ys,rfl,hx,ht⟩:=h.uncons
  simp only [bytesA] at e
  split at e
  . rename_i n hn
    split at e
    . cases e
    . rename_i l hl
      simp at e;subst e
      rw [hx.flat_eq hn,bytesA_run ht hl];rfl
  . cases e
theorem flatAll_run {ρ:Ren}:∀ {l:List AV} {xs vs:List Value},Rvs ρ l xs->flatAll l=some vs->xs=vs
 | [],xs,vs,h,e=>by simp [flatAll] at e;subst e;exact h.unnil
 | a :: t,xs,vs,h,e=>by
  obtain ⟨x,ys,rfl,hx,ht⟩:=h.uncons
  simp only [flatAll] at e
  split at e
  . cases e
  . rename_i y hy
    split at e
    . cases e
    . rename_i m hm
      simp at e;subst e
      rw [hx.flat_eq hy,flatAll_run ht hm]
theorem effStr_run {P:Program} {F:Fr} {ρ:Ren} {h:AH} {w:World} (hw:RW F ρ h w) {s d:TypeId} {a r:AV} {v:Value} (he:effStr P h s d a=some r) (hv:Rv ρ a v) :
 ∃ u,(convert s d v).run P w=.ok u w /\ Rv ρ r u:=by
 unfold effStr at he
 split at he
 . rename_i e hs hd
   split at he
   . rename_i hb
     split at he
     . cases he
     . rename_i m l hl
       split at he
       . cases he
       . rename_i ns hn
         simp at he;subst he
         obtain ⟨ad,cp,nv,rfl,h1,h2,h3⟩:=sliceCells_ok hw hl hv
         have e1:=bytesA_run h2 hn
         refine ⟨_,?_,.v _⟩
         rw [run_convert_bytes_string w s d e (some ad) m cp hs hb hd]
         have hlc:=run_loadCells_list (P:=P) w ad nv h3
         rw [h1,Nat.mul_one,e1] at hlc
         exact run_bytesToString w ad m cp ns hlc
   . cases he
 . cases he
theorem RW.froze {F:Fr} {ρ:Ren} {h:AH} {w:World} {id b n:Nat} {e:TypeId} {cs:List AV} {xs:Array Value} (r:RW F ρ ((id,some ⟨true,e,cs⟩) :: h) w) (hb:ρ id=some b) (hx:w.heap[b]?=some (.cells xs e)) :
 RW F ρ ((id,some ⟨false,e,cs⟩) :: h) (w.freeze ⟨b,n,none⟩ 1):=by
 obtain ⟨b0,o0,g1,g2,gB,g6,g7⟩:=r.blk id ⟨true,e,cs⟩ (by simp [AH.get_cons])
 rw [hb] at g1;simp at g1;subst g1
 rw [hx] at g2
 obtain ⟨xs0,fr,rfl,g3,g4,g5⟩:RC ρ id ⟨true,e,cs⟩ o0:=by
  rcases gB with gB | ⟨es,n',t,rfl,-,-⟩
  . exact gB
  . cases g2
 simp only [Option.some.injEq,Obj.cells.injEq] at g2
 obtain ⟨rfl,-,rfl⟩:=g2
 have hat:∀ j,j ≠ b->(w.freeze ⟨b,n,none⟩ 1).heap[j]?=w.heap[j]?:=by
  intro j hj
  unfold World.freeze
  simp [Array.getElem?_modify,Ne.symm hj]
 have hnew:∃ fr,(w.freeze ⟨b,n,none⟩ 1).heap[b]?=some (.cells xs e fr):=by
  unfold World.freeze
  simp [Array.getElem?_modify,hx]
 obtain ⟨fr',hnew⟩:=hnew
 have hF:F.blocks b=none:=g6 rfl
 have hget:∀ {j:Nat} {B:Blk},j ≠ id->AH.get ((id,some ⟨false,e,cs⟩) :: h) j=some B->AH.get ((id,some ⟨true,e,cs⟩) :: h) j=some B:=by
  intro j B hj hB
  rw [AH.get_cons,if_neg (Ne.symm hj)] at hB ⊢
  exact hB
 have hne:∀ {j b':Nat} {B:Blk},j ≠ id->AH.get ((id,some ⟨false,e,cs⟩) :: h) j=some B->ρ j=some b'->b' ≠ b:=by
  rintro j b' B hj hB hb' rfl
  exact hj (r.inj id j ⟨true,e,cs⟩ B b' (by simp [AH.get_cons]) (hget hj hB) rfl hb hb').symm
 refine ⟨fun j B hB=>?_,fun j j' B B' b' hB hB' hwr hb1 hb2=>?_,fun b' o ho=>?_,?_,?_,?_,r.gc⟩
 . by_cases hj:j=id
   . subst hj
     rw [AH.get_cons,if_pos rfl] at hB
     simp at hB;subst hB
     exact ⟨b,_,hb,hnew,.inl ⟨xs,fr',rfl,fun hh=>absurd hh (by simp),g4,g5⟩,fun hh=>absurd hh (by simp),g7⟩
   . obtain ⟨b1,o1,k1,k2,k3⟩:=r.blk j B (hget hj hB)
     exact ⟨b1,o1,k1,by rw [hat b1 (hne hj hB k1)];exact k2,k3⟩
 . by_cases hj:j=id
   . subst hj
     rw [AH.get_cons,if_pos rfl] at hB
     simp at hB;subst hB;cases hwr
   . by_cases hj':j'=id
     . subst hj'
       exact (r.inj j j' B _ b' (hget hj hB) (by simp [AH.get_cons];rfl) hwr hb1 hb2)
     . exact r.inj j j' B B' b' (hget hj hB) (hget hj' hB') hwr hb1 hb2
 . have hbb:b' ≠ b:=by rintro rfl;rw [hF] at ho;cases ho
   rw [hat b' hbb];exact r.fr b' o ho
 . rw [<- r.os];unfold World.freeze;rfl
 . rw [<- r.tape];unfold World.freeze;rfl
 . rw [<- r.out];unfold World.freeze;rfl
theorem effBytes_run {P:Program} {F:Fr} {ρ:Ren} {h:AH} {w:World} (hw:RW F ρ h w) {id:Nat} (hid:ρ id=none) {s d:TypeId} {a r:AV} {v:Value} {c:Bool} {ups:AH} (he:effBytes P id s d a=some (c,r,ups)) (hv:Rv ρ a v) :
 ∃ u w' ρ',(convert s d v).run P w=.ok u w' /\ ρ.le ρ' /\ (∀ j,j ≠ id->ρ' j=ρ j) /\ Rv ρ' r u /\ RW F ρ' (ups ++ h) w':=by
 unfold effBytes at he
 split at he
 case h_2=>cases he
 rename_i e t hs hd
 split at he
 case h_2=>cases he
 rename_i hb
 cases hc:Nat.ble t.data.toList.length maxLen with
 | false=>rw [hc] at he;cases he
 | true =>
  rw [hc,cond_true] at he
  simp only [Option.some.injEq,Prod.mk.injEq] at he
  obtain ⟨-,rfl,rfl⟩:=he
  have hle:t.data.toList.length <= maxLen:=Nat.le_of_ble_eq_true hc
  have hsz:t.size=t.data.toList.length:=rfl
  cases hv
  have hrun:=Lib.run_convert_string_bytes (P:=P) w s d e t hs hd hb
  unfold Lib.bytesWorld Lib.bytesCells at hrun
  have hge:=grownCap_ge w t.size 0 e
  have hcm:=grownCap_le_maxLen w t.size 0 e (by rw [hsz];exact hle)
  have hxs:Rvs ρ (t.data.toList.map fun b=>AV.v (.int .u8 (b.toNat:Nat))) (t.data.toList.map fun b=>Value.int .u8 (b.toNat:Nat)):=by
   have:=Rvs.map_v (ρ:=ρ) (t.data.toList.map fun b=>Value.int .u8 (b.toNat:Nat))
   rw [List.map_map] at this
   exact this
  have hg:=hw.grew hid e hxs (Array.replicate (grownCap w t.size 0 e - t.size) (.int .u8 0)) (grownCap w t.size 0 e) (by
   rw [List.length_map,<- hsz,Array.size_replicate];omega)
  have harr:((t.data.toList.map fun b=>Value.int .u8 (b.toNat:Nat)).toArray ++ Array.replicate (grownCap w t.size 0 e - t.size) (.int .u8 0))=((t.data.map fun b=>Value.int .u8 (b.toNat:Nat)) ++ Array.replicate (grownCap w t.size 0 e - t.size) (.int .u8 0)):=by
   congr 1
   apply Array.ext';simp
  rw [harr] at hg
  have hfz:=RW.froze (n:=((t.data.map fun b=>Value.int .u8 b.toNat) ++ Array.replicate (grownCap w t.size 0 e - t.size) (.int .u8 0):Array Value).size) hg (Ren.upd_same _ _ _ _) (xs:=((t.data.map fun b=>Value.int .u8 (b.toNat:Nat)) ++ Array.replicate (grownCap w t.size 0 e - t.size) (.int .u8 0))) (by
   simp only [World.alloc,World.drew,Array.getElem?_push_size])
  refine ⟨_,_,ρ.upd id w.heap.size (grownCap w t.size 0 e),hrun,Ren.le_upd hid,fun j hj=>Ren.upd_ne ρ hj,?_,hfz⟩
  have:=Rv.own (ρ:=ρ.upd id w.heap.size (grownCap w t.size 0 e)) (id:=id) (es:=1) (k:=0) (len:=t.data.toList.length) (b:=w.heap.size) (cap:=grownCap w t.size 0 e)
   (Ren.upd_same _ _ _ _) (Ren.upd_base _ _ _ _) (by rw [Ren.upd_cells,Nat.mul_one]) (by rw [<- hsz];omega) hcm
  rw [hsz]
  simpa using this
theorem RW.alias {F:Fr} {ρ:Ren} {h:AH} {w:World} (r:RW F ρ h w) {i id b:Nat} {B:Blk} (hB:h.getC i=some B) (hwr:B.wr=false) (hb:ρ i=some b) (hz:ρ.base i=0) (hid:ρ id=none) :
 RW F (ρ.upd id b (ρ.cells i)) ((id,some B) :: h) w:=by
 have hle:=Ren.le_upd (b:=b) (n:=ρ.cells i) hid
 obtain ⟨b0,o0,hb0,ho0,⟨xs,fr,rfl,g3,g4,g5⟩,hF0,hcn⟩:=r.blkC hB
 rw [hb] at hb0;simp at hb0;subst hb0
 refine ⟨fun j C hj=>?_,fun j j' C C' c hj hj' hw hc hc'=>?_,r.fr,r.os,r.tape,r.out,r.gc⟩
 . rw [AH.get_cons] at hj
   split at hj
   . rename_i e;subst e;simp at hj;subst hj
     refine ⟨b,_,Ren.upd_same _ _ _ _,ho0,.inl ⟨xs,fr,rfl,fun hh=>(by rw [hwr] at hh;cases hh),?_,fun j a x ha hx=>?_⟩,fun hh=>(by rw [hwr] at hh;cases hh),?_⟩
     . rw [Ren.upd_base];rw [hz] at g4;exact g4
     . refine (g5 j a x ha ?_).mono hle
       rw [Ren.upd_base] at hx
       rw [hz];exact hx
     . rw [Ren.upd_cells];exact hcn
   . obtain ⟨c,o,hc,ho,hC,hk⟩:=r.blk j C hj
     exact ⟨c,o,(hle _ _ hc).1,ho,hC.mono hle hc,hk.1,hk.2.trans (hle _ _ hc).2.1.symm⟩
 . have hne:j ≠ id:=by
    rintro rfl
    rw [AH.get_cons,if_pos rfl] at hj
    simp at hj;subst hj
    rw [hwr] at hw;cases hw
   rw [AH.get_cons,if_neg (fun e=>hne e.symm)] at hj
   obtain ⟨c1,o1,hc1,_⟩:=r.blk j C hj
   have e1:c1=c:=by
    have:=(hle _ _ hc1).1
    rw [hc] at this;simp at this;exact this.symm
   subst e1
   by_cases e2:j'=id
   . subst e2
     rw [Ren.upd_same] at hc'
     simp at hc';subst hc'
     have:=r.inj j i C B _ hj (getC_get hB) hw hc1 hb
     subst this
     rw [getC_get hB] at hj
     simp at hj;subst hj
     rw [hwr] at hw;cases hw
   . rw [AH.get_cons,if_neg (fun e=>e2 e.symm)] at hj'
     obtain ⟨c2,o2,hc2,_⟩:=r.blk j' C' hj'
     have e3:c2=c1:=by
      have:=(hle _ _ hc2).1
      rw [hc'] at this;simp at this;exact this.symm
     subst e3
     exact r.inj j j' C C' _ hj hj' hw hc1 hc2
theorem effMark_run {P:Program} {F:Fr} {ρ:Ren} {h:AH} {w:World} (hw:RW F ρ h w) {id:Nat} (hid:ρ id=none) {s d:TypeId} {a r:AV} {v:Value} {c:Bool} {ups:AH} (hsd:Nat.beq s d=true) (he:effMark P id h s a=some (c,r,ups)) (hv:Rv ρ a v) :
 ∃ w' ρ',(convert s d v).run P w=.ok v w' /\ ρ.le ρ' /\ (∀ j,j ≠ id->ρ' j=ρ j) /\ Rv ρ' r v /\ RW F ρ' (ups ++ h) w':=by
 obtain rfl:=Nat.eq_of_beq_eq_true hsd
 unfold effMark at he
 split at he
 case h_2=>cases he
 rename_i e hs
 split at he
 case h_2=>cases he
 rename_i hb
 split at he
 case h_2=>cases he
 rename_i i hi
 split at he
 case h_2=>cases he
 rename_i B hB
 split at he
 case h_2=>cases he
 rename_i hwr
 simp only [Option.some.injEq,Prod.mk.injEq] at he
 obtain ⟨-,rfl,rfl⟩:=he
 obtain ⟨b,o,g1,g2,⟨xs,fr,rfl,g3,g4,g5⟩,g6,g7⟩:=hw.blkC hB
 obtain ⟨rfl,hbz⟩:=g3 hwr
 have hsh:w.shape? b=some (B.ty,xs.size):=by unfold World.shape?;rw [g2]
 have hle:=Ren.le_upd (b:=b) (n:=ρ.cells i) hid
 have key:(∃ j n cp,v=.slice (some ⟨b,j,none⟩) n cp) /\ Rv (ρ.upd id b (ρ.cells i)) (slTo id a) v:=by
  unfold slName at hi
  split at hi
  . rename_i j off n cp
    simp at hi;subst hi
    cases hv with
    | slc hq =>
     rw [g1] at hq;simp at hq;subst hq
     refine ⟨⟨_,_,_,rfl⟩,?_⟩
     have:=Rv.slc (ρ:=ρ.upd id b (ρ.cells j)) (id:=id) (off:=off) (len:=n) (cap:=cp) (Ren.upd_same _ _ _ _)
     rw [Ren.upd_base] at this
     rw [hbz];exact this
  . rename_i j es k n
    simp at hi;subst hi
    cases hv with
    | own hq q0 q1 q2 q3 =>
     rw [g1] at hq;simp at hq;subst hq
     exact ⟨⟨_,_,_,rfl⟩,.own (Ren.upd_same _ _ _ _) (Ren.upd_base _ _ _ _) (by rw [Ren.upd_cells];exact q1) q2 q3⟩
    | ownE hq q0 =>
     rw [g1] at hq;simp at hq;subst hq
     exact ⟨⟨_,_,_,rfl⟩,.ownE (Ren.upd_same _ _ _ _) q0⟩
  . cases hi
 obtain ⟨⟨j,n,cp,rfl⟩,hrv⟩:=key
 have hfz:RW F ρ ((i,some ⟨false,B.ty,B.cs⟩) :: h) (w.freeze ⟨b,xs.size,none⟩ 1):=by
  refine RW.froze (cs:=B.cs) (xs:=xs) (hw.congr fun k=>?_) g1 g2
  rw [AH.get_cons]
  split
  . rename_i ek;subst ek
    rw [getC_get hB,<- hwr]
  . rfl
 refine ⟨w.freeze ⟨b,xs.size,none⟩ 1,ρ.upd id b (ρ.cells i),?_,hle,fun j hj=>Ren.upd_ne ρ hj,hrv,?_⟩
 . simp [convert,run_underlying hs,run_underlying hb,markStringish,hsh]
 . have hC:AH.getC ((i,some ⟨false,B.ty,B.cs⟩) :: h) i=some ⟨false,B.ty,B.cs⟩:=by
    have hc:(⟨false,B.ty,B.cs⟩:Blk).cell=true:=(getC_some hB).2
    unfold AH.getC
    rw [AH.get_cons,if_pos rfl]
    simp only [hc]
   refine (hfz.alias hC rfl g1 hbz hid).sub fun j C hj=>?_
   change AH.get ((id,some ⟨false,B.ty,B.cs⟩) :: (i,none) :: h) j=some C at hj
   rw [AH.get_cons] at hj ⊢
   split at hj
   . rename_i ee;rw [if_pos ee];exact hj
   . rename_i ee
     rw [if_neg ee]
     rw [AH.get_cons] at hj ⊢
     split at hj
     . cases hj
     . rename_i e2;rw [if_neg e2];exact hj
theorem effOp_sim {P:Program} {E:Env} (hE:EnvOk P E) {F:Fr} {ρ:Ren} {ev:Operand->AV} {a:Act} {w:World} {h:AH} {id:Nat} {o:Oper} {r:AV} {ups:AH}
 (he:effOp P E ev h id o.op=some (true,r,ups)) (hev:EvOk ρ ev a.eval) (hw:RW F ρ h w) (hidR:freeR ρ id E.kk) {K:Act->World->Prop} {Q:Exit->Act->World->Prop}
 (hKR:∀ v w' ρ',ρ.le ρ'->(∀ j,¬ inR id E.kk j->ρ' j=ρ j)->Rv ρ' r v->RW F ρ' (ups ++ h) w'->K (a.put o.dst v) w'):o.wp P a w K Q:=by
 have hid:ρ id=none:=hidR id (inR_self hE.kk)
 have hK:∀ v w' ρ',ρ.le ρ'->(∀ j,j ≠ id->ρ' j=ρ j)->Rv ρ' r v->RW F ρ' (ups ++ h) w'->K (a.put o.dst v) w' :=
  fun v w' ρ' h1 h2 h3 h4=>hKR v w' ρ' h1 (fun j hj=>h2 j (fun e=>hj (by subst e;exact inR_self hE.kk))) h3 h4
 have pureCase:∀ c,opPure P E ev o.op=some (c,r)->c=true->ups=[]->o.wp P a w K Q:=by
  intro c hp hc hu
  obtain ⟨v,h1,h2⟩:=opPure_run hE.eq hev hp hc w
  subst hu
  exact wp_value h1 (hK v w ρ (Ren.le_refl _) (fun _ _=>rfl) h2 hw)
 obtain ⟨dst,op,type,pos,after,guard⟩:=o
 simp only at he
 cases op with
 | alloc t =>
  simp only [effOp] at he
  split at he
  . rename_i z hz
    simp at he
    obtain ⟨rfl,rfl⟩:=he
    obtain ⟨v,hv,rfl⟩:=zeroOf_run hz
    refine wp_value (v:=.pointer (some ⟨w.heap.size,0,none⟩)) (w':={ w with heap:=w.heap.push (.cells v.cells t) }) ?_ (hK _ _ (ρ.upd id w.heap.size v.cells.toList.length) (Ren.le_upd hid) (fun j hj=>Ren.upd_ne ρ hj) .ptrU ?_)
    . simp [execOp,Instr.alloc,hv,newVar,newRow]
    . have:=hw.alloc hid true t _ v.cells.toList (Rvs.canons _)
      simpa using this
  . cases he
 | box t x =>
  simp only [effOp] at he
  split at he
  . rename_i z hz
    simp at he
    obtain ⟨rfl,rfl⟩:=he
    have hcells:=(hev x).cells hz
    refine wp_value (v:=.pointer (some ⟨w.heap.size,0,none⟩)) (w':={ w with heap:=w.heap.push (.cells (a.eval x).cells t) }) ?_ (hK _ _ (ρ.upd id w.heap.size (a.eval x).cells.toList.length) (Ren.le_upd hid) (fun j hj=>Ren.upd_ne ρ hj) .ptrU ?_)
    . simp [execOp,Instr.box,newVar,newRow]
    . have:=hw.alloc hid true t _ _ hcells
      simpa using this
  . cases he
 | buildSlice t len parts =>
  simp only [effOp] at he
  obtain ⟨v,w',ρ',h1,h2,h3,h4,h5⟩:=buildSlice_sim he hev hw hid
  exact wp_value (v:=v) (w':=w') (by simp only [execOp,Sem.run_bind,h1,Result.andThen_ok,Sem.run_pure];try rfl) (hK v w' ρ' h2 h3 h4 h5)
 | makeSlice t l c =>
  simp only [effOp] at he
  obtain ⟨v,w',ρ',h1,h2,h3,h4,h5⟩:=makeSlice_sim he hev hw hid
  exact wp_value (v:=v) (w':=w') (by simp only [execOp,Sem.run_bind,h1,Result.andThen_ok,Sem.run_pure];try rfl) (hK v w' ρ' h2 h3 h4 h5)
 | makeMap t q =>
  simp only [effOp] at he
  split at he
  . rename_i hh
    simp at he
    obtain ⟨rfl,rfl⟩:=he
    refine wp_value (v:=.map (some w.heap.size)) (w':={ w with heap:=w.heap.push (.map #[] 0) }) ?_ (hK _ _ (ρ.upd id w.heap.size 0) (Ren.le_upd hid) (fun j hj=>Ren.upd_ne ρ hj) (.mp (Ren.upd_same _ _ _ _)) (hw.allocM hid true t 0))
    cases q with
    | none=>rfl
    | some z =>
     unfold hintOk at hh
     split at hh
     case h_1=>rename_i h0;cases h0
     rename_i z' hz0
     simp only [Option.some.injEq] at hz0
     subst hz0
     split at hh
     case h_2=>cases hh
     rename_i key elem k n hu hz
     have hv:=(hev z).flat_eq hz
     simp only [execOp,Option.map_some,hv,Instr.makeMap,Sem.run_bind,run_underlying hu,Result.andThen_ok,asInt,asIntOf,Sem.run_pure]
     rfl
  . cases he
 | lookup t x ix ok =>
  simp only [effOp] at he
  split at he
  . rename_i r' hr
    simp at he
    obtain ⟨rfl,rfl⟩:=he
    obtain ⟨y,h1,h2⟩:=lookupA_run hw hr (hev x) (hev ix)
    exact wp_value (v:=y) (w':=w) (by simp only [execOp,Sem.run_bind,h1,Result.andThen_ok,Sem.run_pure];try rfl) (hK y w ρ (Ren.le_refl _) (fun _ _=>rfl) h2 hw)
  . cases he
 | mapUpdate t m k x =>
  simp only [effOp] at he
  split at he
  . rename_i i B hu
    simp at he
    obtain ⟨rfl,rfl⟩:=he
    obtain ⟨w',h1,h2⟩:=updateA_run hw hu (hev m) (hev k) (hev x)
    exact wp_skip' (w':=w') (by simp only [execOp,Sem.run_bind,h1,Result.andThen_ok,Sem.run_pure];try rfl) (hK undef w' ρ (Ren.le_refl _) (fun _ _=>rfl) (.v _) h2)
  . cases he
 | load t x =>
  simp only [effOp] at he
  split at he
  . rename_i i off hx
    split at he
    . rename_i B hB
      split at he
      . rename_i c' r' hr
        simp at he
        obtain ⟨rfl,rfl,rfl⟩:=he
        obtain ⟨b,o,h1,h2,⟨xs,fr,rfl,h3,h4,h5⟩,h6⟩:=hw.blkC hB
        have:=hev x;rw [hx] at this
        generalize hv:a.eval x=v at this
        cases this with
        | ptr hb =>
         rw [h1] at hb;simp at hb;subst hb
         obtain ⟨u,h7,h8⟩:=loadE_run hr h2 h4 h5
         exact wp_value (v:=u) (w':=w) (by simp [execOp,Instr.loadAt,hv,Instr.sureAddr,h7]) (hK u w ρ (Ren.le_refl _) (fun _ _=>rfl) h8 hw)
      . cases he
    . cases he
  . rename_i g off hx
    split at he
    . rename_i cs hcs
      split at he
      . rename_i c' r' hr
        simp at he
        obtain ⟨rfl,rfl,rfl⟩:=he
        obtain ⟨xs,ty,fr,h2,hxs⟩:=hw.gw g cs hcs
        have:=hev x;rw [hx] at this
        generalize hv:a.eval x=v at this
        cases this with
        | v _ =>
         obtain ⟨u,h7,h8⟩:=loadE_run (ρ:=ρ) (bs:=0) hr h2 (by rw [<- hxs];simp) (fun i a x ha hx'=>by
          rw [List.getElem?_map,<- hxs] at ha
          rw [Nat.zero_add] at hx'
          rw [show xs.toList[i]?=some x by simpa using hx'] at ha
          simp at ha;subst ha;exact .v _)
         rw [Nat.zero_add] at h7
         exact wp_value (v:=u) (w':=w) (by simp [execOp,Instr.loadAt,hv,Instr.sureAddr,h7]) (hK u w ρ (Ren.le_refl _) (fun _ _=>rfl) h8 hw)
      . cases he
    . cases he
  . cases he
 | store t x y =>
  simp only [effOp] at he
  split at he
  . rename_i i off hx
    split at he
    . rename_i B hB
      split at he
      . rename_i hwr
        split at he
        . rename_i c' cs' hcs'
          simp at he
          obtain ⟨rfl,rfl,rfl⟩:=he
          obtain ⟨cs,hcs,hlen',himp⟩:=storeE_is hcs'
          obtain ⟨b,o,h1,h2,⟨xs,fr,rfl,h3,h4,h5⟩,h6⟩:=hw.blkC hB
          have hbz:=(h3 hwr).2
          rw [(h3 hwr).1] at h2
          rw [hbz] at h4 h5
          simp only [Nat.zero_add] at h4 h5
          have:=hev x;rw [hx] at this
          generalize hv:a.eval x=v at this
          cases this with
          | ptr hb =>
           rw [h1] at hb;simp at hb;subst hb
           unfold storeA at hcs
           split at hcs
           . rename_i l n hl hn
             cases hbb:(Nat.beq l.length n && (Nat.ble (off+n) B.cs.length && allOne l)) <;> simp only [hbb,cond_true,cond_false] at hcs
             . cases hcs
             . simp at hcs;subst hcs
               simp only [Bool.and_eq_true] at hbb
               obtain ⟨e1,e2,e3⟩:=hbb
               have e1:=Nat.eq_of_beq_eq_true e1
               have e2:=Nat.le_of_ble_eq_true e2
               have hcells:=(hev y).cells hl
               have hlen:(a.eval y).cells.toList.length=n:=by rw [<- hcells.1];exact e1
               obtain ⟨w',g1,g2,g3,g4,g5,g6⟩:=storeCells_run (P:=P) (ty:=B.ty) (a.eval y).cells.toList off 0 xs w h2 (by rw [hlen];omega) (hcells.one e3)
               refine wp_skip' (w':=w') ?_ (hK undef w' ρ (Ren.le_refl _) (fun _ _=>rfl) (.v _) ?_)
               . have:(a.eval y).cells.size=n:=by simpa using hlen
                 simp [execOp,Instr.storeAt,hv,Instr.sureAddr,storeVar,run_sizeOf hn,this,hbz,g1]
               . have hrel0:Rvs ρ B.cs (xs.toList.take B.cs.length):=by
                  refine ⟨by simp;omega,fun i a x ha hx'=>?_⟩
                  have hlt:i < B.cs.length:=(List.getElem?_eq_some_iff.1 ha).1
                  rw [List.getElem?_take,if_pos hlt] at hx'
                  exact h5 i a x ha (by simpa using hx')
                 have hrel1:=hcells.setAt off hrel0
                 have hst:∀ (m:List Value) (ys:List Value) (k j:Nat),k+m.length <= j->setAt (ys.take j) k m=(setAt ys k m).take j:=by
                  intro m
                  induction m with
                  | nil=>intros;rfl
                  | cons z m ihm =>
                   intro ys k j hk
                   simp only [setAt]
                   simp at hk
                   rw [<- ihm (ys.set k z) (k+1) j (by omega),List.take_set]
                 rw [hst _ _ _ _ (by rw [hlen];exact e2)] at hrel1
                 have:=hw.store (getC_get hB) h1 hwr (xs:=xs) h2 (hbz:=hbz) cs' (setAt xs.toList (off+0) (a.eval y).cells.toList).toArray
                  (by simp [setAt_length]) (by rw [hlen'];simp [setAt_length];omega) (fun i a' x ha' hx'=>by
                   obtain ⟨a0,ha,hi0⟩:=himp ρ i a' ha'
                   refine hi0 x (hrel1.2 i a0 x ha ?_)
                   have hlt:i < B.cs.length:=by have:=(List.getElem?_eq_some_iff.1 ha).1;simpa [setAt_length] using this
                   rw [List.getElem?_take,if_pos hlt];simpa using hx') g2 g3 g4 g5 g6
                 rw [hwr] at this
                 exact this
           . cases hcs
        . cases he
      . cases he
    . cases he
  . cases he
 | call c =>
  simp only [effOp] at he
  split at he
  . rename_i f hf
    unfold effCall at he
    split at he
    . rename_i fid as bs hfv
      have:=hev f;rw [hfv] at this
      obtain ⟨xs,ys,hv,hxs,hys⟩:=this.fn_iff
      have hargs:=(hxs.append ((Rvs.maps hev c.args.toList).append hys))
      split at he
      . rename_i g hg
        split at he
        . rename_i c' r' hcr
          simp at he
          obtain ⟨rfl,rfl,rfl⟩:=he
          rcases hE.pure fid g hg with ⟨hent,hok⟩ | hext
          case inr =>
           obtain ⟨v,h1,h2⟩:=hext ρ _ _ _ hcr hargs w
           refine wp_value (v:=v) (w':=w) ?_ (hK v w ρ (Ren.le_refl _) (fun _ _=>rfl) h2 hw)
           have hr:=resolve_value (P:=P) (type:=type) hf hv w
           simp only [execOp,Sem.run_bind,hr,Result.andThen_ok,invoke]
           rw [<- h1]
           congr 2
           apply Array.ext'
           simp
          have hcall:=hok ρ _ _ _ hcr hargs w hw.gw
          have hrun:(execOp a.eval { dst,op:=.call c,type,pos,after,guard }).run P w=.ok (.enter fid (xs.toList ++ (c.args.toList.map a.eval ++ ys.toList)).toArray) w:=by
           have hr:=resolve_value (P:=P) (type:=type) hf hv w
           simp only [execOp,Sem.run_bind,hr,Result.andThen_ok,invoke]
           rw [callFunc_run hent]
           congr 2
           apply Array.ext'
           simp
          refine wp_enter (R:=fun v w''=>Rv ρ r' v /\ RowKit.Below w.heap.size w w'') hrun hcall ?_
          rintro v w'' ⟨h1,h2⟩
          exact hK v w'' ρ (Ren.le_refl _) (fun _ _=>rfl) h1 (hw.below h2)
        . cases he
      . split at he
        . rename_i f'
          split at he
          . rename_i g hg
            replace he:g (maps ev c.args.toList) h=some (true,r,ups):=by
             split at he
             . exact he
             . split at he
               . rename_i c1 r1 h1;rw [h1];exact he
               . cases he
            have hd:=(hE.heap f' g hg)
            obtain ⟨hent,hok⟩:=hd
            have hfe:a.eval (.func f')=.func (.func f') #[] #[]:=rfl
            have hcall:=hok.run F ρ _ _ h r ups w he (Rvs.maps hev c.args.toList) hw
            have hrun:(execOp a.eval { dst,op:=.call c,type,pos,after,guard }).run P w=.ok (.enter f' (c.args.toList.map a.eval).toArray) w:=by
             have hr:=resolve_value (P:=P) (type:=type) hf hfe w
             simp only [execOp,Sem.run_bind,hr,Result.andThen_ok,invoke]
             rw [callFunc_run hent]
             congr 2
             apply Array.ext'
             simp
            refine wp_enter (R:=fun v w''=>Rv ρ r v /\ RW F ρ (ups ++ h) w'') hrun hcall ?_
            rintro v w'' ⟨h1,h2⟩
            exact hK v w'' ρ (Ren.le_refl _) (fun _ _=>rfl) h1 h2
          . split at he
            . rename_i g hg
              obtain ⟨hent,hok⟩:=(hE.lay f' g hg)
              split at he
              case h_2=>cases he
              rename_i c1 r1 B1 hB1
              simp at he
              obtain ⟨rfl,rfl,rfl⟩:=he
              have hfe:a.eval (.func f')=.func (.func f') #[] #[]:=rfl
              have hcall:=hok.run F ρ _ _ h id r1 B1 w hB1 (Rvs.maps hev c.args.toList) hw hid
              have hrun:(execOp a.eval { dst,op:=.call c,type,pos,after,guard }).run P w=.ok (.enter f' (c.args.toList.map a.eval).toArray) w:=by
               have hr:=resolve_value (P:=P) (type:=type) hf hfe w
               simp only [execOp,Sem.run_bind,hr,Result.andThen_ok,invoke]
               rw [callFunc_run hent]
               congr 2
               apply Array.ext'
               simp
              refine wp_enter (R:=fun v w''=>∃ ρ':Ren,ρ.le ρ' /\ (∀ j,j ≠ id->ρ' j=ρ j) /\ Rv ρ' r1 v /\ RW F ρ' ((id,some B1) :: h) w'') hrun (Calls.mono hcall ?_) ?_
              . rintro e w' ⟨v,ρ',rfl,h1,h2,h3,h4⟩
                exact ⟨v,rfl,ρ',h1,h2,h3,h4⟩
              . rintro v w'' ⟨ρ',h1,h2,h3,h4⟩
                exact hK v w'' ρ' h1 h2 h3 h4
            . split at he
              . rename_i g hg
                replace he:g (maps ev c.args.toList) h id=some (true,r,ups):=by
                 split at he
                 . exact he
                 . split at he
                   . rename_i c1 r1 u1 h1
                     split at he
                     . rw [h1];exact he
                     . cases he
                   . cases he
                obtain ⟨hent,hok⟩:=(hE.act f' g hg)
                have hfe:a.eval (.func f')=.func (.func f') #[] #[]:=rfl
                have hcall:=hok.run F ρ _ _ h id r ups w he (Rvs.maps hev c.args.toList) hw hidR
                have hrun:(execOp a.eval { dst,op:=.call c,type,pos,after,guard }).run P w=.ok (.enter f' (c.args.toList.map a.eval).toArray) w:=by
                 have hr:=resolve_value (P:=P) (type:=type) hf hfe w
                 simp only [execOp,Sem.run_bind,hr,Result.andThen_ok,invoke]
                 rw [callFunc_run hent]
                 congr 2
                 apply Array.ext'
                 simp
                refine wp_enter (R:=fun v w''=>∃ ρ':Ren,ρ.le ρ' /\ (∀ j,¬ inR id E.kk j->ρ' j=ρ j) /\ Rv ρ' r v /\ RW F ρ' (ups ++ h) w'') hrun (Calls.mono hcall ?_) ?_
                . rintro e w' ⟨v,ρ',rfl,h1,h2,h3,h4⟩
                  exact ⟨v,rfl,ρ',h1,h2,h3,h4⟩
                . rintro v w'' ⟨ρ',h1,h2,h3,h4⟩
                  exact hKR v w'' ρ' h1 h2 h3 h4
              . cases he
        . split at he
          . cases he
          . split at he
            . rename_i g hg
              obtain ⟨hent,hok⟩:=(hE.act fid g hg)
              have hcall:=hok.run F ρ _ _ h id r ups w he hargs hw hidR
              have hrun:(execOp a.eval { dst,op:=.call c,type,pos,after,guard }).run P w=.ok (.enter fid (xs.toList ++ (c.args.toList.map a.eval ++ ys.toList)).toArray) w:=by
               have hr:=resolve_value (P:=P) (type:=type) hf hv w
               simp only [execOp,Sem.run_bind,hr,Result.andThen_ok,invoke]
               rw [callFunc_run hent]
               congr 2
               apply Array.ext'
               simp
              refine wp_enter (R:=fun v w''=>∃ ρ':Ren,ρ.le ρ' /\ (∀ j,¬ inR id E.kk j->ρ' j=ρ j) /\ Rv ρ' r v /\ RW F ρ' (ups ++ h) w'') hrun (Calls.mono hcall ?_) ?_
              . rintro e w' ⟨v,ρ',rfl,h1,h2,h3,h4⟩
                exact ⟨v,rfl,ρ',h1,h2,h3,h4⟩
              . rintro v w'' ⟨ρ',h1,h2,h3,h4⟩
                exact hKR v w'' ρ' h1 h2 h3 h4
            . cases he
    . cases he
  . rename_i hb
    split at he
    . rename_i r' hr
      simp at he
      obtain ⟨rfl,rfl⟩:=he
      unfold effLen at hr
      have hlen:∀ n:Nat,(∃ t x ts xs,c.argTypes.toList=t :: ts /\ c.args.toList=x :: xs /\ (Builtin.len_ c.argTypes type (c.args.map a.eval)).run P w=.ok (.int .i64 n) w) ->
       Rv ρ r' (.int .i64 n)->Oper.wp P { dst,op:=.call c,type,pos,after,guard } a w K Q:=by
       rintro n ⟨t,x,ts,xs,e1,e2,e3⟩ hrv
       refine wp_value (v:=.int .i64 n) (w':=w) ?_ (hK _ w ρ (Ren.le_refl _) (fun _ _=>rfl) hrv hw)
       simp only [execOp,Sem.run_bind,resolve,hb,Sem.run_pure,Result.andThen_ok,invoke,builtin,e3]
      split at hr
      . rename_i x xs t ts e1 e2
        have a0:c.argTypes[0]?=some t:=by rw [<- Array.getElem?_toList,e2];rfl
        have a1:c.args[0]?=some x:=by rw [<- Array.getElem?_toList,e1];rfl
        split at hr
        . rename_i u id' off len cap hu hx
          simp at hr;subst hr
          have:=hev x;rw [hx] at this
          generalize hv:a.eval x=v at this
          cases this with
          | slc hb'=>exact hlen len ⟨t,x,ts,xs,e2,e1,by simp [Builtin.len_,a0,a1,run_underlying hu,hv,goInt]⟩ (.v _)
        . rename_i u id' es k len hu hx
          simp at hr;subst hr
          have:=hev x;rw [hx] at this
          generalize hv:a.eval x=v at this
          cases this with
          | own hb' _ _ _ _=>exact hlen len ⟨t,x,ts,xs,e2,e1,by simp [Builtin.len_,a0,a1,run_underlying hu,hv,goInt]⟩ (.v _)
          | ownE hb' _=>exact hlen 0 ⟨t,x,ts,xs,e2,e1,by simp [Builtin.len_,a0,a1,run_underlying hu,hv,goInt]⟩ (.v _)
        . rename_i u ad len cap hu hx
          simp at hr;subst hr
          have:=hev x;rw [hx] at this
          generalize hv:a.eval x=v at this
          cases this
          exact hlen len ⟨t,x,ts,xs,e2,e1,by simp [Builtin.len_,a0,a1,run_underlying hu,hv,goInt]⟩ (.v _)
        . rename_i n u hu
          simp at hr;subst hr
          exact hlen n ⟨t,x,ts,xs,e2,e1,by simp [Builtin.len_,a0,a1,run_underlying hu,goInt]⟩ (.v _)
        . rename_i s hu hx
          simp at hr;subst hr
          have:=hev x;rw [hx] at this
          generalize hv:a.eval x=v at this
          cases this
          exact hlen s.size ⟨t,x,ts,xs,e2,e1,by simp [Builtin.len_,a0,a1,run_underlying hu,hv,goInt]⟩ (.v _)
        . cases hr
      . cases hr
    . cases he
  . rename_i hb
    obtain ⟨v,w',ρ',h1,h2,h3,h4,h5⟩:∃ v w' ρ',(Builtin.append_ c.argTypes type (c.args.map a.eval)).run P w=.ok v w' /\ ρ.le ρ' /\ (∀ j,j ≠ id->ρ' j=ρ j) /\ Rv ρ' r v /\ RW F ρ' (ups ++ h) w':=by
     rcases effAppendF_cases he with he | ⟨r',hr',he⟩
     . exact append_sim he hev hw hid type
     . simp only [Prod.mk.injEq] at he
       obtain ⟨-,rfl,rfl⟩:=he
       obtain ⟨v,h1,h2⟩:=appendNil_sim (w:=w) hr' hev type
       exact ⟨v,w,ρ,h1,Ren.le_refl _,fun _ _=>rfl,h2,hw⟩
    refine wp_value (v:=v) (w':=w') ?_ (hK v w' ρ' h2 h3 h4 h5)
    simp only [execOp,Sem.run_bind,resolve,hb,Sem.run_pure,Result.andThen_ok,invoke,builtin,h1]
  . rename_i hb
    split at he
    . rename_i r' hr
      simp at he
      obtain ⟨rfl,rfl⟩:=he
      unfold effMax at hr
      split at hr
      . cases hr
      . rename_i vs hvs
        split at hr
        . cases hr
        . rename_i y hy
          simp at hr;subst hr
          have ea:c.args.map a.eval=vs.toArray:=by
           apply Array.ext'
           rw [Array.toList_map,flatAll_run (Rvs.maps hev c.args.toList) hvs]
          have hrun:(Builtin.max_ c.argTypes type (c.args.map a.eval)).run P w=.ok y w:=by
           rw [ea];exact pureRun_run hy w
          refine wp_value (v:=y) (w':=w) ?_ (hK _ w ρ (Ren.le_refl _) (fun _ _=>rfl) (.v _) hw)
          simp only [execOp,Sem.run_bind,resolve,hb,Sem.run_pure,Result.andThen_ok,invoke,builtin,hrun]
    . cases he
  . rename_i hb
    split at he
    . rename_i r' hr
      simp at he
      obtain ⟨rfl,rfl⟩:=he
      unfold effMin at hr
      split at hr
      . cases hr
      . rename_i vs hvs
        split at hr
        . cases hr
        . rename_i y hy
          simp at hr;subst hr
          have ea:c.args.map a.eval=vs.toArray:=by
           apply Array.ext'
           rw [Array.toList_map,flatAll_run (Rvs.maps hev c.args.toList) hvs]
          have hrun:(Builtin.min_ c.argTypes type (c.args.map a.eval)).run P w=.ok y w:=by
           rw [ea];exact pureRun_run hy w
          refine wp_value (v:=y) (w':=w) ?_ (hK _ w ρ (Ren.le_refl _) (fun _ _=>rfl) (.v _) hw)
          simp only [execOp,Sem.run_bind,resolve,hb,Sem.run_pure,Result.andThen_ok,invoke,builtin,hrun]
    . cases he
  . rename_i hb
    obtain ⟨v,w',h1,h2,h3⟩:=copy_sim he hev hw type
    refine wp_value (v:=v) (w':=w') ?_ (hK v w' ρ (Ren.le_refl _) (fun _ _=>rfl) h2 h3)
    simp only [execOp,Sem.run_bind,resolve,hb,Sem.run_pure,Result.andThen_ok,invoke,builtin,h1]
  . rename_i hb
    split at he
    . rename_i r' hr
      simp at he
      obtain ⟨rfl,rfl⟩:=he
      unfold effCap at hr
      split at hr
      . rename_i x xs t ts e1 e2
        have a0:c.argTypes[0]?=some t:=by rw [<- Array.getElem?_toList,e2];rfl
        have a1:c.args[0]?=some x:=by rw [<- Array.getElem?_toList,e1];rfl
        split at hr
        . rename_i u id' off len cap hu hx
          simp at hr;subst hr
          have:=hev x;rw [hx] at this
          generalize hv:a.eval x=v at this
          cases this with
          | slc hb' =>
           refine wp_value (v:=.int .i64 cap) (w':=w) ?_ (hK _ w ρ (Ren.le_refl _) (fun _ _=>rfl) (.v _) hw)
           simp [execOp,resolve,hb,invoke,builtin,Builtin.cap_,a0,a1,run_underlying hu,hv,goInt]
        . rename_i u ad len cap hu hx
          simp at hr;subst hr
          have:=hev x;rw [hx] at this
          generalize hv:a.eval x=v at this
          cases this
          refine wp_value (v:=.int .i64 cap) (w':=w) ?_ (hK _ w ρ (Ren.le_refl _) (fun _ _=>rfl) (.v _) hw)
          simp [execOp,resolve,hb,invoke,builtin,Builtin.cap_,a0,a1,run_underlying hu,hv,goInt]
        . cases hr
      . cases hr
    . cases he
  . cases he
 | convert s d x =>
  simp only [effOp] at he
  split at he
  . rename_i hmk
    unfold isMark at hmk
    simp only [Bool.and_eq_true] at hmk
    obtain ⟨w',ρ',h1,h2,h3,h4,h5⟩:=effMark_run hw hid hmk.1.2 he (hev x)
    exact wp_value (v:=a.eval x) (w':=w') (by simp only [execOp,Sem.run_bind,h1,Result.andThen_ok,Sem.run_pure];try rfl) (hK (a.eval x) w' ρ' h2 h3 h4 h5)
  split at he
  . split at he
    . rename_i r' hr
      simp at he
      obtain ⟨rfl,rfl⟩:=he
      obtain ⟨u,h1,h2⟩:=effStr_run hw hr (hev x)
      exact wp_value (v:=u) (w':=w) (by simp only [execOp,Sem.run_bind,h1,Result.andThen_ok,Sem.run_pure];try rfl) (hK u w ρ (Ren.le_refl _) (fun _ _=>rfl) h2 hw)
    . cases he
  . split at he
    . rename_i q hq
      simp only [Option.some.injEq] at he
      subst he
      obtain ⟨u,w',ρ',h1,h2,h3,h4,h5⟩:=effBytes_run hw hid hq (hev x)
      exact wp_value (v:=u) (w':=w') (by simp only [execOp,Sem.run_bind,h1,Result.andThen_ok,Sem.run_pure];try rfl) (hK u w' ρ' h2 h3 h4 h5)
    . split at he
      . rename_i c r' hp
        simp at he
        obtain ⟨rfl,rfl,rfl⟩:=he
        exact pureCase true hp rfl rfl
      . cases he
 | _ =>
  simp only [effOp] at he
  split at he
  . rename_i c r' hp
    simp at he
    obtain ⟨rfl,rfl,rfl⟩:=he
    exact pureCase true hp rfl rfl
  . cases he
structure St where
 tm:List AV
 h:AH
 ok:Bool
structure Eff where
 c:Bool
 d:Option Tmp
 r:AV
 ups:AH
def putA (tm:List AV):Option Tmp->AV->List AV
 | some d,v=>tm.set d v
 | none,_=>tm
def St.put (s:St) (e:Eff):St:=⟨putA s.tm e.d e.r,e.ups ++ s.h,e.c && s.ok⟩
def wantedA (ops:Array Oper) (tm:List AV) (o:Oper):Option Bool :=
 match o.guard with
 | none=>some true
 | some (j,want)=>match (ops.toList[j]?).bind (·.dst) with
  | none=>some false
  | some d=>match tm[d]? with
   | none=>some false
   | some (.lit b)=>some (b == want)
   | some (.v (.bool b))=>some (b == want)
   | some (.v (.tuple _))=>some false
   | _=>none
def tauEq:Option Nat->AV->Bool
 | some id,.ptr j _=>Nat.beq id j
 | _,_=>false
def tauOwn:Option Nat->AV->Bool
 | none,_=>true
 | some id,.own j _ _ _=>Nat.beq id j
 | some _,.v (.slice none 0 0)=>true
 | some _,.slc _ _ _ _=>true
 | some _,_=>false
def appArg:Op->Option Operand
 | .call c=>match c.callee with
  | .builtin .append=>match c.args.toList with
   | s :: _=>some s
   | []=>none
  | _=>none
 | _=>none
def rdArgs (E:Env):Op->Option (List Operand)
 | .call c=>match c.callee with
  | .value (.func f)=>match E.pure f with
   | some _=>none
   | none=>match E.heap f with
    | some _=>match memN f E.ro with
     | true=>some c.args.toList
     | false=>none
    | none=>none
  | _=>none
 | _=>none
def strArg (E:Env):Op->Option Operand
 | .convert s d a=>match inL d E.strT && !Nat.beq s d with
  | true=>some a
  | false=>none
 | _=>none
def mvArg (E:Env):Op->Option Operand
 | .convert s d a=>match E.dyn && Nat.beq s d with
  | true=>some a
  | false=>none
 | _=>none
def tauSl:Option Nat->AV->Bool
 | none,_=>true
 | some m,.slc i _ _ _=>Nat.beq i m
 | some m,.own i _ _ _=>Nat.beq i m
 | some _,_=>false
def allEq (m:Nat):List Nat->Bool
 | []=>true
 | i :: t=>Nat.beq i m && allEq m t
def tauIds:Option Nat->List AV->Bool
 | none,_=>true
 | some m,as=>allEq m (idsOf as)
def tauOk (E:Env) (i:Nat) (op:Op) (ev:Operand->AV):Bool :=
 match E.tau with
 | none=>true
 | some l=>match op with
  | .load _ a=>tauEq (l.getD i none) (ev a)
  | .store _ a _=>tauEq (l.getD i none) (ev a)
  | op=>match appArg op with
   | some s=>tauOwn (l.getD i none) (ev s)
   | none=>match strArg E op with
    | some a=>tauSl (l.getD i none) (ev a)
    | none=>match rdArgs E op with
     | some as=>tauIds (l.getD i none) (maps ev as)
     | none=>match mvArg E op with
      | some a=>tauSl (l.getD i none) (ev a)
      | none=>true
def isAct (E:Env):Op->Bool
 | .call c=>match c.callee with
  | .value (.func f)=>match E.pure f with
   | some _=>false
   | none=>match E.heap f with
    | some _=>false
    | none=>match E.lay f with
     | some _=>false
     | none=>match E.act f with
      | some _=>!memN f E.ro
      | none=>false
  | _=>false
 | _=>false
def notIn (l:List (Option Nat)) (i:Nat):Bool:=match l with
 | []=>true
 | some j :: t=>!Nat.beq i j && notIn t i
 | none :: t=>notIn t i
def upsOut (l:List (Option Nat)):AH->Bool
 | []=>true
 | p :: t=>notIn l p.1 && upsOut l t
def upsOk (E:Env) (op:Op) (ups:AH):Bool:=match E.tau with
 | none=>true
 | some l=>match isAct E op with
  | true=>upsOut l ups
  | false=>true
def effT (P:Program) (E:Env) (ev:Operand->AV) (h:AH) (id:Nat) (op:Op):Option (Bool × AV × AH) :=
 match effOp P E ev h id op with
 | none=>none
 | some (c,r,ups)=>match upsOk E op ups with
  | true=>some (c,r,ups)
  | false=>none
theorem effT_spec {P:Program} {E:Env} {ev:Operand->AV} {h:AH} {id:Nat} {op:Op} {c:Bool} {r:AV} {ups:AH} (e:effT P E ev h id op=some (c,r,ups)):effOp P E ev h id op=some (c,r,ups) /\ upsOk E op ups=true:=by
 unfold effT at e
 split at e
 . cases e
 . rename_i c' r' u' h1
   split at e
   . rename_i h2
     simp only [Option.some.injEq,Prod.mk.injEq] at e
     obtain ⟨rfl,rfl,rfl⟩:=e
     exact ⟨h1,h2⟩
   . cases e
theorem effT_mk {P:Program} {E:Env} {ev:Operand->AV} {h:AH} {id:Nat} {op:Op} {c:Bool} {r:AV} {ups:AH} (e:effOp P E ev h id op=some (c,r,ups)) (k:upsOk E op ups=true):effT P E ev h id op=some (c,r,ups):=by
 unfold effT;rw [e];simp only [k]
theorem effT_of {P:Program} {E:Env} {ev ev':Operand->AV} {h h':AH} {id:Nat} {op:Op} (e:effOp P E ev h id op=effOp P E ev' h' id op):effT P E ev h id op=effT P E ev' h' id op:=by
 unfold effT;rw [e]
theorem effT_to {P:Program} {E:Env} {ev ev':Operand->AV} {h h':AH} {id:Nat} {op:Op} (e:∀ x,effOp P E ev h id op=some x->effOp P E ev' h' id op=some x) {x:Bool × AV × AH} (k:effT P E ev h id op=some x):effT P E ev' h' id op=some x:=by
 obtain ⟨c,r,u⟩:=x
 obtain ⟨h1,h2⟩:=effT_spec k
 exact effT_mk (e _ h1) h2
def eff (P:Program) (E:Env) (γ:Nat->Option Bool) (base:Nat) (ops:Array Oper) (i:Nat) (tm:List AV) (h:AH):Option Eff :=
 match ops.toList[i]? with
 | none=>none
 | some o=>match wantedA ops tm o with
  | none=>none
  | some false=>some ⟨true,o.dst,.v undef,[]⟩
  | some true=>match tauOk E i o.op (look tm) with
   | false=>none
   | true=>match effT P E (look tm) h (base+E.kk*i) o.op with
    | none=>none
    | some (c,r,ups)=>match γ i with
     | none=>some ⟨c,o.dst,r,ups⟩
     | some b=>match r with
      | .lit b'=>some ⟨c && (b' == b),o.dst,.lit b,ups⟩
      | .v (.bool g)=>some ⟨c && (g == b),o.dst,.lit b,ups⟩
      | _=>none
def runL (P:Program) (E:Env) (γ:Nat->Option Bool) (base:Nat) (ops:Array Oper):List Nat->St->Option St
 | [],s=>some s
 | i :: t,s=>match eff P E γ base ops i s.tm s.h with
  | none=>none
  | some e=>runL P E γ base ops t (s.put e)
structure Sim (F:Fr) (ds:List Deferred) (ρ:Ren) (s:St) (a:Act) (w:World):Prop where
 tm:Rvs ρ s.tm a.tmps.toList
 h:RW F ρ s.h w
 ds:a.defers=ds
theorem look_ok {ρ:Ren} {tm:List AV} {a:Act} (h:Rvs ρ tm a.tmps.toList):EvOk ρ (look tm) a.eval:=by
 intro x
 cases x with
 | tmp t =>
  simp only [look,Act.eval]
  cases ht:tm[t]? with
  | none=>simp [List.getD,ht];exact .any _
  | some b =>
   obtain ⟨v,hv,hb⟩:=h.getD ht
   have hv':a.tmps[t]?=some v:=by simpa using hv
   simp [List.getD,ht,hv',hb]
 | const v =>
  exact .constA _
 | global g=>exact .v _
 | func f=>exact .fn (by simp) (fun i a x h=>by simp at h) (by simp) (fun i a x h=>by simp at h)
theorem Rvs.put {ρ:Ren} {tm:List AV} {a:Act} {r:AV} {v:Value} (h:Rvs ρ tm a.tmps.toList) (hr:Rv ρ r v) (d:Option Tmp) :
 Rvs ρ (putA tm d r) (a.put d v).tmps.toList:=by
 cases d with
 | none=>exact h
 | some d=>simpa [putA,Act.put] using h.set hr d
theorem Act.put_defers' (a:Act) (d:Option Tmp) (v:Value):(a.put d v).defers=a.defers:=by cases d <;> rfl
theorem wantedA_ok {ρ:Ren} {ops:Array Oper} {tm:List AV} {a:Act} {o:Oper} {b:Bool} (h:Rvs ρ tm a.tmps.toList) (hw:wantedA ops tm o=some b) :
 Region.wanted o (yielded ops a.tmps)=b:=by
 unfold wantedA at hw
 unfold Region.wanted
 split at hw
 . rename_i hg;simp at hw;subst hw;simp [hg]
 . rename_i j want hg
   simp only [hg]
   have hy:(ops.toList[j]?).bind (·.dst)=(ops[j]?).bind (·.dst):=by simp
   rw [hy] at hw
   split at hw
   . rename_i hn;simp at hw;subst hw;simp [yielded,hn]
   . rename_i d hd
     split at hw
     . rename_i ht
       simp at hw;subst hw
       have:a.tmps[d]?=none:=by
        have:=h.1
        rw [Array.getElem?_eq_none_iff,<- Array.length_toList,<- this]
        exact List.getElem?_eq_none_iff.1 ht
       simp [yielded,hd,this]
     . rename_i b' ht
       simp at hw;subst hw
       obtain ⟨v,hv,hb⟩:=h.getD ht
       cases hb
       have hv':a.tmps[d]?=some (.bool b'):=by simpa using hv
       simp [yielded,hd,hv']
     . rename_i b' ht
       simp at hw;subst hw
       obtain ⟨v,hv,hb⟩:=h.getD ht
       cases hb
       have hv':a.tmps[d]?=some (.bool b'):=by simpa using hv
       simp [yielded,hd,hv']
     . rename_i vs ht
       simp at hw;subst hw
       obtain ⟨v,hv,hb⟩:=h.getD ht
       cases hb
       have hv':a.tmps[d]?=some (.tuple vs):=by simpa using hv
       simp [yielded,hd,hv']
     . cases hw
theorem step_sim {P:Program} {E:Env} (hE:EnvOk P E) {F:Fr} {ds:List Deferred} {ρ:Ren} {γ:Nat->Option Bool} {base:Nat} {ops:Array Oper} {i:Nat} {s:St} {e:Eff} {a:Act} {w:World}
 (he:eff P E γ base ops i s.tm s.h=some e) (hc:e.c=true) (hs:Sim F ds ρ s a w) (hid:freeR ρ (base+E.kk*i) E.kk) {K:Act->World->Prop} {Q:Exit->Act->World->Prop}
 (hK:∀ a' w' ρ',ρ.le ρ'->(∀ j,¬ inR (base+E.kk*i) E.kk j->ρ' j=ρ j)->Sim F ds ρ' (s.put e) a' w'->K a' w'):wpOp P ops Q i K a w:=by
 unfold eff at he
 unfold wpOp
 have hget:ops.toList[i]?=ops[i]?:=by simp
 rw [hget] at he
 split at he
 . cases he
 . rename_i o ho
   simp only [ho]
   split at he
   . cases he
   . rename_i hw
     have hw':=wantedA_ok hs.tm hw
     simp at he;subst he
     rw [if_neg (by rw [hw'];simp)]
     exact hK _ _ ρ (Ren.le_refl _) (fun _ _=>rfl) ⟨hs.tm.put (.v _) _,hs.h,by rw [Act.put_defers'];exact hs.ds⟩
   . rename_i hw
     have hw':=wantedA_ok hs.tm hw
     rw [if_pos hw']
     left
     split at he
     . cases he
     split at he
     . cases he
     . rename_i c r ups hop
       have hop:=(effT_spec hop).1
       have main:c=true->∀ r',(∀ ρ' v,Rv ρ' r v->Rv ρ' r' v)->e=⟨e.c,o.dst,r',ups⟩->o.wp P a w K Q:=by
        intro hct r' hr' hee
        subst hct
        refine effOp_sim hE hop (look_ok hs.tm) hs.h hid ?_
        intro v w' ρ' hle hne hrv hrw
        refine hK _ _ ρ' hle hne ?_
        rw [hee]
        exact ⟨(hs.tm.mono hle).put (hr' _ _ hrv) _,hrw,by rw [Act.put_defers'];exact hs.ds⟩
       split at he
       . simp at he;subst he
         exact main hc r (fun _ _ h=>h) rfl
       . rename_i b _
         split at he
         . rename_i b'
           simp at he;subst he
           simp only [Bool.and_eq_true,beq_iff_eq] at hc
           obtain ⟨h1,h2⟩:=hc
           exact main h1 (.lit b) (fun _ _ h=>by rw [<- h2];exact h) rfl
         . rename_i g
           simp at he;subst he
           simp only [Bool.and_eq_true,beq_iff_eq] at hc
           obtain ⟨h1,h2⟩:=hc
           exact main h1 (.lit b) (fun _ _ h=>by cases h;rw [<- h2];exact .lit _) rfl
         . cases he
structure Eqv (s t:St):Prop where
 tm:s.tm=t.tm
 h:∀ id,s.h.get id=t.h.get id
 ok:s.ok=t.ok
theorem Eqv.refl (s:St):Eqv s s:=⟨rfl,fun _=>rfl,rfl⟩
theorem Eqv.symm {s t:St} (h:Eqv s t):Eqv t s:=⟨h.tm.symm,fun id=>(h.h id).symm,h.ok.symm⟩
theorem Eqv.trans {s t u:St} (h:Eqv s t) (k:Eqv t u):Eqv s u:=⟨h.tm.trans k.tm,fun id=>(h.h id).trans (k.h id),h.ok.trans k.ok⟩
theorem Sim.eqv {F:Fr} {ds:List Deferred} {ρ:Ren} {s t:St} {a:Act} {w:World} (h:Sim F ds ρ s a w) (e:Eqv s t):Sim F ds ρ t a w :=
 ⟨by rw [<- e.tm];exact h.tm,h.h.congr fun id=>(e.h id).symm,h.ds⟩
theorem AH.get_append (u h:AH) (id:Nat):AH.get (u ++ h) id=if (∃ p ∈ u,p.1=id) then AH.get u id else AH.get h id:=by
 induction u with
 | nil=>simp
 | cons p t ih =>
  obtain ⟨i,b⟩:=p
  rw [List.cons_append,AH.get_cons,AH.get_cons,ih]
  by_cases hi:i=id
  . simp [hi]
  . have e:(∃ p,p ∈ (i,b) :: t /\ p.1=id) ↔ (∃ p,p ∈ t /\ p.1=id):=by
     constructor
     . rintro ⟨p,hp,rfl⟩
       rcases List.mem_cons.1 hp with rfl | hp
       . exact absurd rfl hi
       . exact ⟨p,hp,rfl⟩
     . rintro ⟨p,hp,rfl⟩;exact ⟨p,List.mem_cons_of_mem _ hp,rfl⟩
    simp only [hi,if_false,e]
theorem AH.get_append_congr {u h h':AH} (e:∀ id,h.get id=h'.get id) (id:Nat):AH.get (u ++ h) id=AH.get (u ++ h') id:=by
 rw [AH.get_append,AH.get_append,e]
def named:AV->Nat->Prop
 | .slc i _ _ _,j=>i=j
 | .own i _ _ _,j=>i=j
 | .mp i,j=>i=j
 | _,_=>False
theorem sliceCells_cong {size:Nat} {h h':AH} {a:AV} {x:Nat × List AV} (hh:∀ i B,named a i->h.get i=some B->h'.get i=some B) (e:sliceCells size h a=some x):sliceCells size h' a=some x:=by
 unfold sliceCells at e ⊢
 split at e
 . split at e
   . cases e
   . rename_i B hB;simp only [getC_mono (hh _ · rfl) hB];exact e
 . split at e
   . cases e
   . rename_i hes
     split at e
     . cases e
     . rename_i B hB;simp only [getC_mono (hh _ · rfl) hB];exact e
 . cases e
theorem appendTo_cong {h h':AH} {id:Nat} {e:TypeId} {size bytes m:Nat} {news:List AV} {a:AV} {x:Bool × AV × AH} (hh:∀ i B,named a i->h.get i=some B->h'.get i=some B)
 (he:appendTo h id e size bytes m news a=some x):appendTo h' id e size bytes m news a=some x:=by
 unfold appendTo at he ⊢
 split at he
 . exact he
 . split at he
   . cases he
   . rename_i B hB
     simp only [getC_mono (hh _ · rfl) hB];exact he
 . split at he
   . cases he
   . rename_i B hB
     simp only [getC_mono (hh _ · rfl) hB];exact he
 . cases he
theorem effAppendZ_cong {P:Program} {h h':AH} {id:Nat} {t t':TypeId} {a y:AV} {x:Bool × AV × AH} (hh:∀ i B,named a i->h.get i=some B->h'.get i=some B)
 (he:effAppendZ P h id t t' a y=some x):effAppendZ P h' id t t' a y=some x:=by
 unfold effAppendZ at he ⊢
 split at he
 . rename_i hu hk hfx
   try simp only [hu,hk,hfx]
   split at he
   . rename_i ti B hi hB
     have hB':=getC_mono (hh _ · rfl) hB
     simp only [hi,hB']
     exact he
   . cases he
 . cases he
theorem effAppendT_cong {P:Program} {h h':AH} {id:Nat} {t t':TypeId} {a y:AV} {x:Bool × AV × AH} (hh:∀ i B,named a i->h.get i=some B->h'.get i=some B)
 (he:effAppendT P h id t t' a y=some x):effAppendT P h' id t t' a y=some x:=by
 unfold effAppendT at he ⊢
 split at he
 case h_2=>cases he
 rename_i e s i es k n hu hk
 try simp only [hu,hk]
 split at he
 case h_2=>cases he
 rename_i ti hi
 try simp only [hi]
 split at he
 case h_2=>cases he
 rename_i z hz
 try simp only [hz]
 cases hb:(Nat.beq z.cells.size ti.size && (Nat.beq ti.size 1 && Nat.beq k 0)) with
 | false=>rw [hb] at he;cases he
 | true =>
  rw [hb,cond_true] at he
  rw [cond_true]
  exact appendTo_cong (a:=.own i es 0 n) (fun j B hj=>hh j B hj) he
theorem effAppendO_cong {P:Program} {h h':AH} {id:Nat} {t t':TypeId} {a y:AV} {x:Bool × AV × AH} (hh:∀ i B,named a i->h.get i=some B->h'.get i=some B)
 (he:effAppendO P h id t t' a y=some x):effAppendO P h' id t t' a y=some x:=by
 unfold effAppendO at he ⊢
 split at he
 . exact effAppendT_cong hh he
 . exact effAppendZ_cong hh he
theorem effAppend_cong {P:Program} {ev:Operand->AV} {h h':AH} {id:Nat} {c:Call} {x:Bool × AV × AH} (hh:∀ y i B,named (ev y) i->h.get i=some B->h'.get i=some B)
 (he:effAppend P ev h id c=some x):effAppend P ev h' id c=some x:=by
 unfold effAppend at he ⊢
 split at he
 case h_2=>cases he
 rename_i s y t t' ha ht
 try simp only [ha,ht]
 split at he
 . rename_i htt
   try simp only [htt]
   exact effAppendO_cong (hh s) he
 rename_i htt
 try simp only [htt]
 split at he
 case h_2=>cases he
 rename_i e hu
 try simp only [hu]
 split at he
 . cases he
 rename_i i hi
 try simp only [hi]
 split at he
 . cases he
 rename_i z hz
 try simp only [hz]
 split at he
 . cases he
 rename_i m news hn
 simp only [sliceCells_cong (hh y) hn]
 cases hb:(allOne news && (Nat.beq z.cells.size i.size && Nat.blt 0 i.size)) with
 | false=>rw [hb] at he;cases he
 | true =>
  rw [hb,cond_true] at he
  rw [cond_true]
  exact appendTo_cong (hh s) he
theorem effCopy_cong {P:Program} {ev:Operand->AV} {h h':AH} {c:Call} {x:Bool × AV × AH} (hh:∀ y i B,named (ev y) i->h.get i=some B->h'.get i=some B)
 (he:effCopy P ev h c=some x):effCopy P ev h' c=some x:=by
 unfold effCopy at he ⊢
 split at he
 . rename_i d s t ts ea et
   try simp only [ea,et]
   split at he
   . rename_i e i off dl cap hu hd
     try simp only [hu,hd]
     split at he
     . rename_i n B hn hB
       try simp only [hn]
       have hB':=getC_mono (hh d i · (by rw [hd];rfl)) hB
       simp only [hB']
       split at he
       . rename_i m cs hm
         simp only [sliceCells_cong (hh s) hm]
         exact he
       . cases he
     . cases he
   . cases he
 . cases he
theorem effMark_cong {P:Program} {id:Nat} {h h':AH} {s:TypeId} {a:AV} {x:Bool × AV × AH} (hh:∀ i B,named a i->h.get i=some B->h'.get i=some B) (he:effMark P id h s a=some x):effMark P id h' s a=some x:=by
 unfold effMark at he ⊢
 split at he
 case h_2=>cases he
 rename_i e hs
 split at he
 case h_2=>cases he
 rename_i hb
 split at he
 case h_2=>cases he
 rename_i i hi
 split at he
 case h_2=>cases he
 rename_i B hB
 have hn:named a i:=by
  unfold slName at hi
  split at hi
  . simp at hi;subst hi;rfl
  . simp at hi;subst hi;rfl
  . cases hi
 simp only [getC_mono (hh i · hn) hB]
 exact he
theorem effStr_cong {P:Program} {h h':AH} {s d:TypeId} {a r:AV} (hh:∀ i B,named a i->h.get i=some B->h'.get i=some B) (he:effStr P h s d a=some r):effStr P h' s d a=some r:=by
 unfold effStr at he ⊢
 split at he
 . rename_i e hs hd
   split at he
   . rename_i hb
     split at he
     . cases he
     . rename_i m l hl
       simp only [sliceCells_cong hh hl];exact he
   . cases he
 . cases he
theorem effOp_mono {P:Program} {E:Env} (hE:EnvOk P E) {ev:Operand->AV} {h h':AH} {id:Nat} {op:Op} {x:Bool × AV × AH}
 (hh:∀ id B,h.get id=some B->h'.get id=some B) (he:effOp P E ev h id op=some x):effOp P E ev h' id op=some x:=by
 cases op with
 | load t a =>
  simp only [effOp] at he ⊢
  split at he
  . rename_i i off hx
    split at he
    . rename_i B hB;simp only [getC_mono (hh _) hB];exact he
    . cases he
  . exact he
  . cases he
 | store t a y =>
  simp only [effOp] at he ⊢
  split at he
  . rename_i i off hx
    split at he
    . rename_i B hB;simp only [getC_mono (hh _) hB];exact he
    . cases he
  . cases he
 | lookup t x ix ok =>
  simp only [effOp] at he ⊢
  split at he
  . rename_i r hr
    simp only [lookupA_cong (fun i B _ hB=>hh i B hB) hr];exact he
  . cases he
 | mapUpdate t m k x =>
  simp only [effOp] at he ⊢
  split at he
  . rename_i i B hr
    simp only [updateA_cong (fun i B _ hB=>hh i B hB) hr];exact he
  . cases he
 | call c =>
  simp only [effOp] at he ⊢
  split at he
  . rename_i f hf
    unfold effCall at he ⊢
    split at he
    . rename_i fid as bs hfv
      try simp only [hfv]
      split at he
      . exact he
      . rename_i hg
        split at he
        . rename_i f'
          split at he
          . rename_i g hg'
            split at he
            . exact (hE.heap _ g hg').2.mono _ _ _ _ hh he
            . split at he
              . rename_i c1 r1 h1
                simp only [(hE.heap _ g hg').2.mono _ _ _ _ hh h1]
                exact he
              . cases he
          . split at he
            . exact he
            . split at he
              . rename_i g hg'
                split at he
                . exact (hE.act _ g hg').2.mono _ _ _ _ _ hh he
                . split at he
                  . rename_i c1 r1 u1 h1
                    simp only [(hE.act _ g hg').2.mono _ _ _ _ _ hh h1]
                    exact he
                  . cases he
              . cases he
        . split at he
          . cases he
          . rename_i hd
            split at he
            . rename_i g hga
              exact (hE.act _ g hga).2.mono _ _ _ _ _ hh he
            . cases he
    . cases he
  . exact he
  . exact effAppendF_to (effAppend_cong (fun _ i B _ hB=>hh i B hB)) he
  . exact he
  . exact he
  . exact effCopy_cong (fun _ i B _ hB=>hh i B hB) he
  . exact he
  . cases he
 | convert s d x =>
  simp only [effOp] at he ⊢
  split at he
  . exact effMark_cong (fun i B _ hB=>hh i B hB) he
  split at he
  . split at he
    . rename_i r hr
      simp only [effStr_cong (fun i B _ hB=>hh i B hB) hr];exact he
    . cases he
  . exact he
 | _=>exact he
theorem effOp_congr_h {P:Program} {E:Env} (hE:EnvOk P E) {ev:Operand->AV} {h h':AH} {id:Nat} {op:Op}
 (hh:∀ id,h.get id=h'.get id):effOp P E ev h id op=effOp P E ev h' id op:=by
 cases he:effOp P E ev h id op with
 | some x=>exact (effOp_mono hE (fun i B hB=>by rw [<- hh];exact hB) he).symm
 | none =>
  cases he':effOp P E ev h' id op with
  | none=>rfl
  | some x=>rw [effOp_mono hE (fun i B hB=>by rw [hh];exact hB) he'] at he;cases he
theorem eff_congr_h {P:Program} {E:Env} (hE:EnvOk P E) {γ:Nat->Option Bool} {base:Nat} {ops:Array Oper} {i:Nat} {tm:List AV} {h h':AH}
 (hh:∀ id,h.get id=h'.get id):eff P E γ base ops i tm h=eff P E γ base ops i tm h':=by
 unfold eff
 split
 . rfl
 . split
   . rfl
   . rfl
   . rw [effT_of (effOp_congr_h hE hh)]
theorem Eqv.put {s t:St} (h:Eqv s t) (e:Eff):Eqv (s.put e) (t.put e) :=
 ⟨by simp [St.put,h.tm],fun id=>AH.get_append_congr h.h id,by simp [St.put,h.ok]⟩
theorem runL_eqv {P:Program} {E:Env} (hE:EnvOk P E) {γ:Nat->Option Bool} {base:Nat} {ops:Array Oper}:∀ {l:List Nat} {s t s':St},Eqv s t ->
 runL P E γ base ops l s=some s'->∃ t',runL P E γ base ops l t=some t' /\ Eqv s' t'
 | [],s,t,s',h,hr=>by simp [runL] at hr;subst hr;exact ⟨t,rfl,h⟩
 | i :: l,s,t,s',h,hr=>by
  simp only [runL] at hr ⊢
  rw [<- h.tm,<- eff_congr_h hE h.h]
  split at hr
  . cases hr
  . rename_i e he
    exact runL_eqv hE (h.put e) hr
theorem runL_ok {P:Program} {E:Env} {γ:Nat->Option Bool} {base:Nat} {ops:Array Oper}:∀ {l:List Nat} {s s':St},runL P E γ base ops l s=some s'->s'.ok=true->s.ok=true
 | [],s,s',h,hk=>by simp [runL] at h;subst h;exact hk
 | i :: l,s,s',h,hk=>by
  simp only [runL] at h
  split at h
  . cases h
  . have:=runL_ok h hk
    simp [St.put] at this
    exact this.2
end Go.Rq
