import Derived.Test.YtedplhdabefnkaaGreatDoorRq10
import Derived.Test.YtedplhdabefnkaaGreatDoorRq06
import Derived.Test.YtedplhdabefnkaaGreatDoorRq11
import Derived.Test.YtedplhdabefnkaaGreatDoorRq04
namespace Go.Rq.Vl
open Go Go.Proofs Go.Rq Go.RowKit Go.Shelf
attribute [local go_sem] Oper.semAt_some
set_option maxHeartbeats 1000000 in
theorem bw_in (F:Fence) (n:Nat) (hf:F.fn 133) (hro:F.round=none) (a:Option Addr) (len cap:Nat) (w:World) :
 CallsIn F n Tryz.prog 133 #[.slice a len cap] w fun e w'=>e=.returned (.func (.func 186) #[] #[.pointer (some ⟨w.heap.size,0,none⟩)]) /\ w'=w.alloc (.cells #[.slice a len cap] 23):=by
 refine callsIn_of_wp Tryz.func133 rfl hf ?_ hro
 have hnt:Tryz.f133.ntmps=4:=rfl
 simp only [hnt,List.size_toArray,List.length_cons,List.length_nil,Nat.reduceAdd,Nat.reduceSub,Array.replicate_succ,Array.replicate_zero,List.push_toArray,List.append_toArray,List.nil_append,List.cons_append]
 gi_wp2
 go_ret
 exact ⟨rfl,rfl⟩
def isSlc:AV->Bool
 | .slc _ _ _ _=>true
 | .own _ _ _ _=>true
 | .v (.slice none 0 0)=>true
 | _=>false
theorem isSlc_spec {ρ:Ren} {a:AV} {v:Value} (h:isSlc a=true) (hv:Rv ρ a v):∃ b len cap,v=.slice b len cap:=by
 unfold isSlc at h
 split at h
 . cases hv;exact ⟨_,_,_,rfl⟩
 . cases hv <;> exact ⟨_,_,_,rfl⟩
 . cases hv;exact ⟨_,_,_,rfl⟩
 . cases h
def bwL (args:List AV) (z:Nat):Option (Bool × AV × Blk):=match args with
 | [a]=>match isSlc a with
  | true=>some (true,.fn (.func 186) [] [.ptr z 0],⟨true,23,[a]⟩)
  | false=>none
 | _=>none
theorem bwL_ok:LayOk PR 133 bwL:=by
 refine ⟨fun F ρ args xs h z r B w hg hx hw hz=>?_⟩
 unfold bwL at hg
 split at hg
 . rename_i a
   split at hg
   . rename_i hs
     simp only [Option.some.injEq,Prod.mk.injEq,true_and] at hg
     obtain ⟨rfl,rfl⟩:=hg
     obtain ⟨v,ys,rfl,hv,hys⟩:=hx.uncons
     obtain rfl:=hys.unnil
     obtain ⟨b,len,cap,rfl⟩:=isSlc_spec hs hv
     have hc:=callsIn_wide.1 (bw_in Fence.wide 0 trivial rfl b len cap w)
     refine Calls.mono hc ?_
     rintro e w' ⟨rfl,rfl⟩
     have hle:=Ren.le_upd (b:=w.heap.size) (n:=1) hz
     refine ⟨_,ρ.upd z w.heap.size 1,rfl,hle,fun j hj=>Ren.upd_ne ρ hj,?_,?_⟩
     . refine .fn (by simp) (fun i a x h=>by simp at h) (by simp) (fun i a x h1 h2=>?_)
       match i with
       | 0 =>
        simp at h1 h2
        subst h1;subst h2
        exact Rv.ptrU
       | i+1=>simp at h1
     . have:=hw.allocP hz true 23 [a] [.slice b len cap] (by simp) (fun i q x h1 h2=>by
        match i with
        | 0=>simp at h1 h2;subst h1;subst h2;exact hv
        | i+1=>simp at h1)
       simpa using this
   . cases hg
 . cases hg
end Go.Rq.Vl

namespace Go.Rq.Vl
open Go Go.Proofs Go.Rq Go.RowKit
def fnP3 {α γ δ β:Type} (A:Cod α) (C:Cod γ) (D:Cod δ) (B:Cod β) (ok:α->γ->δ->Bool) (F:α->γ->δ->β):List AV->Option (Bool × AV)
 | [a,c,d]=>match A.dec a,C.dec c,D.dec d with
  | some x,some y,some z=>some (ok x y z,B.enc (F x y z))
  | _,_,_=>none
 | _=>none
structure RP where
 a:Code
 b:Code
 c:Code
 d:Code
 asg:Code
 bd:Code
 id:Nat
 g:Operand
 ps:Array Tmp
def partsR:Code->RP
 | .seq a (.seq b (.seq (.seq c (.block id (.rangeFunc g ps asg bd))) d))=>⟨a,b,c,d,asg,bd,id,g,ps⟩
 | _=>⟨.skip,.skip,.skip,.skip,.skip,.skip,0,.tmp 0,#[]⟩
def xget:Tree (AExit × XS)->XS
 | .leaf r=>r.2
 | .need _ t=>xget t
 | .br _ t _=>xget t
 | .same _ _ t=>xget t
 | .fail=>⟨⟨[],[],false⟩,0⟩
def kS:Cod Int:=(cInt .i64).agg
abbrev OpS:Type:=Int->W6->W6->W6
abbrev OkS:Type:=Int->W6->W6->Bool
def eV (kA kM:OkS) (A M:OpS):Env:=envD eqsT [(134,fnP3 kS c6.agg c6.agg c6.agg kA A),(135,fnP3 kS c6.agg c6.agg c6.agg kM M)] [] [(133,bwL)] [] [] false []
@[irreducible] noncomputable def vP:RP:=partsR (bodyOf PR 84)
section
variable (kA kM:OkS) (A M:OpS)
@[irreducible] noncomputable def vA (s:Int) (S:SA) (cap:Nat) (h0:AH) (x:W6):XS:=xget (exec PR (eV kA kM A M) [] (fun _=>none) 10 vP.a ⟨⟨[kS.enc s,S.at 0 cap,c6.agg.enc x] ++ undefs 19,h0,true⟩,1⟩).strict
@[irreducible] noncomputable def vB (s:Int) (S:SA) (cap:Nat) (h0:AH) (x:W6):XS:=xget (exec PR (eV kA kM A M) [] (fun _=>none) 10 vP.b (vA kA kM A M s S cap h0 x)).strict
@[irreducible] noncomputable def vC (s:Int) (S:SA) (cap:Nat) (h0:AH) (x:W6):XS:=xget (exec PR (eV kA kM A M) [] (fun _=>none) 10 vP.c (vB kA kM A M s S cap h0 x)).strict
def vSt (s:Int) (S:SA) (cap:Nat) (x o:W6):AH:=[(1,some ⟨true,114,(cInt .i64).enc s⟩),(4097,some ⟨true,38,c6.enc x⟩),(8193,some ⟨true,38,c6.enc zeroW⟩),(12289,some ⟨true,38,c6.enc o⟩),(20481,some ⟨true,23,[S.at 0 cap]⟩)]
def vTm (s:Int) (S:SA) (cap:Nat) (x:W6):List AV:=[kS.enc s,S.at 0 cap,c6.agg.enc x,.ptr 1 0,.v undef,.ptr 4097 0,.ptr 8193 0,.ptr 12289 0,.v undef,.v undef,S.at 0 cap,.fn (.func 186) [] [.ptr 20481 0]] ++ undefs 10
@[irreducible] noncomputable def vY (s:Int) (S:SA) (cap:Nat) (x o:W6) (i:Int) (c:W6):XS:=xget (exec PR (eV kA kM A M) [] (fun _=>none) 10 vP.asg ⟨⟨setAll (vTm s S cap x) vP.ps.toList [.v (.int .i64 i),c6.agg.enc c],vSt s S cap x o,true⟩,24577⟩).strict
@[irreducible] noncomputable def vZ (s:Int) (S:SA) (cap:Nat) (x o:W6) (i:Int) (c:W6):XS:=xget (exec PR (eV kA kM A M) [] (fun _=>none) 10 vP.bd (vY kA kM A M s S cap x o i c))
@[irreducible] noncomputable def vW (s:Int) (S:SA) (cap:Nat) (x o:W6):XS:=xget (exec PR (eV kA kM A M) [] (fun _=>none) 10 vP.d ⟨⟨vTm s S cap x,vSt s S cap x o,true⟩,24577⟩).strict
def cellsB:AH->Bool
 | []=>true
 | (_,none) :: t=>cellsB t
 | (_,some B) :: t=>B.cell && cellsB t
def okBk (n:Nat):Option Blk->Bool
 | some B=>allLt n B.cs
 | none=>true
def inH2 (n:Nat):AH->AH->Prop
 | [],_=>True
 | (i,b) :: t,h=>AH.get h i=b /\ okBk n b=true /\ inH2 n t h
set_option maxRecDepth 1000000 in
theorem v_a (s:Int) (S:SA) (cap:Nat) (h0:AH) (x:W6) (hS:S ≠ .nil):(exec PR (eV kA kM A M) [] (fun _=>none) 10 vP.a ⟨⟨[kS.enc s,S.at 0 cap,c6.agg.enc x] ++ undefs 19,h0,true⟩,1⟩).strict=.leaf (.normal,vA kA kM A M s S cap h0 x):=by
 cases S with
 | nil=>exact absurd rfl hS
 | slc n=>kernel_rfl
 | own es n=>kernel_rfl
set_option maxRecDepth 1000000 in
theorem v_b (s:Int) (S:SA) (cap:Nat) (h0:AH) (x:W6) (hS:S ≠ .nil):(exec PR (eV kA kM A M) [] (fun _=>none) 10 vP.b (vA kA kM A M s S cap h0 x)).strict=.leaf (.normal,vB kA kM A M s S cap h0 x):=by
 cases S with
 | nil=>exact absurd rfl hS
 | slc n=>kernel_rfl
 | own es n=>kernel_rfl
set_option maxRecDepth 1000000 in
theorem v_c (s:Int) (S:SA) (cap:Nat) (h0:AH) (x:W6) (hS:S ≠ .nil):(exec PR (eV kA kM A M) [] (fun _=>none) 10 vP.c (vB kA kM A M s S cap h0 x)).strict=.leaf (.normal,vC kA kM A M s S cap h0 x):=by
 cases S with
 | nil=>exact absurd rfl hS
 | slc n=>kernel_rfl
 | own es n=>kernel_rfl
set_option maxRecDepth 1000000 in
theorem v_ctm (s:Int) (S:SA) (cap:Nat) (h0:AH) (x:W6) (hS:S ≠ .nil):(vC kA kM A M s S cap h0 x).s.tm=vTm s S cap x /\ (vC kA kM A M s S cap h0 x).n=24577:=by
 cases S with
 | nil=>exact absurd rfl hS
 | slc n=>exact ⟨by kernel_rfl,by kernel_rfl⟩
 | own es n=>exact ⟨by kernel_rfl,by kernel_rfl⟩
set_option maxRecDepth 1000000 in
theorem v_ch (s:Int) (S:SA) (cap:Nat) (h0:AH) (x:W6) (hS:S ≠ .nil):inH2 24577 (vSt s S cap x zeroW) (vC kA kM A M s S cap h0 x).s.h:=by
 cases S with
 | nil=>exact absurd rfl hS
 | slc n=>exact ⟨by kernel_rfl,by kernel_rfl,by kernel_rfl,by kernel_rfl,by kernel_rfl,by kernel_rfl,by kernel_rfl,by kernel_rfl,by kernel_rfl,by kernel_rfl,trivial⟩
 | own es n=>exact ⟨by kernel_rfl,by kernel_rfl,by kernel_rfl,by kernel_rfl,by kernel_rfl,by kernel_rfl,by kernel_rfl,by kernel_rfl,by kernel_rfl,by kernel_rfl,trivial⟩
set_option maxRecDepth 1000000 in
theorem v_y (s:Int) (S:SA) (cap:Nat) (x o:W6) (i:Int) (c:W6) (hS:S ≠ .nil):(exec PR (eV kA kM A M) [] (fun _=>none) 10 vP.asg ⟨⟨setAll (vTm s S cap x) vP.ps.toList [.v (.int .i64 i),c6.agg.enc c],vSt s S cap x o,true⟩,24577⟩).strict=.leaf (.normal,vY kA kM A M s S cap x o i c):=by
 cases S with
 | nil=>exact absurd rfl hS
 | slc n=>kernel_rfl
 | own es n=>kernel_rfl
set_option maxRecDepth 1000000 in
theorem v_yc (s:Int) (S:SA) (cap:Nat) (x o:W6) (i:Int) (c:W6) (hS:S ≠ .nil):cellsB (vY kA kM A M s S cap x o i c).s.h=true:=by
 cases S with
 | nil=>exact absurd rfl hS
 | slc n=>kernel_rfl
 | own es n=>kernel_rfl
set_option maxRecDepth 1000000 in
theorem v_z (s:Int) (S:SA) (cap:Nat) (x o:W6) (i:Int) (c:W6) (hS:S ≠ .nil):Tree.but [0] 0 (exec PR (eV kA kM A M) [] (fun _=>none) 10 vP.bd (vY kA kM A M s S cap x o i c)) =
 .need (kA s (M s o x) c && (kM s o x && true)) (.leaf (.normal,vZ kA kM A M s S cap x o i c)):=by
 cases S with
 | nil=>exact absurd rfl hS
 | slc n=>kernel_rfl
 | own es n=>kernel_rfl
set_option maxRecDepth 1000000 in
theorem v_zh (s:Int) (S:SA) (cap:Nat) (x o:W6) (i:Int) (c:W6) (hS:S ≠ .nil):inH2 24577 (vSt s S cap x (A s (M s o x) c)) (vZ kA kM A M s S cap x o i c).s.h:=by
 cases S with
 | nil=>exact absurd rfl hS
 | slc n=>exact ⟨by kernel_rfl,by kernel_rfl,by kernel_rfl,by kernel_rfl,by kernel_rfl,by kernel_rfl,by kernel_rfl,by kernel_rfl,by kernel_rfl,by kernel_rfl,trivial⟩
 | own es n=>exact ⟨by kernel_rfl,by kernel_rfl,by kernel_rfl,by kernel_rfl,by kernel_rfl,by kernel_rfl,by kernel_rfl,by kernel_rfl,by kernel_rfl,by kernel_rfl,trivial⟩
set_option maxRecDepth 1000000 in
theorem v_w (s:Int) (S:SA) (cap:Nat) (x o:W6) (hS:S ≠ .nil):(exec PR (eV kA kM A M) [] (fun _=>none) 10 vP.d ⟨⟨vTm s S cap x,vSt s S cap x o,true⟩,24577⟩).strict=.leaf (.ret,vW kA kM A M s S cap x o):=by
 cases S with
 | nil=>exact absurd rfl hS
 | slc n=>kernel_rfl
 | own es n=>kernel_rfl
set_option maxRecDepth 1000000 in
theorem v_wc (s:Int) (S:SA) (cap:Nat) (x o:W6) (hS:S ≠ .nil):cellsB (vW kA kM A M s S cap x o).s.h=true:=by
 cases S with
 | nil=>exact absurd rfl hS
 | slc n=>kernel_rfl
 | own es n=>kernel_rfl
set_option maxRecDepth 1000000 in
theorem v_wr (s:Int) (S:SA) (cap:Nat) (x o:W6) (hS:S ≠ .nil):resAll PR (vW kA kM A M s S cap x o).s.tm (vW kA kM A M s S cap x o).s.h Tryz.f84.results.toList=some [c6.agg.enc o]:=by
 cases S with
 | nil=>exact absurd rfl hS
 | slc n=>kernel_rfl
 | own es n=>kernel_rfl
end
theorem cellsB_spec:∀ {h:AH},cellsB h=true->cellsH h
 | [],_,id,B,e=>by simp [AH.get] at e
 | (i,b) :: t,hc,id,B,e=>by
  rw [AH.get_cons] at e
  cases b with
  | none =>
   simp only [cellsB] at hc
   split at e
   . cases e
   . exact cellsB_spec hc id B e
  | some C =>
   simp only [cellsB,Bool.and_eq_true] at hc
   split at e
   . simp at e;subst e;exact hc.1
   . exact cellsB_spec hc.2 id B e
theorem inH2_spec {n:Nat} {h:AH}:∀ {l:AH},inH2 n l h->∀ id B,l.get id=some B->h.get id=some B /\ allLt n B.cs=true
 | [],_,id,B,e=>by simp [AH.get] at e
 | (i,b) :: t,⟨h1,h2,h3⟩,id,B,e=>by
  rw [AH.get_cons] at e
  split at e
  . rename_i hi
    subst hi;subst e
    exact ⟨h1,h2⟩
  . exact inH2_spec h3 id B e
def valF (A M:OpS) (s:Int) (x:W6):List W6->W6
 | []=>zeroW
 | c :: t=>A s (M s (valF A M s x t) x) c
def valOk (kA kM:OkS) (A M:OpS) (s:Int) (x:W6):List W6->Bool
 | []=>true
 | c :: t=>valOk kA kM A M s x t && (kM s (valF A M s x t) x && kA s (M s (valF A M s x t) x) c)
theorem drop_cons {l:List W6} {k:Nat} (h:k < l.length):l.drop (l.length - (k+1))=l.getD (l.length - 1 - k) zeroW :: l.drop (l.length - k):=by
 have e:l.length - (k+1) < l.length:=by omega
 rw [List.drop_eq_getElem_cons e,show l.length - (k+1)+1=l.length - k by omega]
 congr 1
 rw [List.getD_eq_getElem?_getD,show l.length - 1 - k=l.length - (k+1) by omega,List.getElem?_eq_getElem e]
 rfl
theorem valOk_at {kA kM:OkS} {A M:OpS} {s:Int} {x:W6} {l:List W6} (h:valOk kA kM A M s x l=true):∀ j,valOk kA kM A M s x (l.drop j)=true:=by
 induction l with
 | nil=>intro j;simpa using h
 | cons c t ih =>
  intro j
  simp only [valOk,Bool.and_eq_true] at h
  cases j with
  | zero=>simp only [List.drop_zero,valOk,Bool.and_eq_true];exact h
  | succ j=>exact ih h.1 j
theorem encL_get {α:Type} {C:CC α}:∀ (l:List α) (j c:Nat) (d:α),j < l.length->c < C.n->(encL C l)[j*C.n+c]?=(C.enc (l.getD j d))[c]?
 | [],j,c,d,h,_=>by simp at h
 | x :: t,0,c,d,h,hc=>by
  simp only [encL,Nat.zero_mul,Nat.zero_add]
  rw [List.getElem?_append_left (by rw [C.len];exact hc)]
  rfl
 | x :: t,j+1,c,d,h,hc=>by
  simp only [encL]
  rw [List.getElem?_append_right (by rw [C.len,Nat.add_mul];omega),C.len,show (j+1)*C.n+c - C.n=j*C.n+c by rw [Nat.add_mul];omega,encL_get t j c d (by simpa using h) hc]
  rfl
def cellV (l:List W6) (j c:Nat):Value:=(c6.val (l.getD j zeroW)).getD c undef
theorem row6_val (l:List W6) (j:Nat):row6 (cellV l) j=c6.agg.val (l.getD j zeroW):=rfl
theorem c6_at (x:W6) (c:Nat) (hc:c < 6) (a:AV) (h:(c6.enc x)[c]?=some a) {ρ:Ren} {u:Value} (hu:Rv ρ a u):u=(c6.val x).getD c undef:=by
 have e:c=0 \/ c=1 \/ c=2 \/ c=3 \/ c=4 \/ c=5:=by omega
 rcases e with rfl | rfl | rfl | rfl | rfl | rfl <;> (simp [c6] at h;subst h;cases hu;rfl)
theorem get_key {id:Nat} {B:Blk}:∀ {h:AH},h.get id=some B->id ∈ h.map (·.1)
 | [],e=>by simp [AH.get] at e
 | (i,b) :: t,e=>by
  rw [AH.get_cons] at e
  split at e
  . rename_i hi;simp [hi]
  . simp only [List.map_cons,List.mem_cons];exact .inr (get_key e)
theorem cell_is {w:World} {b off:Nat} {xs:Array Value} {ty:TypeId} {fr:Nat × Nat} {v:Value} (hb:w.heap[b]?=some (.cells xs ty fr)) (hv:xs[off]?=some v):w.cell? ⟨b,off,none⟩=some v:=by
 unfold World.cell?
 simp only [hb]
 exact hv
set_option maxRecDepth 1000000 in
theorem value_calls {kA kM:OkS} {A M:OpS} (hA:CallOk PR 134 (fnP3 kS c6.agg c6.agg c6.agg kA A)) (hM:CallOk PR 135 (fnP3 kS c6.agg c6.agg c6.agg kM M))
 {W:World} (hg:GW W) {X:Hd} {v:Value} (hX:HandS W X v) {S:SA} (hS:S ≠ .nil) (hXs:X.s=S) {l:List W6} (hXc:X.cs=encL c6 l) (hl:l.length=S.len) (hlen:l.length*8 <= 140737488351232)
 (s:Int) (x:W6) (hok:valOk kA kM A M s x l=true) :
 Calls PR 84 #[kS.val s,v,c6.agg.val x] W (fun e w'=>e=.returned (c6.agg.val (valF A M s x l)) /\ Below W.heap.size W w'):=by
 have hE:EnvOk PR (eV kA kM A M):=envD_ok eqsT_ok (TabPOk.cons hA (TabPOk.cons hM TabPOk.nil)) TabHOk.nil
  (TabLOk.cons (entersB (by kernel_rfl)) bwL_ok TabLOk.nil) TabDOk.nil
 have hW:=hRW hg (w:=W) (l:=[X]) (fun y hy=>by simp only [List.mem_singleton] at hy;subst hy;exact ⟨_,hX⟩)
 have hheap:hHeap 0 [X]=hpS 0 S X.t (encL c6 l):=by
  rw [<- hXs,<- hXc]
  show hpS 0 X.s X.t X.cs ++ []=_
  rw [List.append_nil]
 rw [hheap] at hW
 have r1:Rv (hRen [X]) (S.at 0 X.cap) v:=by have:=hRen_at (l:=[X]) (j:=0) rfl hX;rw [hXs] at this;exact this
 have hx:Rvs (hRen [X]) [kS.enc s,S.at 0 X.cap,c6.agg.enc x] [kS.val s,v,c6.agg.val x]:=.cons (.of_flat (kS.h1 s)) (.cons r1 (.cons (.of_flat (c6.agg.h1 x)) .nil))
 obtain ⟨b0,xs0,fr0,q1,q2,q3,q4,q5⟩:=hX.blk (by rw [hXs];exact hS)
 have stepO:∀ k,k < l.length->valF A M s x (l.drop (l.length - (k+1)))=A s (M s (valF A M s x (l.drop (l.length - k))) x) (l.getD (l.length - 1 - k) zeroW):=fun k hk=>by rw [drop_cons hk];rfl
 have stepK:∀ k,k < l.length->(kA s (M s (valF A M s x (l.drop (l.length - k))) x) (l.getD (l.length - 1 - k) zeroW) && (kM s (valF A M s x (l.drop (l.length - k))) x && true))=true:=fun k hk=>by
  have:=valOk_at hok (l.length - (k+1))
  rw [drop_cons hk] at this
  simp only [valOk,Bool.and_eq_true] at this
  simp only [this.2.1,this.2.2,Bool.and_true]
 have hcall:=range_calls hE mixed (lf:=10) (f:=84) (fn:=Tryz.f84) (ca:=vP.a) (cb:=vP.b) (cc:=vP.c) (cd:=vP.d) (id:=vP.id) (g:=vP.g) (ps:=vP.ps) (asg:=vP.asg) (bd:=vP.bd) (gf:=186) (N:=l.length)
  (by kernel_rfl) (by kernel_rfl) (by kernel_rfl) (by kernel_rfl) (by kernel_rfl) (by kernel_rfl) (by kernel_rfl) (by kernel_rfl) (by kernel_rfl) (by kernel_rfl)
  (args:=[kS.enc s,S.at 0 X.cap,c6.agg.enc x]) (h0:=hpS 0 S X.t (encL c6 l)) (n0:=1) (xa:=vA kA kM A M s S X.cap (hpS 0 S X.t (encL c6 l)) x) (xb:=vB kA kM A M s S X.cap (hpS 0 S X.t (encL c6 l)) x) (xc:=vC kA kM A M s S X.cap (hpS 0 S X.t (encL c6 l)) x)
  (tm:=vTm s S X.cap x) (n1:=24577) (st:=fun k=>vSt s S X.cap x (valF A M s x (l.drop (l.length - k)))) (es:=fun k=>[.v (.int .i64 ((l.length:Int) - 1 - k)),c6.agg.enc (l.getD (l.length - 1 - k) zeroW)])
  (ya:=fun k=>vY kA kM A M s S X.cap x (valF A M s x (l.drop (l.length - k))) ((l.length:Int) - 1 - k) (l.getD (l.length - 1 - k) zeroW)) (rv:=c6.agg.val (valF A M s x l))
  (Tree.holds_strict (by rw [show Tryz.f84.ntmps - [kS.enc s,S.at 0 X.cap,c6.agg.enc x].length=19 from rfl,v_a kA kM A M s S X.cap _ x hS];rfl)) (Tree.holds_strict (by rw [v_b kA kM A M s S X.cap _ x hS];rfl)) (Tree.holds_strict (by rw [v_c kA kM A M s S X.cap _ x hS];rfl))
  (v_ctm kA kM A M s S X.cap _ x hS).1 (v_ctm kA kM A M s S X.cap _ x hS).2 (fun id B hB=>by
   have e:l.drop (l.length - 0)=[]:=by simp
   simp only [e] at hB
   exact (inH2_spec (v_ch kA kM A M s S X.cap _ x hS) id B hB).1)
  (fun k=>cellsB_spec (by cases S with
   | nil=>exact absurd rfl hS
   | slc n=>rfl
   | own es n=>rfl)) (fun k id B hB=>?lt) (fun k hk=>cellsB_spec (v_yc kA kM A M s S X.cap x _ _ _ hS))
  (fun k hk=>Tree.holds_strict (by rw [v_y kA kM A M s S X.cap x _ _ _ hS];rfl))
  (fun k hk=>Tree.holds_but (l:=[0]) (i:=0) (by
   rw [v_z kA kM A M s S X.cap x _ _ _ hS]
   refine ⟨stepK k hk,rfl,fun id B hB=>?_⟩
   simp only [stepO k hk] at hB
   exact inH2_spec (v_zh kA kM A M s S X.cap x _ _ _ hS) id B hB))
  (Tree.holds_strict (by
   have e:l.drop (l.length - l.length)=l:=by simp
   simp only [e]
   rw [v_w kA kM A M s S X.cap x _ hS]
   exact ⟨.inl rfl,cellsB_spec (v_wc kA kM A M s S X.cap x _ hS),_,v_wr kA kM A M s S X.cap x _ hS,c6.agg.h1 _⟩))
  hx hW (fun id hid=>hRen_none id (by simpa using hid))
  (callFunc_run (entersB (by kernel_rfl)))
  ?it
 case lt =>
  have:id ∈ [1,4097,8193,12289,20481]:=get_key hB
  simp at this
  omega
 case it =>
  intro ρ1 a w1 hs hp
  have hgv:vP.g=.tmp 11:=by kernel_rfl
  have hev:=look_ok hs.tm (.tmp 11)
  have hlk:look (vTm s S X.cap x) (.tmp 11)=.fn (.func 186) [] [.ptr 20481 0]:=rfl
  rw [show (⟨vTm s S X.cap x,vSt s S X.cap x (valF A M s x (l.drop (l.length - 0))),true⟩:St).tm=vTm s S X.cap x from rfl,hlk] at hev
  obtain ⟨xs,ys,e1,e2,e3⟩:=hev.fn_iff
  obtain ⟨p,zs,e4,e5,e6⟩:=e3.uncons
  have e2:xs=#[]:=by
   have:=e2.unnil
   exact Array.toList_eq_nil_iff.1 this
  have e6:=e6.unnil
  subst e6
  obtain ⟨Bs,hBs,hpv⟩:∃ Bs,ρ1 20481=some Bs /\ p=.pointer (some ⟨Bs,ρ1.base 20481+0,none⟩):=by
   cases e5 with
   | ptr hb=>exact ⟨_,hb,rfl⟩
  have box:∀ {F:Fr} {k:Nat} {ρ':Ren} {W':World},RW F ρ' (vSt s S X.cap x (valF A M s x (l.drop (l.length - k)))) W'->∃ b xs1 fr1,ρ' 20481=some b /\ ρ'.base 20481=0 /\ W'.heap[b]?=some (.cells xs1 23 fr1) /\ ∃ x0,xs1[0]?=some x0 /\ Rv ρ' (S.at 0 X.cap) x0:=by
   intro F k ρ' W' r
   obtain ⟨b,o',g1,g2,⟨xs1,fr1,rfl,g3,g4,g5⟩,g6,g7⟩:=r.blkC (id:=20481) (B:=⟨true,23,[S.at 0 X.cap]⟩) (getC_mk rfl (by cases S <;> first | rfl | exact absurd rfl hS))
   have g0:=(g3 rfl).2
   rw [g0] at g4 g5
   simp only [List.length_cons,List.length_nil,Nat.zero_add] at g4
   have hx0:xs1[0]?=some (xs1[0]'(by omega)):=Array.getElem?_eq_getElem (by omega)
   exact ⟨b,xs1,fr1,g1,g0,g2,_,hx0,g5 0 _ _ rfl (by rw [Nat.zero_add];exact hx0)⟩
  have hb0:ρ1.base 20481=0:=by
   obtain ⟨_,_,_,_,h,_⟩:=box (k:=0) hs.h
   exact h
  rw [hb0,Nat.zero_add] at hpv
  have hlb:ys=#[.pointer (some ⟨Bs,0,none⟩)]:=by
   apply Array.ext'
   rw [e4,hpv]
  refine ⟨#[.pointer (some ⟨Bs,0,none⟩)],fun k=>#[.int .i64 ((l.length:Int) - 1 - k),row6 (cellV l) (l.length - 1 - k)],
   fun W'=>∃ b off cap,W'.cell? ⟨Bs,0,none⟩=some (.slice (some ⟨b,off,none⟩) l.length cap) /\ ∀ j c,j < l.length->c < 6->W'.cell? ⟨b,off+j*6+c,none⟩=some (cellV l j c),
   ?_,fun k hk=>?_,fun k hk=>?_,?_,fun k ρ' W' r he=>?_⟩
  . rw [hgv,e1,e2,hlb]
  . rw [show vP.ps.size=2 by kernel_rfl];rfl
  . exact .cons (.v _) (.cons (by rw [row6_val];exact .of_flat (c6.agg.h1 _)) .nil)
  . exact back_seq Fence.wide 2 trivial rfl (by omega) Bs l.length hlen (cellV l) _ (fun W' h=>h)
  . obtain ⟨b,xs1,fr1,h1,h2,h3,x0,h4,h5⟩:=box r
    have hbB:b=Bs:=by
     have:=(he 20481 (by omega)).f
     rw [h1,hBs] at this
     exact Option.some.inj this
    subst hbB
    have hz:ρ1 0=some b0:=(hp 0 (by omega)).f.trans q1
    have hz':ρ' 0=some b0:=(he 0 (by omega)).f.trans hz
    have hzb:ρ'.base 0=X.base:=(((he 0 (by omega)).cells b0 hz).2).trans ((hp 0 (by omega)).cells b0 q1).2
    have hW0:W'.heap[b0]?=some (.cells xs0 X.t fr0):=r.fr b0 _ q2
    have slice:∃ cap',x0=.slice (some ⟨b0,X.base,none⟩) l.length cap':=by
     rw [hl]
     cases S with
     | nil=>exact absurd rfl hS
     | slc n =>
      simp only [SA.at] at h5
      cases h5 with
      | slc hb =>
       rw [hz'] at hb;simp at hb;subst hb
       rw [hzb]
       exact ⟨_,rfl⟩
     | own es n =>
      simp only [SA.at] at h5
      cases h5 with
      | own hb g0 _ _ _ =>
       rw [hz'] at hb;simp at hb;subst hb
       rw [hzb] at g0
       rw [g0,Nat.zero_mul]
       exact ⟨_,rfl⟩
      | ownE _ hk=>exact absurd hk (Nat.lt_irrefl 0)
    obtain ⟨cap',rfl⟩:=slice
    refine ⟨b0,X.base,cap',cell_is h3 h4,fun j c hj hc=>?_⟩
    have hlen6:X.cs.length=6*l.length:=by rw [hXc,encL_len];rfl
    have hin:X.base+(j*6+c) < xs0.size:=by omega
    have hu:xs0[X.base+(j*6+c)]?=some (xs0[X.base+(j*6+c)]'hin):=Array.getElem?_eq_getElem hin
    rw [show X.base+j*6+c=X.base+(j*6+c) by omega]
    refine cell_is hW0 (hu.trans (congrArg some ?_))
    have hgt:(encL c6 l)[j*6+c]?=(c6.enc (l.getD j zeroW))[c]?:=encL_get (C:=c6) l j c zeroW hj hc
    have hce:(c6.enc (l.getD j zeroW)).length=6:=rfl
    have hca:(c6.enc (l.getD j zeroW))[c]?=some ((c6.enc (l.getD j zeroW))[c]'(by omega)):=List.getElem?_eq_getElem (by omega)
    exact c6_at _ c hc _ hca (q5 ρ' (j*6+c) _ _ (by rw [hXc,hgt];exact hca) hu)
 exact Calls.mono hcall (by
  rintro e w' ⟨ρ',h',rfl,hr⟩
  exact ⟨rfl,hr.to_below⟩)
def notNil:SA->Bool
 | .nil=>false
 | _=>true
def valG (kA kM:OkS) (A M:OpS) (args:List AV) (h:AH):Option (Bool × AV × AH):=match args with
 | [a,b,c]=>match kS.dec a,readS b h,c6.agg.dec c with
  | some s,some (S,cs),some x=>match decL c6 S.len cs with
   | some l=>some (notNil S && (Nat.ble (l.length*8) 140737488351232 && valOk kA kM A M s x l),c6.agg.enc (valF A M s x l),[])
   | none=>none
  | _,_,_=>none
 | _=>none
theorem valG_key {kA kM:OkS} {A M:OpS} {args:List AV} {h:AH} {o:Bool × AV × AH} (hg:valG kA kM A M args h=some o):∃ a b c s S cs x l,args=[a,b,c] /\ kS.dec a=some s /\ readS b h=some (S,cs) /\ c6.agg.dec c=some x /\ decL c6 S.len cs=some l /\
 o=(notNil S && (Nat.ble (l.length*8) 140737488351232 && valOk kA kM A M s x l),c6.agg.enc (valF A M s x l),[]):=by
 unfold valG at hg
 split at hg
 . rename_i a b c
   split at hg
   . rename_i s S cs x h1 h2 h3
     split at hg
     . rename_i l h4
       simp only [Option.some.injEq] at hg
       exact ⟨a,b,c,s,S,cs,x,l,rfl,h1,h2,h3,h4,hg.symm⟩
     . cases hg
   . cases hg
 . cases hg
theorem valG_ok {kA kM:OkS} {A M:OpS} (hA:CallOk PR 134 (fnP3 kS c6.agg c6.agg c6.agg kA A)) (hM:CallOk PR 135 (fnP3 kS c6.agg c6.agg c6.agg kM M)) :
 HeapOk PR 84 (valG kA kM A M):=by
 have again:∀ {args:List AV} {h h':AH} {o:Bool × AV × AH},valG kA kM A M args h=some o->(∀ i,i ∈ idsOf args->∀ B,h.get i=some B->h'.get i=some B)->valG kA kM A M args h'=some o:=by
  intro args h h' o hg hh
  obtain ⟨a,b,c,s,S,cs,x,l,rfl,h1,h2,h3,h4,rfl⟩:=valG_key hg
  have h2':=readS_congr (a:=b) (by simp) hh h2
  simp only [valG,h1,h2',h3,h4]
 refine ⟨?_,fun args h h' x hle hg=>again hg (fun i _ B hB=>hle i B hB),fun ρ args xs z b h x hx hz hg=>again hg (fun i hi B hB=>by
  rw [AH.get_cons,if_neg (fun e=>hx.ids_ne hz i hi e.symm)] at hB;exact hB),fun args h c' r ups hg=>?_,fun args h h' x hh hg=>again hg hh⟩
 . intro F ρ args xs h r ups w hg hx hw
   obtain ⟨a,b,c,s,S,cs,x,l,rfl,h1,h2,h3,h4,ho⟩:=valG_key hg
   simp only [Prod.mk.injEq] at ho
   obtain ⟨hok,rfl,rfl⟩:=ho
   have hok:=hok.symm
   simp only [Bool.and_eq_true] at hok
   obtain ⟨k1,k2,k3⟩:=hok
   have k2:=Nat.le_of_ble_eq_true k2
   obtain ⟨u,ys,rfl,hu,hys⟩:=hx.uncons
   obtain ⟨v,zs,rfl,hv,hzs⟩:=hys.uncons
   obtain ⟨y,us,rfl,hy,hus⟩:=hzs.uncons
   obtain rfl:=hus.unnil
   have e1:=kS.h2 ρ a u s h1 hu
   have e3:=c6.agg.h2 ρ c y x h3 hy
   subst e1;subst e3
   obtain ⟨X,x1,x2,x3⟩:=hand_of hw h2 h4 hv
   have hS:S ≠ .nil:=by
    rintro rfl;cases k1
   refine Calls.mono (value_calls hA hM hw.gw x3 hS x1 x2 (decL_len h4) k2 s x k3) ?_
   rintro e w' ⟨rfl,hb⟩
   exact ⟨_,rfl,.of_flat (c6.agg.h1 _),hw.below hb⟩
 . obtain ⟨a,b,c,s,S,cs,x,l,rfl,h1,h2,h3,h4,ho⟩:=valG_key hg
   simp only [Prod.mk.injEq] at ho
   obtain ⟨_,_,rfl⟩:=ho
   simp
theorem val_ent:Enters PR 84:=entersB (by kernel_rfl)
end Go.Rq.Vl

namespace Go.Rq
open Go Go.Proofs
def powT (M:W6->W6->W6):PureTab:=[(200,fn2 c6.agg c6.agg c6.agg M),(202,fn0 c6.agg oneW)]
theorem powT_ok:TabPOk PR (powT mulW):=TabPOk.cons mmul_ok (TabPOk.cons one_ok TabPOk.nil)
noncomputable def powE (M:W6->W6->W6):Env:=envW eqsT (powT M)
theorem powE_ok:EnvOk PR (powE mulW):=envW_ok eqsT_ok powT_ok
def powK:Keep:=⟨[2,3,4,5,6],[0,1,2,4],7⟩
@[irreducible] noncomputable def powX (M:W6->W6->W6) (a e:W6):XS:=entryOf PR (powE M) [9,23] (fun _=>none) 10 238 [c6.agg.enc a,c6.agg.enc e] [] 0 0 powK
@[irreducible] noncomputable def powI (M:W6->W6->W6) (a e:W6) (d:Int × W6):XS:=((powX M a e).setT 6 (.v (.int .i64 d.1))).setB 4 (c6.enc d.2)
@[irreducible] noncomputable def powC:Code:=roundOf PR 238 0
def quo64 (z:Int):Int:=IntKind.i64.wrap (Int.tdiv z 64)
def powCond (z:Int):Bool:=decide (0 <= Int.tmod z 64) && (decide (0+(quo64 z).toNat*1 < 6) && (decide (0 <= quo64 z /\ quo64 z < 6) && true))
set_option maxRecDepth 100000 in
theorem pow_round (M:W6->W6->W6) (a e:W6) (z:Int) (out:W6):Tree.but [2] 0 (roundT PR (powE M) [9,23] (fun _=>none) 10 powK powK powK powC (powI M a e (z,out))) =
 .br (decide (z >= 0))
  (.br (((e.get (0+(quo64 z).toNat*1) >>> Nat.min (Int.tmod z 64).toNat 64) &&& bitW true) == bitW true)
   (.need (powCond z)
    (.leaf (.normal,powI M a e (IntKind.i64.wrap (z - 1),M (M out out) a))))
   (.need (powCond z)
    (.leaf (.normal,powI M a e (IntKind.i64.wrap (z - 1),M out out)))))
  (.leaf (.exit 0,powI M a e (z,out))):=by kernel_rfl
noncomputable def powB (M:W6->W6->W6) (a e r:W6):BEnt:=⟨powK.tm,powK.ids,powK.n,powX M a e,.leaf (.normal,powI M a e (-1,r))⟩
set_option maxRecDepth 100000 in
theorem pow_run (M:W6->W6->W6) (a e r:W6):(afunR PR (powE M) [9,23] (tabOf [(0,powB M a e r)]) 10 238 [c6.agg.enc a,c6.agg.enc e]).strict =
 .same (powX M a e) (powX M a e) (.leaf (c6.agg.enc r)):=by kernel_rfl
theorem pow_head (M:W6->W6->W6) (a e:W6):powX M a e=powI M a e (383,oneW):=by kernel_rfl
theorem pow_blk:blkAll 0 (bodyOf PR 238)=[.loop powC]:=by kernel_rfl
theorem pow_codeOk:codeOk (powE mulW) powC=true:=by kernel_rfl
theorem wrap_id {n:Int} (h0:-9223372036854775808 <= n) (h1:n < 9223372036854775808):IntKind.i64.wrap n=n:=by
 simp only [IntKind.wrap,IntKind.bits,IntKind.signed]
 simp
 omega
theorem quo64_eq {z:Int} (h0:0 <= z) (h1:z <= 383):quo64 z=z / 64:=by
 unfold quo64
 rw [Int.tdiv_eq_ediv_of_nonneg h0,wrap_id]
 all_goals omega
theorem pow_law (M:W6->W6->W6) (a e:W6) (rt:XS->Tree (AExit × XS)) (I:Int × W6->XS) (hr:∀ (z:Int) (out:W6),Tree.but [2] 0 (rt (I (z,out))) =
 .br (decide (z >= 0))
  (.br (((e.get (0+(quo64 z).toNat*1) >>> Nat.min (Int.tmod z 64).toNat 64) &&& bitW true) == bitW true)
   (.need (powCond z)
    (.leaf (.normal,I (IntKind.i64.wrap (z - 1),M (M out out) a))))
   (.need (powCond z)
    (.leaf (.normal,I (IntKind.i64.wrap (z - 1),M out out)))))
  (.leaf (.exit 0,I (z,out)))) {K:AExit->XS->Prop} (hK:K .normal (I (-1,powG M a e 384 oneW))) :
 ∀ d:Int × W6,(-1 <= d.1 /\ d.1 <= 383 /\ powG M a e (d.1+1).toNat d.2=powG M a e 384 oneW)->(rt (I d)).holds (fun r=>match r.1 with
  | .normal=>∃ j:Int × W6,(-1 <= j.1 /\ j.1 <= 383 /\ powG M a e (j.1+1).toNat j.2=powG M a e 384 oneW) /\ (j.1+1).toNat < (d.1+1).toNat /\ r.2=I j
  | .exit q=>if q=0 then K .normal r.2 else K (.exit q) r.2
  | .ret=>K .ret r.2):=by
 generalize hR:powG M a e 384 oneW=R at *
 rintro ⟨z,out⟩ ⟨h0,h1,h2⟩
 apply Tree.holds_but (l:=[2]) (i:=0)
 rw [hr]
 refine ⟨fun hz=>?_,fun hz=>?_⟩
 . have hz:0 <= z:=by simpa using hz
   have hq:=quo64_eq hz h1
   have hm:Int.tmod z 64=z % 64:=Int.tmod_eq_emod_of_nonneg hz
   have hw:IntKind.i64.wrap (z - 1)=z - 1:=wrap_id (by omega) (by omega)
   have hc:powCond z=true:=by
    unfold powCond
    rw [hq,hm]
    simp
    omega
   have hk:(z+1).toNat=z.toNat+1:=by omega
   have hg:(((e.get (0+(quo64 z).toNat*1) >>> Nat.min (Int.tmod z 64).toNat 64) &&& bitW true) == bitW true)=e.bit z.toNat:=by
    have e1:0+(quo64 z).toNat*1=z.toNat / 64:=by rw [hq];omega
    have e2:Nat.min (Int.tmod z 64).toNat 64=z.toNat % 64:=by rw [hm];show min _ _=_;omega
    rw [e1,e2]
    rfl
   rw [hg]
   simp only at h2
   rw [hk] at h2
   simp only [powG] at h2
   have hk':(z - 1+1).toNat=z.toNat:=by omega
   refine ⟨fun hb=>⟨hc,⟨z - 1,M (M out out) a⟩,⟨by simp only;omega,by simp only;omega,?_⟩,?_,?_⟩,fun hb=>⟨hc,⟨z - 1,M out out⟩,⟨by simp only;omega,by simp only;omega,?_⟩,?_,?_⟩⟩
   . rw [hb] at h2
     simp only [hk']
     exact h2
   . show (z - 1+1).toNat < (z+1).toNat
     omega
   . rw [hw]
   . rw [hb] at h2
     simp only [hk']
     exact h2
   . show (z - 1+1).toNat < (z+1).toNat
     omega
   . rw [hw]
 . have hz:z=-1:=by
    have:¬ 0 <= z:=by simpa using hz
    omega
   subst hz
   have h2:out=R:=h2
   show (if (0:Nat)=0 then K .normal (I (-1,out)) else K (.exit 0) (I (-1,out)))
   rw [if_pos rfl,h2]
   exact hK
theorem pow_start (M:W6->W6->W6) (a e:W6):-1 <= ((383,oneW):Int × W6).1 /\ ((383,oneW):Int × W6).1 <= 383 /\ powG M a e (((383,oneW):Int × W6).1+1).toNat ((383,oneW):Int × W6).2=powG M a e 384 oneW:=by
 have hk:((383:Int)+1).toNat=384:=by decide
 refine ⟨?_,?_,?_⟩
 . show (-1:Int) <= 383
   omega
 . show (383:Int) <= 383
   omega
 . exact congrArg (fun k=>powG M a e k oneW) hk
theorem pow_loop (a e:W6) {F:Fr} {ds:List Deferred} {K:AExit->XS->Prop} (hK:K .normal (powI mulW a e (-1,pow384 a e))) :
 Tri PR F ds 0 (.block 0 (.loop powC)) (powX mulW a e) K :=
 Eq.subst (motive:=fun y=>Tri PR F ds 0 (.block 0 (.loop powC)) y K) (pow_head mulW a e).symm <| blockLoop (m:=0) powE_ok mixed (sym:=[9,23]) (tab:=fun _=>none) (lf:=10) (k:=powK) (kx:=powK) (kr:=powK) (Nat.zero_le _) (Nat.zero_le _) (Nat.zero_le _) pow_codeOk (tabOk_none _)
  (powI mulW a e) (fun d=>-1 <= d.1 /\ d.1 <= 383 /\ powG mulW a e (d.1+1).toNat d.2=powG mulW a e 384 oneW) (fun d=>(d.1+1).toNat) (383,oneW) (pow_start mulW a e)
  (pow_law mulW a e _ (powI mulW a e) (pow_round mulW a e) hK)
theorem pow_ctx (a e:W6):Ctx PR (powE mulW) [9,23] (tabOf [(0,powB mulW a e (pow384 a e))]) 10 238 :=
 ctx_of powE_ok mixed (fn:=Tryz.f238) (by kernel_rfl) (by kernel_rfl) (by kernel_rfl)
  (tabOk_one (Nat.zero_le _) pow_blk fun F ds K h=>pow_loop a e h)
theorem pow_ok:CallOk PR 238 (fn2 c6.agg c6.agg c6.agg pow384) :=
 .inl ⟨entersB (by kernel_rfl),
  pure2X fun a e=>.of (pow_ctx a e) (sameVal (pow_run mulW a e (pow384 a e)))⟩
def invT (Q:W6->W6->W6):PureTab:=[(238,fn2 c6.agg c6.agg c6.agg Q)]
theorem invT_ok:TabPOk PR (invT pow384):=TabPOk.cons pow_ok TabPOk.nil
set_option maxRecDepth 100000 in
theorem minv_run (Q:W6->W6->W6) (a:W6):(afunR PR (envOf eqsT (invT Q)) [] (fun _=>none) 40 201 [c6.agg.enc a]).strict=.leaf (c6.agg.enc (Q a expInv)):=by kernel_rfl
theorem minv_ctx:Ctx PR (envOf eqsT (invT pow384)) [] (fun _=>none) 40 201 :=
 ctxB (envOf_ok eqsT_ok invT_ok) mixed (by kernel_rfl)
theorem minv_ok:CallOk PR 201 (fn1 c6.agg c6.agg invW) :=
 .inl ⟨entersB (by kernel_rfl),pure1 minv_ctx (fun a=>leafVal (B:=c6.agg) (y:=invW a) (minv_run pow384 a))⟩
def T1 (o:FO W6):PureTab:=[(198,fn2 c6.agg c6.agg c6.agg o.add),
 (199,fn2 c6.agg c6.agg c6.agg o.sub),
 (200,fn2 c6.agg c6.agg c6.agg o.mul),
 (201,fn1 c6.agg c6.agg o.inv),
 (203,fn1 c6.agg c6.agg o.to),
 (227,fn1 c6.agg c6.agg o.back),
 (202,fn0 c6.agg o.one)]
theorem T1_eq:[(198,fn2 c6.agg c6.agg c6.agg addW),(199,fn2 c6.agg c6.agg c6.agg subW),(200,fn2 c6.agg c6.agg c6.agg mulW),(201,fn1 c6.agg c6.agg invW),(203,fn1 c6.agg c6.agg toW),(227,fn1 c6.agg c6.agg fromW),(202,fn0 c6.agg oneW)]=T1 fW:=by kernel_rfl
theorem T1_ok:TabPOk PR (T1 fW):=Eq.subst (motive:=TabPOk PR) T1_eq (TabPOk.cons madd_ok (TabPOk.cons msub_ok (TabPOk.cons mmul_ok (TabPOk.cons minv_ok (TabPOk.cons mto_ok (TabPOk.cons mfrom_ok (TabPOk.cons one_ok (TabPOk.nil))))))))
def kWB:Cod (W6 × Bool):=kTup c6.agg kBool (fun _=>rfl) (fun _=>rfl)
theorem base_ctx:Ctx PR (envOf eqsT []) [] (fun _=>none) 40 117 :=
 ctxB (envOf_ok eqsT_ok TabPOk.nil) mixed (by kernel_rfl)
theorem base_run:(afunR PR (envOf eqsT []) [] (fun _=>none) 40 117 []).strict=.leaf (c6.agg.enc primeW):=by kernel_rfl
theorem base_ok:CallOk PR 117 (fn0 c6.agg primeW) :=
 .inl ⟨entersB (by kernel_rfl),pure0 base_ctx (leafVal (B:=c6.agg) (y:=primeW) base_run)⟩
theorem order_ctx:Ctx PR (envOf eqsT []) [] (fun _=>none) 40 136 :=
 ctxB (envOf_ok eqsT_ok TabPOk.nil) mixed (by kernel_rfl)
theorem order_run:(afunR PR (envOf eqsT []) [] (fun _=>none) 40 136 []).strict=.leaf (c6.agg.enc orderW):=by kernel_rfl
theorem order_ok:CallOk PR 136 (fn0 c6.agg orderW) :=
 .inl ⟨entersB (by kernel_rfl),pure0 order_ctx (leafVal (B:=c6.agg) (y:=orderW) order_run)⟩
def ofW (x:BitVec 64):W6:=⟨x,0#64,0#64,0#64,0#64,0#64⟩
theorem of_ctx:Ctx PR (envOf eqsT []) [] (fun _=>none) 40 33 :=
 ctxB (envOf_ok eqsT_ok TabPOk.nil) mixed (by kernel_rfl)
theorem of_run (x:BitVec 64):(afunR PR (envOf eqsT []) [] (fun _=>none) 40 33 [kU.enc x]).strict=.leaf (c6.agg.enc (ofW x)):=by kernel_rfl
def cmpL (a b:W6):List (Bool × Int):=[(BitVec.ult a.w5 b.w5,-1),(BitVec.ult b.w5 a.w5,1),(BitVec.ult a.w4 b.w4,-1),(BitVec.ult b.w4 a.w4,1),(BitVec.ult a.w3 b.w3,-1),(BitVec.ult b.w3 a.w3,1),
 (BitVec.ult a.w2 b.w2,-1),(BitVec.ult b.w2 a.w2,1),(BitVec.ult a.w1 b.w1,-1),(BitVec.ult b.w1 a.w1,1),(BitVec.ult a.w0 b.w0,-1),(BitVec.ult b.w0 a.w0,1)]
theorem cmp_ctx:Ctx PR (envOf eqsT []) [10,18] (fun _=>none) 40 86 :=
 ctxB (envOf_ok eqsT_ok TabPOk.nil) mixed (by kernel_rfl)
theorem cmp_run (a b:W6):(afunR PR (envOf eqsT []) [10,18] (fun _=>none) 40 86 [c6.agg.enc a,c6.agg.enc b]).strict=chain (kInt .i64) (cmpL a b) 0:=by kernel_rfl
theorem cmp_ok:CallOk PR 86 (fn2 c6.agg c6.agg (kInt .i64) fun a b=>chainV (cmpL a b) 0) :=
 .inl ⟨entersB (by kernel_rfl),pure2 cmp_ctx (fun a b=>chainVal (cmp_run a b))⟩
def lenTab:ByteArray:=⟨#[0,1,2,2,3,3,3,3,4,4,4,4,4,4,4,4,5,5,5,5,5,5,5,5,5,5,5,5,5,5,5,5,6,6,6,6,6,6,6,6,6,6,6,6,6,6,6,6,6,6,6,6,6,6,6,6,6,6,6,6,6,6,6,6,7,7,7,7,7,7,7,7,7,7,7,7,7,7,7,7,7,7,7,7,7,7,7,7,7,7,7,7,7,7,7,7,7,7,7,7,7,7,7,7,7,7,7,7,7,7,7,7,7,7,7,7,7,7,7,7,7,7,7,7,7,7,7,7,8,8,8,8,8,8,8,8,8,8,8,8,8,8,8,8,8,8,8,8,8,8,8,8,8,8,8,8,8,8,8,8,8,8,8,8,8,8,8,8,8,8,8,8,8,8,8,8,8,8,8,8,8,8,8,8,8,8,8,8,8,8,8,8,8,8,8,8,8,8,8,8,8,8,8,8,8,8,8,8,8,8,8,8,8,8,8,8,8,8,8,8,8,8,8,8,8,8,8,8,8,8,8,8,8,8,8,8,8,8,8,8,8,8,8,8,8,8,8,8,8,8,8,8,8,8,8,8]⟩
def lenLeaf (n:Int) (y:BitVec 64):Tree AV :=
 .need (decide (0 <= IntKind.u8.wrap (Int.ofNat y.toNat) /\ IntKind.u8.wrap (Int.ofNat y.toNat) < (lenTab.data.toList.length:Int)) && true)
  (.leaf (.v (.int .i64 (IntKind.i64.wrap (n+IntKind.i64.wrap (strAt lenTab (IntKind.u8.wrap (Int.ofNat y.toNat)).toNat:Nat))))))
def sh (x:BitVec 64) (n:Nat):BitVec 64:=x >>> Nat.min n 64
set_option maxRecDepth 100000 in
theorem len64_run (x:BitVec 64):Tree.but [4,6,8,10] 0 (afunR PR (envOf eqsT []) [4,8,14] (fun _=>none) 40 162 [kU.enc x]) =
 .br (BitVec.ule 4294967296#64 x)
  (.br (BitVec.ule 65536#64 (sh x 32))
   (.need true (.need true (.br (BitVec.ule 256#64 (sh (sh x 32) 16)) (.need true (lenLeaf 56 (sh (sh (sh x 32) 16) 8))) (lenLeaf 48 (sh (sh x 32) 16)))))
   (.need true (.br (BitVec.ule 256#64 (sh x 32)) (.need true (lenLeaf 40 (sh (sh x 32) 8))) (lenLeaf 32 (sh x 32)))))
  (.br (BitVec.ule 65536#64 x)
   (.need true (.br (BitVec.ule 256#64 (sh x 16)) (.need true (lenLeaf 24 (sh (sh x 16) 8))) (lenLeaf 16 (sh x 16))))
   (.br (BitVec.ule 256#64 x) (.need true (lenLeaf 8 (sh x 8))) (lenLeaf 0 x))):=by kernel_rfl
def bl (n:Nat):Nat:=if n=0 then 0 else n.log2+1
theorem bl_spec {n k:Nat}:bl n <= k ↔ n < 2 ^ k:=by
 unfold bl
 split
 . rename_i h;subst h;simp;exact Nat.two_pow_pos k
 . rename_i h;rw [<- Nat.log2_lt h];omega
theorem bl_unique {n k:Nat} (h1:n < 2 ^ k) (h2:k=0 \/ 2 ^ (k - 1) <= n):bl n=k:=by
 have a:=bl_spec.2 h1
 rcases h2 with rfl | h2
 . omega
 . cases k with
   | zero=>omega
   | succ k =>
    have:¬ bl n <= k:=fun h=>by
     have:=bl_spec.1 h
     simp at h2;omega
    omega
theorem tab_ok:(List.range 256).all (fun k=>Nat.blt k (2 ^ strAt lenTab k) && (Nat.beq (strAt lenTab k) 0 || Nat.ble (2 ^ (strAt lenTab k - 1)) k))=true:=by kernel_rfl
theorem tab_bl {k:Nat} (h:k < 256):strAt lenTab k=bl k:=by
 have:=List.all_eq_true.1 tab_ok k (List.mem_range.2 h)
 simp only [Bool.and_eq_true,Bool.or_eq_true] at this
 refine (bl_unique ?_ ?_).symm
 . exact Nat.lt_of_lt_of_le (Nat.lt_succ_self k) (Nat.le_of_ble_eq_true this.1)
 . rcases this.2 with h | h
   . exact .inl (Nat.eq_of_beq_eq_true h)
   . exact .inr (Nat.le_of_ble_eq_true h)
theorem bl_shift {n s:Nat} (h:2 ^ s <= n):bl n=s+bl (n / 2 ^ s):=by
 have hp:=Nat.two_pow_pos s
 have e:bl (n / 2 ^ s) ≠ 0:=by
  intro h0
  have:n / 2 ^ s < 2 ^ 0:=bl_spec.1 (Nat.le_of_eq h0)
  have h1:1 <= n / 2 ^ s:=(Nat.le_div_iff_mul_le hp).2 (by omega)
  simp at this;omega
 apply bl_unique
 . have:=bl_spec.1 (Nat.le_refl (bl (n / 2 ^ s)))
   rw [Nat.pow_add]
   rw [Nat.mul_comm]
   exact (Nat.div_lt_iff_lt_mul hp).1 this
 . right
   have h2:¬ n / 2 ^ s < 2 ^ (bl (n / 2 ^ s) - 1):=fun h=>by
    have:=bl_spec.2 h
    omega
   have h3:2 ^ (bl (n / 2 ^ s) - 1)*2 ^ s <= n:=by
    have:=Nat.le_of_not_lt h2
    exact (Nat.le_div_iff_mul_le hp).1 this
   rw [show s+bl (n / 2 ^ s) - 1=bl (n / 2 ^ s) - 1+s by omega,Nat.pow_add]
   exact h3
theorem sh_toNat (x:BitVec 64) {n:Nat} (h:n <= 64):(sh x n).toNat=x.toNat / 2 ^ n:=by
 unfold sh
 have:Nat.min n 64=n:=Nat.min_eq_left h
 rw [this,BitVec.toNat_ushiftRight,Nat.shiftRight_eq_div_pow]
theorem lenLeaf_holds {n:Nat} {y:BitVec 64} (hn:n <= 56) (h:y.toNat < 256):(lenLeaf n y).holds (fun q=>flat q=some ((kInt .i64).val ((n+bl y.toNat:Nat):Int))):=by
 have hb:bl y.toNat <= 8:=bl_spec.2 (by simpa using h)
 have hw:IntKind.u8.wrap (Int.ofNat y.toNat)=(y.toNat:Int):=by
  simp only [IntKind.wrap,IntKind.bits,IntKind.signed]
  simp
  omega
 have hl:(lenTab.data.toList.length:Int)=256:=by kernel_rfl
 refine ⟨?_,?_⟩
 . rw [hw,hl];simp;omega
 . rw [hw]
   simp only [Int.toNat_natCast]
   rw [tab_bl h,wrap_id (n:=(bl y.toNat:Int)) (by omega) (by omega),wrap_id (by omega) (by omega)]
   show some (Value.int .i64 ((n:Int)+(bl y.toNat:Int)))=some (Value.int .i64 ((n+bl y.toNat:Nat):Int))
   rw [Int.natCast_add]
theorem ule_nat {a b:BitVec 64}:BitVec.ule a b=decide (a.toNat <= b.toNat):=by
 simp [BitVec.ule]
theorem len64_gives (x:BitVec 64):Gives (afunR PR (envOf eqsT []) [4,8,14] (fun _=>none) 40 162 [kU.enc x]) ((kInt .i64).val ((bl x.toNat:Nat):Int)):=by
 refine ⟨Tree.holds_but (l:=[4,6,8,10]) (i:=0) ?_⟩
 rw [len64_run]
 have hx:=x.isLt
 have s32:(sh x 32).toNat=x.toNat / 4294967296:=sh_toNat x (by decide)
 have s16:(sh x 16).toNat=x.toNat / 65536:=sh_toNat x (by decide)
 have s8:(sh x 8).toNat=x.toNat / 256:=sh_toNat x (by decide)
 have s3216:(sh (sh x 32) 16).toNat=x.toNat / 4294967296 / 65536:=by rw [sh_toNat _ (by decide),s32]
 have s328:(sh (sh x 32) 8).toNat=x.toNat / 4294967296 / 256:=by rw [sh_toNat _ (by decide),s32]
 have s168:(sh (sh x 16) 8).toNat=x.toNat / 65536 / 256:=by rw [sh_toNat _ (by decide),s16]
 have s32168:(sh (sh (sh x 32) 16) 8).toNat=x.toNat / 4294967296 / 65536 / 256:=by rw [sh_toNat _ (by decide),s3216]
 have e32 {m:Nat} (h:4294967296 <= m):bl m=32+bl (m / 4294967296):=bl_shift (s:=32) h
 have e16 {m:Nat} (h:65536 <= m):bl m=16+bl (m / 65536):=bl_shift (s:=16) h
 have e8 {m:Nat} (h:256 <= m):bl m=8+bl (m / 256):=bl_shift (s:=8) h
 have leaf {n:Nat} {y:BitVec 64} (hn:n <= 56) (h:y.toNat < 256) (e:bl x.toNat=n+bl y.toNat):(lenLeaf n y).holds (fun q=>flat q=some ((kInt .i64).val ((bl x.toNat:Nat):Int))):=by
  rw [e];exact lenLeaf_holds hn h
 simp only [ule_nat]
 refine ⟨fun h1=>⟨fun h2=>⟨rfl,rfl,fun h3=>⟨rfl,?_⟩,fun h3=>?_⟩,fun h2=>⟨rfl,fun h3=>⟨rfl,?_⟩,fun h3=>?_⟩⟩,fun h1=>⟨fun h2=>⟨rfl,fun h3=>⟨rfl,?_⟩,fun h3=>?_⟩,fun h2=>⟨fun h3=>⟨rfl,?_⟩,fun h3=>?_⟩⟩⟩
 . have h1:4294967296 <= x.toNat:=of_decide_eq_true h1
   have h2:65536 <= (sh x 32).toNat:=of_decide_eq_true h2
   have h3:256 <= (sh (sh x 32) 16).toNat:=of_decide_eq_true h3
   rw [s32] at h2
   rw [s3216] at h3
   exact leaf (n:=56) (by decide) (by rw [s32168];omega) (by rw [s32168,e32 h1,e16 h2,e8 h3];omega)
 . have h1:4294967296 <= x.toNat:=of_decide_eq_true h1
   have h2:65536 <= (sh x 32).toNat:=of_decide_eq_true h2
   have h3:¬ 256 <= (sh (sh x 32) 16).toNat:=of_decide_eq_false h3
   rw [s32] at h2
   rw [s3216] at h3
   exact leaf (n:=48) (by decide) (by rw [s3216];omega) (by rw [s3216,e32 h1,e16 h2];omega)
 . have h1:4294967296 <= x.toNat:=of_decide_eq_true h1
   have h2:¬ 65536 <= (sh x 32).toNat:=of_decide_eq_false h2
   have h3:256 <= (sh x 32).toNat:=of_decide_eq_true h3
   rw [s32] at h2 h3
   exact leaf (n:=40) (by decide) (by rw [s328];omega) (by rw [s328,e32 h1,e8 h3];omega)
 . have h1:4294967296 <= x.toNat:=of_decide_eq_true h1
   have h2:¬ 65536 <= (sh x 32).toNat:=of_decide_eq_false h2
   have h3:¬ 256 <= (sh x 32).toNat:=of_decide_eq_false h3
   rw [s32] at h2 h3
   exact leaf (n:=32) (by decide) (by rw [s32];omega) (by rw [s32,e32 h1])
 . have h1:¬ 4294967296 <= x.toNat:=of_decide_eq_false h1
   have h2:65536 <= x.toNat:=of_decide_eq_true h2
   have h3:256 <= (sh x 16).toNat:=of_decide_eq_true h3
   rw [s16] at h3
   exact leaf (n:=24) (by decide) (by rw [s168];omega) (by rw [s168,e16 h2,e8 h3];omega)
 . have h1:¬ 4294967296 <= x.toNat:=of_decide_eq_false h1
   have h2:65536 <= x.toNat:=of_decide_eq_true h2
   have h3:¬ 256 <= (sh x 16).toNat:=of_decide_eq_false h3
   rw [s16] at h3
   exact leaf (n:=16) (by decide) (by rw [s16];omega) (by rw [s16,e16 h2])
 . have h1:¬ 4294967296 <= x.toNat:=of_decide_eq_false h1
   have h2:¬ 65536 <= x.toNat:=of_decide_eq_false h2
   have h3:256 <= x.toNat:=of_decide_eq_true h3
   exact leaf (n:=8) (by decide) (by rw [s8];omega) (by rw [s8,e8 h3])
 . have h1:¬ 4294967296 <= x.toNat:=of_decide_eq_false h1
   have h2:¬ 65536 <= x.toNat:=of_decide_eq_false h2
   have h3:¬ 256 <= x.toNat:=of_decide_eq_false h3
   exact leaf (n:=0) (by decide) (by omega) (by omega)
theorem len64_ctx:Ctx PR (envOf eqsT []) [4,8,14] (fun _=>none) 40 162 :=
 ctxB (envOf_ok eqsT_ok TabPOk.nil) mixed (by kernel_rfl)
theorem len64_ok:CallOk PR 162 (fn1 kU (kInt .i64) fun x=>((bl x.toNat:Nat):Int)) :=
 .inl ⟨entersB (by kernel_rfl),pure1 len64_ctx len64_gives⟩
def lenT (L:BitVec 64->Int):PureTab:=[(162,fn1 kU (kInt .i64) L)]
theorem lenT_ok:TabPOk PR (lenT fun x=>((bl x.toNat:Nat):Int)):=TabPOk.cons len64_ok TabPOk.nil
def lenL (L:BitVec 64->Int) (a:W6):List (Bool × Int):=[(a.w5 != 0#64,IntKind.i64.wrap (320+L a.w5)),(a.w4 != 0#64,IntKind.i64.wrap (256+L a.w4)),(a.w3 != 0#64,IntKind.i64.wrap (192+L a.w3)),
 (a.w2 != 0#64,IntKind.i64.wrap (128+L a.w2)),(a.w1 != 0#64,IntKind.i64.wrap (64+L a.w1)),(a.w0 != 0#64,IntKind.i64.wrap (0+L a.w0))]
theorem len_run (L:BitVec 64->Int) (a:W6):(afunR PR (envOf eqsT (lenT L)) [11] (fun _=>none) 40 103 [c6.agg.enc a]).strict=chain (kInt .i64) (lenL L a) 0:=by kernel_rfl
theorem len_ctx:Ctx PR (envOf eqsT (lenT fun x=>((bl x.toNat:Nat):Int))) [11] (fun _=>none) 40 103 :=
 ctxB (envOf_ok eqsT_ok lenT_ok) mixed (by kernel_rfl)
def lenI (a:W6):Int:=chainV (lenL (fun x=>((bl x.toNat:Nat):Int)) a) 0
theorem len_ok:CallOk PR 103 (fn1 c6.agg (kInt .i64) lenI) :=
 .inl ⟨entersB (by kernel_rfl),pure1 len_ctx (fun a=>chainVal (len_run _ a))⟩
def andI (i:Int):Int:=IntKind.i64.wrap ((BitVec.ofInt 64 i &&& BitVec.ofInt 64 63).toNat:Int)
def bitTree (a:W6) (i:Int):Tree AV :=
 .br (decide (i < 0)) (.need true (.leaf (.v (.int .i64 0)))) (.br (decide (i >= 384)) (.need true (.leaf (.v (.int .i64 0))))
  (.need (decide (0 <= andI i) && (decide (0+(i.fdiv (2 ^ 6)).toNat*1 < 6) && (decide (0 <= i.fdiv (2 ^ 6) /\ i.fdiv (2 ^ 6) < 6) && true)))
   (.leaf (.v (.int .i64 (IntKind.i64.wrap (Int.ofNat ((a.get (0+(i.fdiv (2 ^ 6)).toNat*1) >>> Nat.min (andI i).toNat 64) &&& bitW true).toNat)))))))
set_option maxRecDepth 100000 in
theorem bit_run (a:W6) (i:Int):Tree.but [2] 0 (afunR PR (envW eqsT []) [7,10] (fun _=>none) 40 105 [c6.agg.enc a,(kInt .i64).enc i])=bitTree a i:=by kernel_rfl
def bitI (a:W6) (i:Int):Int:=bif decide (i < 0) then 0 else bif decide (i >= 384) then 0 else bif a.bit i.toNat then 1 else 0
theorem and63 {i:Int} (h0:0 <= i) (h1:i < 384):andI i=i % 64:=by
 obtain ⟨n,rfl⟩:=Int.eq_ofNat_of_zero_le h0
 unfold andI
 have e:(BitVec.ofInt 64 (n:Int) &&& BitVec.ofInt 64 63).toNat=n % 64:=by
  rw [BitVec.toNat_and]
  have e1:(BitVec.ofInt 64 (n:Int)).toNat=n:=by simp;omega
  have e2:(BitVec.ofInt 64 63).toNat=63:=by decide
  rw [e1,e2]
  exact Nat.and_two_pow_sub_one_eq_mod n 6
 rw [e,wrap_id (by omega) (by omega)]
 omega
theorem bit_gives (a:W6) (i:Int):Gives (afunR PR (envW eqsT []) [7,10] (fun _=>none) 40 105 [c6.agg.enc a,(kInt .i64).enc i]) ((kInt .i64).val (bitI a i)):=by
 refine ⟨Tree.holds_but (l:=[2]) (i:=0) ?_⟩
 rw [bit_run]
 unfold bitTree bitI
 refine ⟨fun h1=>by rw [h1];exact ⟨rfl,rfl⟩,fun h1=>⟨fun h2=>by rw [h1,h2];exact ⟨rfl,rfl⟩,fun h2=>?_⟩⟩
 rw [h1,h2]
 have h1:¬ i < 0:=of_decide_eq_false h1
 have h2:¬ i >= 384:=of_decide_eq_false h2
 have hf:i.fdiv (2 ^ 6)=i / 64:=by
  rw [Int.fdiv_eq_ediv_of_nonneg _ (by decide)]
  rfl
 have ha:=and63 (i:=i) (by omega) (by omega)
 rw [hf,ha]
 have e1:0+(i / 64).toNat*1=i.toNat / 64:=by omega
 have e2:Nat.min (i % 64).toNat 64=i.toNat % 64:=by show min _ _=_;omega
 refine ⟨?_,?_⟩
 . simp;omega
 . rw [e1,e2]
   show some (Value.int .i64 _)=some (Value.int .i64 _)
   congr 2
   unfold W6.bit
   generalize a.get (i.toNat / 64) >>> (i.toNat % 64)=y
   have hb:(y &&& 1#64).toNat < 2:=by
    rw [BitVec.toNat_and,show (1#64).toNat=1 from rfl,Nat.and_one_is_mod]
    omega
   rw [show bitW true=1#64 from rfl]
   cases hc:(y &&& 1#64) == 1#64 with
   | true =>
    rw [eq_of_beq hc]
    rfl
   | false =>
    have:(y &&& 1#64).toNat=0:=by
     have hne:(y &&& 1#64) ≠ 1#64:=by simpa using hc
     have:(y &&& 1#64).toNat ≠ 1:=fun h=>hne (BitVec.eq_of_toNat_eq (by rw [h];rfl))
     omega
    rw [this]
    rfl
theorem bit_ctx:Ctx PR (envW eqsT []) [7,10] (fun _=>none) 40 105 :=
 ctxB (envW_ok eqsT_ok TabPOk.nil) mixed (by kernel_rfl)
theorem bit_ok:CallOk PR 105 (fn2 c6.agg (kInt .i64) (kInt .i64) bitI) :=
 .inl ⟨entersB (by kernel_rfl),pure2 bit_ctx bit_gives⟩
theorem of_ok:CallOk PR 33 (fn1 kU c6.agg ofW) :=
 .inl ⟨entersB (by kernel_rfl),pure1 of_ctx (fun x=>leafVal (B:=c6.agg) (y:=ofW x) (of_run x))⟩
end Go.Rq
