import Derived.Test.YtedplhdabefnkaaGreatDoorRq08
import Derived.Test.YtedplhdabefnkaaGreatDoorRq06
import Derived.Test.YtedplhdabefnkaaGreatDoorRq07
import Derived.Test.YtedplhdabefnkaaGreatDoorRq05
import Derived.ProofKit
import Derived.Test.YtedplhdabefnkaaGreatDoorRq04
namespace Go.Rq
open Go
theorem bitsV_mod (x:Nat):∀ k:Nat,bitsV (fun i=>Nat.testBit x i) k=x % 2 ^ k
 | 0=>by simp [bitsV,Nat.mod_one]
 | k+1=>by
  simp only [bitsV]
  rw [bitsV_mod x k,Nat.mod_pow_succ]
  have e:Nat.testBit x k=decide (x / 2 ^ k % 2=1):=Nat.testBit_eq_decide_div_mod_eq
  rw [e]
  rcases Nat.mod_two_eq_zero_or_one (x / 2 ^ k) with h | h
  . rw [h];simp
  . rw [h];simp
theorem bitsV_congr {b c:Nat->Bool} (h:∀ i,b i=c i):∀ k:Nat,bitsV b k=bitsV c k
 | 0=>rfl
 | k+1=>by simp only [bitsV,h,bitsV_congr h k]
theorem word_test (w:BitVec 64) (j:Nat):(((w >>> j) &&& 1#64) == 1#64)=Nat.testBit w.toNat j:=by
 have hb:((w >>> j) &&& 1#64).toNat=(w.toNat >>> j) % 2:=by
  rw [BitVec.toNat_and,BitVec.toNat_ushiftRight,show (1#64).toNat=1 from rfl,Nat.and_one_is_mod]
 rw [Bool.eq_iff_iff,beq_iff_eq]
 unfold Nat.testBit
 rw [Nat.and_comm,Nat.and_one_is_mod]
 constructor
 . intro h
   rw [h] at hb
   rw [<- hb];rfl
 . intro h
   apply BitVec.eq_of_toNat_eq
   rw [hb]
   have:(w.toNat >>> j) % 2 ≠ 0:=by simpa using h
   show _=1
   omega
theorem val_word (n:W6) {j:Nat} (hj:j < 6):n.val / 2 ^ (64*j) % 2 ^ 64=(n.get j).toNat:=by
 obtain ⟨a0,a1,a2,a3,a4,a5⟩:=n
 have g0:=a0.isLt;have g1:=a1.isLt;have g2:=a2.isLt;have g3:=a3.isLt;have g4:=a4.isLt;have g5:=a5.isLt
 have p0:(2:Nat) ^ (64*0)=1:=by decide +kernel
 have p1:(2:Nat) ^ (64*1)=18446744073709551616:=by decide +kernel
 have p2:(2:Nat) ^ (64*2)=340282366920938463463374607431768211456:=by decide +kernel
 have p3:(2:Nat) ^ (64*3)=6277101735386680763835789423207666416102355444464034512896:=by decide +kernel
 have p4:(2:Nat) ^ (64*4)=115792089237316195423570985008687907853269984665640564039457584007913129639936:=by decide +kernel
 have p5:(2:Nat) ^ (64*5)=2135987035920910082395021706169552114602704522356652769947041607822219725780640550022962086936576:=by decide +kernel
 have p:(2:Nat) ^ 64=18446744073709551616:=by decide +kernel
 rw [p] at g0 g1 g2 g3 g4 g5 ⊢
 have q0:W6.val ⟨a0,a1,a2,a3,a4,a5⟩ / 1 % 18446744073709551616=a0.toNat:=by simp only [W6.val];omega
 have q1:W6.val ⟨a0,a1,a2,a3,a4,a5⟩ / 18446744073709551616 % 18446744073709551616=a1.toNat:=by simp only [W6.val];omega
 have q2:W6.val ⟨a0,a1,a2,a3,a4,a5⟩ / 340282366920938463463374607431768211456 % 18446744073709551616=a2.toNat:=by simp only [W6.val];omega
 have q3:W6.val ⟨a0,a1,a2,a3,a4,a5⟩ / 6277101735386680763835789423207666416102355444464034512896 % 18446744073709551616=a3.toNat:=by simp only [W6.val];omega
 have q4:W6.val ⟨a0,a1,a2,a3,a4,a5⟩ / 115792089237316195423570985008687907853269984665640564039457584007913129639936 % 18446744073709551616=a4.toNat:=by simp only [W6.val];omega
 have q5:W6.val ⟨a0,a1,a2,a3,a4,a5⟩ / 2135987035920910082395021706169552114602704522356652769947041607822219725780640550022962086936576 % 18446744073709551616=a5.toNat:=by simp only [W6.val];omega
 have hc:j=0 \/ j=1 \/ j=2 \/ j=3 \/ j=4 \/ j=5:=by omega
 rcases hc with h | h | h | h | h | h
 . rw [h,p0];exact q0
 . rw [h,p1];exact q1
 . rw [h,p2];exact q2
 . rw [h,p3];exact q3
 . rw [h,p4];exact q4
 . rw [h,p5];exact q5
theorem lt_pow {x d k i:Nat} (h:x < d) (e:d=2 ^ k) (hk:k <= i):x < 2 ^ i:=by
 subst e
 exact Nat.lt_of_lt_of_le h (Nat.pow_le_pow_right (by decide) hk)
theorem bit_test (n:W6) (i:Nat):n.bit i=Nat.testBit n.val i:=by
 unfold W6.bit
 rw [word_test]
 by_cases hi:i / 64 < 6
 . rw [<- val_word n hi,Nat.testBit_mod_two_pow,Nat.testBit_div_two_pow]
   rw [show decide (i % 64 < 64)=true from decide_eq_true (Nat.mod_lt _ (by decide)),Bool.true_and,show i % 64+64*(i / 64)=i by omega]
 . have h1:n.get (i / 64)=0#64:=by
    unfold W6.get
    rw [List.getD_eq_getElem?_getD,List.getElem?_eq_none (by simp;omega)]
    rfl
   rw [h1]
   have h2:=n.val_lt
   have h4:(39402006196394479212279040100143613805079739270465446667948293404245721771497210611414266254884915640806627990306816:Nat)=2 ^ 384:=by decide +kernel
   have h3:n.val < 2 ^ i:=lt_pow h2 h4 (by omega)
   rw [Nat.testBit_lt_two_pow h3]
   show Nat.testBit 0 _=false
   rw [Nat.zero_testBit]
theorem bitsV_val (n:W6) {l:Nat} (h:∀ i,l <= i->n.bit i=false):bitsV n.bit l=n.val:=by
 rw [bitsV_congr (bit_test n),bitsV_mod]
 apply Nat.mod_eq_of_lt
 exact Nat.lt_pow_two_of_testBit n.val fun i hi=>by rw [<- bit_test];exact h i hi
section
variable {K:Type} [Rg K] {iv:K->K} {e:K->K->Bool}
theorem jr_run (F:Fd K iv e) {b:K} (C:Cv F b) (f:Fl K) (w:Nat->Bool) {p:Jp K} {A:Ap K} (hp:Jr p A) (hA:Pt b A):∀ (k m:Nat) {u:Jp K},Jr u (nsm iv e A m)->Jr (runK iv e f w p k u) (nsm iv e A (m*2 ^ k+bitsV w k))
 | 0,m,u,hu=>by
  rw [show m*2 ^ 0+bitsV w 0=m by simp [bitsV]]
  exact hu
 | k+1,m,u,hu=>by
  simp only [runK]
  have ht:=jr_twice F C hu (nsm_pt F hA m)
  rw [<- nsm_add F C hA,<- Nat.two_mul] at ht
  have e1:m*2 ^ (k+1)=2*m*2 ^ k:=by rw [Nat.pow_succ,Nat.mul_comm 2 m,Nat.mul_assoc,Nat.mul_comm 2 (2 ^ k)]
  cases hw:w k with
  | false =>
   have:=jr_run F C f w hp hA k (2*m) ht
   rw [show m*2 ^ (k+1)+bitsV w (k+1)=2*m*2 ^ k+bitsV w k by simp only [bitsV,hw,cond_false];rw [e1];omega]
   exact this
  | true =>
   have hs:=jr_sum F C f ht hp (nsm_pt F hA (2*m)) hA
   have:=jr_run F C f w hp hA k (2*m+1) (u:=sumE (foK iv) e f (twiceJ (foK iv) u) p) hs
   rw [show m*2 ^ (k+1)+bitsV w (k+1)=(2*m+1)*2 ^ k+bitsV w k by simp only [bitsV,hw,cond_true];rw [e1,Nat.add_mul];omega]
   exact this
theorem jr_raise (F:Fd K iv e) {f:Fl K} (hf:f.one=1) {b:K} {A:Ap K} (hA:Pt b A):Jr (raiseJ (foK iv) f A) A:=by
 cases hA with
 | zero=>exact .none rfl
 | of h =>
  rename_i x y
  have hr:raiseJ (foK iv) f (pt x y)=⟨x,y,1⟩:=by
   show (⟨x,y,f.one⟩:Jp K)=_
   rw [hf]
  rw [hr]
  exact .of F.one (by show x=x*(1*1);exact rg [x]) (by show y=y*(1*1*1);exact rg [y])
end
end Go.Rq

namespace Go.Rq.Sm
open Go.Rq
set_option synthInstance.maxSize 100000
set_option synthInstance.maxHeartbeats 400000
instance neP (s:Su):NeZero (suP s):=⟨by cases s <;> decide⟩
abbrev Fsu (s:Su):Type:=Fin (suP s)
theorem pr_suP (s:Su):Pr (suP s):=by
 cases s
 . exact pr_786251
 . exact pr_1152921504606846223
theorem suP_big (s:Su):3 <= suP s:=by cases s <;> decide
theorem suP_60 (s:Su):suP s <= 1152921504606846223:=by cases s <;> decide +kernel
theorem fdS (s:Su):Fd (Fsu s) ivF eqF:=fdF (pr_suP s) (suP_big s)
section
variable {s:Su}
def fw (x:Fsu s):BitVec 64:=BitVec.ofNat 64 x.val
theorem fw_nat (x:Fsu s):(fw x).toNat=x.val:=by
 unfold fw
 rw [BitVec.toNat_ofNat,Nat.mod_eq_of_lt]
 have:=x.isLt
 have:=suP_60 s
 omega
theorem fw_inj {x y:Fsu s} (h:fw x=fw y):x=y:=by
 apply Fin.ext
 rw [<- fw_nat,<- fw_nat,h]
theorem fw_of {a:BitVec 64} (h:a.toNat < suP s):a=fw (s:=s) ⟨a.toNat,h⟩:=by
 apply BitVec.eq_of_toNat_eq
 rw [fw_nat]
theorem fw_beq (x y:Fsu s):(fw x == fw y)=eqF x y:=by
 rw [Bool.eq_iff_iff,beq_iff_eq,eqF_iff]
 exact ⟨fw_inj,fun h=>by rw [h]⟩
theorem fw_zero:fw (0:Fsu s)=0#64:=by
 apply BitVec.eq_of_toNat_eq
 rw [fw_nat];rfl
theorem fw_one:fw (1:Fsu s)=1#64:=by
 apply BitVec.eq_of_toNat_eq
 rw [fw_nat]
 show 1 % suP s=1
 exact Nat.mod_eq_of_lt (by have:=suP_big s;omega)
theorem lAdd_fw (x y:Fsu s):lAdd s (fw x) (fw y)=fw (x+y):=by
 apply BitVec.eq_of_toNat_eq
 unfold lAdd
 have hx:=x.isLt;have hy:=y.isLt;have:=suP_60 s
 rw [BitVec.toNat_umod,BitVec.toNat_add,fw_nat,fw_nat,fw_nat,suB_nat,Nat.mod_eq_of_lt (a:=x.val+y.val) (by omega)]
 rfl
theorem lMul_fw (x y:Fsu s):lMul s (fw x) (fw y)=fw (x*y):=by
 unfold lMul fw
 congr 1
 show (fw x).toNat*(fw y).toNat % suP s=_
 rw [fw_nat,fw_nat]
 rfl
theorem rNeg_fw (x:Fsu s):rNeg s (fw x)=fw (-x):=by
 apply BitVec.eq_of_toNat_eq
 unfold rNeg
 have hx:=x.isLt;have:=suP_60 s
 rw [BitVec.toNat_umod,BitVec.toNat_sub,fw_nat,fw_nat,suB_nat]
 have h1:(2 ^ 64 - x.val+suP s) % 2 ^ 64=suP s - x.val:=by omega
 rw [h1]
 show _=((suP s - x.val) % suP s)
 rfl
theorem rSub_fw (x y:Fsu s):rSub s (fw x) (fw y)=fw (x - y):=by
 unfold rSub
 rw [rNeg_fw,lAdd_fw,Rg.sub_eq]
theorem lSub_fw (x y:Fsu s):lSub s (fw x) (fw y)=fw (x - y):=by
 rw [<- rSub_fw]
 apply BitVec.eq_of_toNat_eq
 unfold lSub rSub lAdd rNeg
 have hx:=x.isLt;have hy:=y.isLt;have:=suP_60 s
 simp only [BitVec.toNat_umod,BitVec.toNat_sub,BitVec.toNat_add,fw_nat,suB_nat]
 have h1:(2 ^ 64 - y.val+(x.val+suP s) % 2 ^ 64) % 2 ^ 64=x.val+(suP s - y.val):=by omega
 have h2:(2 ^ 64 - y.val+suP s) % 2 ^ 64=suP s - y.val:=by omega
 rw [h1,h2]
 have h3:(x.val+(suP s - y.val) % suP s) % 2 ^ 64=x.val+(suP s - y.val) % suP s:=by
  have:=Nat.mod_lt (suP s - y.val) (suP_pos s)
  omega
 rw [h3,Nat.add_mod_mod]
theorem bitU_test (n:BitVec 64) (k:Nat) (h:k < 64):bitU n (k:Int)=Nat.testBit n.toNat k:=by
 unfold bitU
 rw [show Nat.min (k:Int).toNat 64=k from Nat.min_eq_left (by omega)]
 exact word_test n k
theorem sqB_gen {A B:Type} (tw su:A->A) (tw' su':B->B) (bc:Int->Bool) (bt:Nat->Bool) (m:B->A) (P:B->Prop) (h1:∀ u,P u->tw (m u)=m (tw' u) /\ P (tw' u)) (h2:∀ u,P u->su (m u)=m (su' u) /\ P (su' u)) :
 ∀ (k:Nat) (u:B),(∀ i,i < k->bc (i:Int)=bt i)->P u->sqB tw su bc k (m u)=m (sqB tw' su' (fun z=>bt z.toNat) k u) /\ P (sqB tw' su' (fun z=>bt z.toNat) k u)
 | 0,u,_,hu=>⟨rfl,hu⟩
 | k+1,u,hb,hu=>by
  simp only [sqB]
  rw [hb k (by omega),(h1 u hu).1,show ((k:Nat):Int).toNat=k from rfl]
  have hk:∀ i,i < k->bc (i:Int)=bt i:=fun i hi=>hb i (by omega)
  cases bt k with
  | true =>
   simp only [cond_true]
   rw [(h2 _ (h1 u hu).2).1]
   exact sqB_gen tw su tw' su' bc bt m P h1 h2 k _ hk (h2 _ (h1 u hu).2).2
  | false =>
   simp only [cond_false]
   exact sqB_gen tw su tw' su' bc bt m P h1 h2 k _ hk (h1 u hu).2
theorem sqB_nat {B:Type} (tw su:B->B) (bt:Nat->Bool) (f:Nat->B) (h1:∀ n,tw (f n)=f (2*n)) (h2:∀ n,su (f n)=f (n+1)) :
 ∀ (k m:Nat),sqB tw su (fun z=>bt z.toNat) k (f m)=f (m*2 ^ k+bitsV bt k)
 | 0,m=>by simp [sqB,bitsV]
 | k+1,m=>by
  simp only [sqB,bitsV]
  have e:m*2 ^ (k+1)=2*m*2 ^ k:=by rw [Nat.pow_succ,Nat.mul_comm 2 m,Nat.mul_assoc,Nat.mul_comm 2 (2 ^ k)]
  rw [h1,show ((k:Nat):Int).toNat=k from rfl]
  cases hb:bt k with
  | true =>
   simp only [cond_true]
   rw [h2,sqB_nat tw su bt f h1 h2 k,e,Nat.add_mul]
   congr 1
   omega
  | false =>
   simp only [cond_false]
   rw [sqB_nat tw su bt f h1 h2 k,e]
   congr 1
theorem bl_bits (n:BitVec 64):bitsV (fun i=>Nat.testBit n.toNat i) (bl n.toNat)=n.toNat:=by
 rw [bitsV_mod,Nat.mod_eq_of_lt (bl_spec.1 (Nat.le_refl _))]
theorem bl_64 (n:BitVec 64):bl n.toNat <= 64:=bl_spec.2 n.isLt
theorem lPow_fw (x:Fsu s) (n:BitVec 64):lPow s (fw x) n=fw (pwK x n.toNat):=by
 unfold lPow
 rw [sqF_eq (fun x f=>frcU_eq x f),<- fw_one (s:=s)]
 have h:=sqB_gen (fun u=>lMul s u u) (fun u=>lMul s u (fw x)) (fun u:Fsu s=>u*u) (fun u=>u*x) (bitU n) (fun i=>Nat.testBit n.toNat i) fw (fun _=>True)
  (fun u _=>⟨lMul_fw u u,trivial⟩) (fun u _=>⟨lMul_fw u x,trivial⟩) (bl n.toNat) 1 (fun i hi=>bitU_test n i (by have:=bl_64 n;omega)) trivial
 rw [h.1]
 have k:=sqB_nat (fun u:Fsu s=>u*u) (fun u=>u*x) (fun i=>Nat.testBit n.toNat i) (pwK x) (fun n=>(pwK_two x n).symm) (fun n=>rfl) (bl n.toNat) 0
 rw [Nat.zero_mul,Nat.zero_add,bl_bits] at k
 exact congrArg fw k
theorem lInv_fw (x:Fsu s):lInv s (fw x)=fw (ivF x):=by
 unfold lInv
 rw [lPow_fw]
 congr 2
 rw [BitVec.toNat_sub,suB_nat]
 have:=suP_60 s;have:=suP_big s
 show (2 ^ 64 - 2+suP s) % 2 ^ 64=suP s - 2
 omega
def wp (A:Ap (Fsu s)):Lp:=(fw A.x,fw A.y,A.zero)
theorem wp_zero:wp (⟨0,0,true⟩:Ap (Fsu s))=lp0:=by
 unfold wp lp0
 rw [fw_zero]
theorem wp_inj {A B:Ap (Fsu s)} (h:wp A=wp B):A=B:=by
 obtain ⟨x,y,z⟩:=A
 obtain ⟨u,v,w⟩:=B
 simp only [wp,Prod.mk.injEq] at h
 obtain ⟨h1,h2,rfl⟩:=h
 rw [fw_inj h1,fw_inj h2]
theorem lrF_fw (x:Fsu s):lrF s (fw x)=fw (x*x*x+x):=by
 unfold lrF
 rw [lMul_fw,lMul_fw,lAdd_fw]
theorem on_iff {p:Lp}:onF s p=true ↔ ∃ A:Ap (Fsu s),p=wp A /\ Cw.Pt A:=by
 obtain ⟨x,y,z⟩:=p
 constructor
 . intro h
   unfold onF at h
   cases z with
   | true =>
    simp only [cond_true] at h
    cases hx:x == 0#64 with
    | false=>rw [hx] at h;cases h
    | true =>
     rw [hx] at h
     simp only [cond_true] at h
     rw [eq_of_beq hx,eq_of_beq h]
     exact ⟨⟨0,0,true⟩,by rw [wp_zero];rfl,.zero⟩
   | false =>
    simp only [cond_false] at h
    cases hx:BitVec.ult x (suB s) with
    | false=>rw [hx] at h;cases h
    | true =>
     cases hy:BitVec.ult y (suB s) with
     | false=>rw [hx,hy] at h;cases h
     | true =>
      rw [hx,hy] at h
      simp only [cond_true] at h
      have h1:x.toNat < suP s:=by rw [<- suB_nat];exact of_decide_eq_true hx
      have h2:y.toNat < suP s:=by rw [<- suB_nat];exact of_decide_eq_true hy
      rw [fw_of h1,fw_of h2] at h ⊢
      rw [lMul_fw,lrF_fw] at h
      exact ⟨_,rfl,.of (x:=⟨x.toNat,h1⟩) (y:=⟨y.toNat,h2⟩) (fw_inj (eq_of_beq h))⟩
 . rintro ⟨A,h,hA⟩
   cases hA with
   | zero =>
    rw [h,wp_zero];rfl
   | of ho =>
    rename_i u v
    rw [h]
    have lt:∀ q:Fsu s,BitVec.ult (fw q) (suB s)=true:=fun q=>by
     apply decide_eq_true
     rw [fw_nat,suB_nat]
     exact q.isLt
    unfold onF
    show (bif false then _ else bif BitVec.ult (fw u) (suB s) then (bif BitVec.ult (fw v) (suB s) then lMul s (fw v) (fw v) == lrF s (fw u) else false) else false)=true
    rw [lt,lt,lMul_fw,lrF_fw]
    unfold Cw.On at ho
    rw [ho]
    simp
theorem lSlope_wp (A B:Ap (Fsu s)):lSlope s (wp A) (wp B)=bif !(eqF A.x B.x) then (fw (slope2K ivF A B),true) else bif !(eqF A.y B.y) then (0#64,false) else bif eqF A.y 0 then (0#64,false) else (fw (Cw.slope1W ivF A),true):=by
 unfold lSlope
 show (bif fw A.x != fw B.x then _ else bif fw A.y != fw B.y then _ else bif fw A.y == 0#64 then _ else _)=_
 rw [bne,fw_beq,bne,fw_beq,<- fw_zero (s:=s),fw_beq]
 unfold wp slope2K Cw.slope1W
 simp only [lSub_fw,lAdd_fw,lMul_fw,<- fw_one (s:=s),lInv_fw]
theorem lSum_wp {A B:Ap (Fsu s)} (hA:Cw.Pt A) (hB:Cw.Pt B):lSum s (wp A) (wp B)=wp (Cw.sumW ivF eqF A B):=by
 unfold lSum
 simp only [frcB_eq,frcU_eq]
 cases hA with
 | zero=>rfl
 | of g1 =>
  cases hB with
  | zero=>rfl
  | of g2 =>
   rename_i x1 y1 x2 y2
   show (bif !(lSlope s (wp (Cw.pt x1 y1)) (wp (Cw.pt x2 y2))).2 then _ else _)=_
   have F:=fdS s
   have hs:=lSlope_wp (Cw.pt x1 y1) (Cw.pt x2 y2)
   have fin:∀ m:Fsu s,(lSub s (lSub s (lMul s (fw m) (fw m)) (wp (Cw.pt x1 y1)).1) (wp (Cw.pt x2 y2)).1,lSub s (lMul s (fw m) (lSub s (wp (Cw.pt x1 y1)).1 (lSub s (lSub s (lMul s (fw m) (fw m)) (wp (Cw.pt x1 y1)).1) (wp (Cw.pt x2 y2)).1))) (wp (Cw.pt x1 y1)).2.1,false)=wp (chordK (Cw.pt x1 y1) (Cw.pt x2 y2) m):=fun m=>by
    show (lSub s (lSub s (lMul s (fw m) (fw m)) (fw x1)) (fw x2),lSub s (lMul s (fw m) (lSub s (fw x1) (lSub s (lSub s (lMul s (fw m) (fw m)) (fw x1)) (fw x2)))) (fw y1),false)=_
    simp only [lMul_fw,lSub_fw]
    rfl
   have sw:Cw.sumW ivF eqF (Cw.pt x1 y1) (Cw.pt x2 y2)=bif eqA eqF (Cw.pt x1 y1) (negK (Cw.pt x2 y2)) then ⟨0,0,true⟩ else bif eqA eqF (Cw.pt x1 y1) (Cw.pt x2 y2) then chordK (Cw.pt x1 y1) (Cw.pt x2 y2) (Cw.slope1W ivF (Cw.pt x1 y1)) else chordK (Cw.pt x1 y1) (Cw.pt x2 y2) (slope2K ivF (Cw.pt x1 y1) (Cw.pt x2 y2)):=rfl
   rw [sw]
   have q1:eqA eqF (Cw.pt x1 y1) (negK (Cw.pt x2 y2))=(eqF x1 x2 && (eqF y1 (-y2) && true)):=rfl
   have q2:eqA eqF (Cw.pt x1 y1) (Cw.pt x2 y2)=(eqF x1 x2 && (eqF y1 y2 && true)):=rfl
   rw [q1,q2]
   have hs':lSlope s (wp (Cw.pt x1 y1)) (wp (Cw.pt x2 y2))=bif !(eqF x1 x2) then (fw (slope2K ivF (Cw.pt x1 y1) (Cw.pt x2 y2)),true) else bif !(eqF y1 y2) then (0#64,false) else bif eqF y1 0 then (0#64,false) else (fw (Cw.slope1W ivF (Cw.pt x1 y1)),true):=hs
   rw [hs']
   cases hx:eqF x1 x2 with
   | false =>
    simp only [Bool.not_false,cond_true,Bool.not_true,cond_false,Bool.false_and]
    exact fin _
   | true =>
    have ex:=F.eq.1 hx
    subst ex
    simp only [Bool.not_true,cond_false,Bool.true_and,Bool.and_true]
    have hs2:(y1 - y2)*(y1+y2)=0:=by
     unfold Cw.On at g1 g2
     exact rg2 [x1,y1,y2] g1 1 g2 (-1)
    cases hy:eqF y1 y2 with
    | false =>
     have hn:y1=-y2:=by
      rcases F.zero_or hs2 with h | h
      . have:y1=y2:=rg1 [y1,y2] h 1
        rw [F.eq.2 this] at hy;cases hy
      . exact rg1 [y1,y2] h 1
     rw [F.eq.2 hn]
     simp only [Bool.not_false,cond_true,cond_false]
     rw [wp_zero];rfl
    | true =>
     have ey:=F.eq.1 hy
     subst ey
     simp only [Bool.not_true,cond_false]
     cases h0:eqF y1 0 with
     | true =>
      have e0:=F.eq.1 h0
      have hn:y1=-y1:=by rw [e0];exact rg_neg_zero.symm
      rw [F.eq.2 hn]
      simp only [cond_true,Bool.not_false]
      rw [wp_zero];rfl
     | false =>
      have hn:¬ y1=-y1:=fun h=>by
       have:y1=0:=F.two (rg1 [y1] h 1)
       rw [F.eq.2 this] at h0;cases h0
      rw [F.ne hn]
      simp only [cond_false,cond_true,Bool.not_true]
      exact fin _
theorem lTimes_wp {A:Ap (Fsu s)} (hA:Cw.Pt A) (n:BitVec 64):lTimes s (wp A) n=wp (Cw.nsm ivF eqF A n.toNat):=by
 unfold lTimes
 have F:=fdS s
 rw [sqF_eq (fun x f=>frcLp_eq x f),<- wp_zero (s:=s)]
 have h:=sqB_gen (fun u=>lSum s u u) (fun u=>lSum s u (wp A)) (fun u:Ap (Fsu s)=>Cw.sumW ivF eqF u u) (fun u=>Cw.sumW ivF eqF u A) (bitU n) (fun i=>Nat.testBit n.toNat i) wp Cw.Pt
  (fun u hu=>⟨lSum_wp hu hu,Cw.sum_pt F hu hu⟩) (fun u hu=>⟨lSum_wp hu hA,Cw.sum_pt F hu hA⟩) (bl n.toNat) ⟨0,0,true⟩ (fun i hi=>bitU_test n i (by have:=bl_64 n;omega)) .zero
 rw [h.1]
 have k:=sqB_nat (fun u:Ap (Fsu s)=>Cw.sumW ivF eqF u u) (fun u=>Cw.sumW ivF eqF u A) (fun i=>Nat.testBit n.toNat i) (Cw.nsm ivF eqF A) (fun n=>by rw [Nat.two_mul,Cw.nsm_add F hA]) (fun n=>rfl) (bl n.toNat) 0
 rw [Nat.zero_mul,Nat.zero_add,bl_bits] at k
 exact congrArg wp k
end
end Go.Rq.Sm

namespace Go.Rq
open Go
section
variable {K:Type} [Rg K]
variable {iv:K->K} {e:K->K->Bool}
end
end Go.Rq

namespace Go.Rq
open Go
set_option synthInstance.maxSize 100000
set_option synthInstance.maxHeartbeats 400000
section
variable {K:Type} [Rg K] {iv:K->K} {e:K->K->Bool}
theorem pwK_cube (x:K):∀ n:Nat,pwK x (3*n)=pwK (x*x*x) n
 | 0=>rfl
 | n+1=>by
  show pwK x (3*n+1+1+1)=pwK (x*x*x) n*(x*x*x)
  simp only [pwK]
  rw [pwK_cube x n]
  exact rg [x,pwK (x*x*x) n]
theorem no_cube (F:Fd K iv e) {m:Nat} (hiv:∀ x,iv x=pwK x (3*m - 1)) (hm:1 <= m) {c t:K} (hc:pwK c m ≠ 1) (h0:c ≠ 0) (h:t*t*t=c):False:=by
 have ht:t ≠ 0:=by
  rintro rfl
  exact h0 (rg1 [c] h (-1))
 have h1:=F.inv ht
 rw [hiv] at h1
 have h2:pwK t (3*m)=1:=by
  have:pwK t (3*m - 1+1)=1:=by rw [Rg.mul_comm] at h1;exact h1
  rw [show 3*m - 1+1=3*m by omega] at this
  exact this
 rw [pwK_cube,h] at h2
 exact hc h2
theorem zero_y {b x y:K} (h:On b x y) (hy:y=0):x*x*x=-b:=by
 unfold On at h
 subst hy
 exact rg1 [x,b] h (-1)
end
theorem cube_exp (x:F1):iv1 x=pwK x (3*((pN - 1) / 3) - 1):=by rw [iv1_pow,show pN - 2=3*((pN - 1) / 3) - 1 by decide +kernel]
theorem pw1_val {c:F1} {n:Nat} (h:RV (p:=pN) c n) (m:Nat) (hm:m < 2 ^ 384):RV (p:=pN) (pwK c m) (pm pN 384 n m 1):=by
 have h1:=pwF_val (p:=pN) c m
 rw [<- h.eq,pm_pow hm] at h1
 exact ⟨h1.symm⟩
theorem one1_val:RV (p:=pN) (1:F1) 1:=⟨by decide +kernel⟩
theorem zero1_val:RV (p:=pN) (0:F1) 0:=⟨(Nat.zero_mod pN).symm⟩
theorem ne1 {c d:F1} {n m:Nat} (h:RV (p:=pN) c n) (k:RV (p:=pN) d m) (hn:n ≠ m):c ≠ d:=by
 rintro rfl
 exact hn (h.eq.trans k.eq.symm)
theorem cube_a:pm pN 384 ((pN - 4) % pN) ((pN - 1) / 3) 1 ≠ 1:=by decide +kernel
theorem exp_small:(pN - 1) / 3 < 2 ^ 384:=by decide +kernel
theorem cv1 {b:F1} (hb:RV (p:=pN) b 4):Cv fd1 b where
 y:=fun {x y} h hy=>by
  have hc:RV (p:=pN) (-b) ((pN - 4) % pN):=rv_neg (p:=pN) hb
  exact no_cube fd1 cube_exp (by decide +kernel) (ne1 (pw1_val hc _ exp_small) one1_val cube_a) (ne1 hc zero1_val (by decide +kernel)) (zero_y h hy)
end Go.Rq

namespace Go.Rq
section
variable {K:Type} [Rg K] {iv:K->K} {e:K->K->Bool}
theorem nsm_mod (F:Fd K iv e) {b:K} (C:Cv F b) {A:Ap K} (hA:Pt b A) {r:Nat} (hr:nsm iv e A r=⟨0,0,true⟩) (n:Nat):nsm iv e A n=nsm iv e A (n % r):=by
 have h:=Nat.div_add_mod n r
 have h1:nsm iv e A (r*(n / r)+n % r)=nsm iv e A (n % r):=by
  rw [nsm_add F C hA,nsm_mul F C hA,hr,nsm_zero]
  rfl
 rw [h] at h1
 exact h1
theorem nsm_gcd (F:Fd K iv e) {b:K} (C:Cv F b) {A:Ap K} (hA:Pt b A) (x y:Nat):nsm iv e A x=⟨0,0,true⟩->nsm iv e A y=⟨0,0,true⟩->nsm iv e A (Nat.gcd x y)=⟨0,0,true⟩:=by
 induction x,y using Nat.gcd.induction with
 | H0 y=>intro _ hy;rw [Nat.gcd_zero_left];exact hy
 | H1 x y hx ih =>
  intro h1 h2
  rw [Nat.gcd_rec]
  exact ih (by rw [<- nsm_mod F C hA h1];exact h2) h1
theorem nsm_one (A:Ap K):nsm iv e A 1=A:=by
 show sumA iv e ⟨0,0,true⟩ A=A
 exact sum_zero_l
theorem nsm_none (F:Fd K iv e) {b:K} (C:Cv F b) {A:Ap K} (hA:Pt b A) {r:Nat} (hp:Pr r) (hr:nsm iv e A r=⟨0,0,true⟩) (h0:A.zero=false) (n:Nat):(nsm iv e A n).zero=decide (n % r=0):=by
 by_cases h:n % r=0
 . rw [nsm_mod F C hA hr,h,decide_eq_true rfl]
   rfl
 . rw [decide_eq_false h]
   cases hz:(nsm iv e A n).zero with
   | false=>rfl
   | true =>
    exfalso
    have h1:=(nsm_pt F hA n).z hz
    have h2:=nsm_gcd F C hA r n hr h1
    have hc:Nat.Coprime r n:=hp.coprime (fun hd=>h (Nat.mod_eq_zero_of_dvd hd))
    rw [hc,nsm_one] at h2
    rw [h2] at h0
    cases h0
end
end Go.Rq

namespace Go.Rq
open Go
def pathL:List Bool->Tree AV->Option (List Bool × List (XS × XS) × AV)
 | _,.leaf a=>some ([],[],a)
 | ds,.need b t=>match pathL ds t with
  | some (p,l,x)=>some (b :: p,l,x)
  | none=>none
 | ds,.same x y t=>match pathL ds t with
  | some (p,l,a)=>some (p,(x,y) :: l,a)
  | none=>none
 | [],.br b t _=>match pathL [] t with
  | some (p,l,x)=>some (b :: p,l,x)
  | none=>none
 | true :: ds,.br b t _=>match pathL ds t with
  | some (p,l,x)=>some (b :: p,l,x)
  | none=>none
 | false :: ds,.br b _ f=>match pathL ds f with
  | some (p,l,x)=>some ((!b) :: p,l,x)
  | none=>none
 | _,.fail=>none
theorem pathL_holds:∀ {t:Tree AV} {ds:List Bool} {c:List Bool} {l:List (XS × XS)} {r:AV},pathL ds t=some (c,l,r)->(∀ b ∈ c,b=true)->(∀ p ∈ l,p.1=p.2)->t.holds (fun q=>q=r)
 | .leaf a,ds,c,l,r,h,_,_=>by
  have h:some (([]:List Bool),([]:List (XS × XS)),a)=some (c,l,r):=by cases ds <;> exact h
  simp only [Option.some.injEq,Prod.mk.injEq] at h
  exact h.2.2
 | .need b t,ds,c,l,r,h,hc,hl=>by
  have h:(match pathL ds t with
   | some (p,l,x)=>some (b :: p,l,x)
   | none=>none)=some (c,l,r):=by cases ds <;> exact h
  split at h
  . rename_i p m x hp
    simp only [Option.some.injEq,Prod.mk.injEq] at h
    obtain ⟨rfl,rfl,rfl⟩:=h
    exact ⟨hc b List.mem_cons_self,pathL_holds hp (fun q hq=>hc q (List.mem_cons_of_mem _ hq)) hl⟩
  . cases h
 | .same x y t,ds,c,l,r,h,hc,hl=>by
  have h:(match pathL ds t with
   | some (p,l,a)=>some (p,(x,y) :: l,a)
   | none=>none)=some (c,l,r):=by cases ds <;> exact h
  split at h
  . rename_i p m a hp
    simp only [Option.some.injEq,Prod.mk.injEq] at h
    obtain ⟨rfl,rfl,rfl⟩:=h
    exact ⟨hl (x,y) List.mem_cons_self,pathL_holds hp hc fun p hm=>hl p (List.mem_cons_of_mem _ hm)⟩
  . cases h
 | .br b t f,[],c,l,r,h,hc,hl=>by
  simp only [pathL] at h
  split at h
  . rename_i p m x hp
    simp only [Option.some.injEq,Prod.mk.injEq] at h
    obtain ⟨rfl,rfl,rfl⟩:=h
    have hb:b=true:=hc b List.mem_cons_self
    exact ⟨fun _=>pathL_holds hp (fun q hq=>hc q (List.mem_cons_of_mem _ hq)) hl,fun e=>by rw [hb] at e;cases e⟩
  . cases h
 | .br b t f,true :: ds,c,l,r,h,hc,hl=>by
  simp only [pathL] at h
  split at h
  . rename_i p m x hp
    simp only [Option.some.injEq,Prod.mk.injEq] at h
    obtain ⟨rfl,rfl,rfl⟩:=h
    have hb:b=true:=hc b List.mem_cons_self
    exact ⟨fun _=>pathL_holds hp (fun q hq=>hc q (List.mem_cons_of_mem _ hq)) hl,fun e=>by rw [hb] at e;cases e⟩
  . cases h
 | .br b t f,false :: ds,c,l,r,h,hc,hl=>by
  simp only [pathL] at h
  split at h
  . rename_i p m x hp
    simp only [Option.some.injEq,Prod.mk.injEq] at h
    obtain ⟨rfl,rfl,rfl⟩:=h
    have hb:(!b)=true:=hc (!b) List.mem_cons_self
    exact ⟨fun e=>(by rw [e] at hb;cases hb),fun _=>pathL_holds hp (fun q hq=>hc q (List.mem_cons_of_mem _ hq)) hl⟩
  . cases h
 | .fail,ds,c,l,r,h,_,_=>by
  have h:(none:Option (List Bool × List (XS × XS) × AV))=some (c,l,r):=by cases ds <;> exact h
  cases h
def valL (ds:List Bool) (t:Tree AV):Option (List Bool × List (XS × XS) × Option Value):=match pathL ds t with
 | some (c,l,r)=>some (c,l,flat r)
 | none=>none
theorem givesL {ds:List Bool} {c:List Bool} {l:List (XS × XS)} {v:Value} {t:Tree AV} (h:valL ds t=some (c,l,some v)) (hl:∀ p ∈ l,p.1=p.2) (hc:∀ b ∈ c,b=true):Gives t v:=by
 unfold valL at h
 split at h
 . rename_i q m r hr
   simp only [Option.some.injEq,Prod.mk.injEq] at h
   obtain ⟨rfl,rfl,hv⟩:=h
   exact ⟨Tree.holds_mono (fun a ha=>by rw [ha];exact hv) (pathL_holds hr hc hl)⟩
 . cases h
theorem all_cons {b:Bool} {l:List Bool} (h:b=true) (k:∀ c ∈ l,c=true):∀ c ∈ b :: l,c=true:=fun c hc=>by
 rcases List.mem_cons.1 hc with rfl | hc
 . exact h
 . exact k c hc
theorem all_nil:∀ c ∈ ([]:List Bool),c=true:=fun c hc=>by cases hc
end Go.Rq

namespace Go.Rq
structure Gm (G:Type) where
 add:G->G->G
 zero:G
 neg:G->G
 comm:∀ a b,add a b=add b a
 assoc:∀ a b c,add (add a b) c=add a (add b c)
 nought:∀ a,add zero a=a
 inv:∀ a,add (neg a) a=zero
namespace Gm
variable {G:Type} (g:Gm G)
def mul:Nat->G->G
 | 0,_=>g.zero
 | n+1,a=>g.add (mul n a) a
theorem nought' (a:G):g.add a g.zero=a:=by rw [g.comm,g.nought]
theorem swap4 (a b c d:G):g.add (g.add a b) (g.add c d)=g.add (g.add a c) (g.add b d):=by
 rw [g.assoc,<- g.assoc b,g.comm b c,g.assoc c,<- g.assoc a]
theorem mul_zero:∀ n:Nat,g.mul n g.zero=g.zero
 | 0=>rfl
 | n+1=>by show g.add (g.mul n g.zero) g.zero=_;rw [mul_zero n,g.nought]
theorem mul_add (a:G):∀ m n:Nat,g.mul (m+n) a=g.add (g.mul m a) (g.mul n a)
 | m,0=>(g.nought' _).symm
 | m,n+1=>by show g.add (g.mul (m+n) a) a=g.add (g.mul m a) (g.add (g.mul n a) a);rw [mul_add a m n,g.assoc]
theorem mul_sum (a b:G):∀ n:Nat,g.mul n (g.add a b)=g.add (g.mul n a) (g.mul n b)
 | 0=>(g.nought _).symm
 | n+1=>by show g.add (g.mul n (g.add a b)) (g.add a b)=g.add (g.add (g.mul n a) a) (g.add (g.mul n b) b);rw [mul_sum a b n,g.swap4]
theorem mul_mul (a:G) (m:Nat):∀ n:Nat,g.mul n (g.mul m a)=g.mul (m*n) a
 | 0=>rfl
 | n+1=>by show g.add (g.mul n (g.mul m a)) (g.mul m a)=_;rw [mul_mul a m n,Nat.mul_succ,g.mul_add]
theorem mul_mod {r:Nat} {a:G} (h:g.mul r a=g.zero) (n:Nat):g.mul (n % r) a=g.mul n a:=by
 have e:=Nat.div_add_mod n r
 have k:g.mul n a=g.add (g.mul (r*(n / r)) a) (g.mul (n % r) a):=by rw [<- g.mul_add,e]
 rw [k,<- g.mul_mul,h,g.mul_zero,g.nought]
end Gm
end Go.Rq

namespace Go.Rq
def valN (r x:Nat):List Nat->Nat
 | []=>0
 | c :: t=>(valN r x t*x % r+c) % r
theorem valN_lt {r:Nat} (hr:0 < r) (x:Nat):∀ l:List Nat,valN r x l < r
 | []=>hr
 | _ :: _=>Nat.mod_lt _ hr
namespace Gm
variable {G:Type} (g:Gm G)
def com (γ η:G) (u v:Nat):G:=g.add (g.mul u γ) (g.mul v η)
def atG (x:Nat):List G->G
 | []=>g.zero
 | [c]=>c
 | c :: d :: t=>g.add (g.mul x (atG x (d :: t))) c
section
variable {r:Nat} {γ η:G}
theorem com_mod (h1:g.mul r γ=g.zero) (h2:g.mul r η=g.zero) (u v:Nat):g.com γ η (u % r) (v % r)=g.com γ η u v:=by
 unfold com
 rw [g.mul_mod h1,g.mul_mod h2]
theorem com_add (u v u' v':Nat):g.add (g.com γ η u v) (g.com γ η u' v')=g.com γ η (u+u') (v+v'):=by
 unfold com
 rw [g.swap4,<- g.mul_add,<- g.mul_add]
theorem com_sum (h1:g.mul r γ=g.zero) (h2:g.mul r η=g.zero) (u v u' v':Nat):g.add (g.com γ η u v) (g.com γ η u' v')=g.com γ η ((u+u') % r) ((v+v') % r):=by
 rw [g.com_add,g.com_mod h1 h2]
theorem com_mul (n u v:Nat):g.mul n (g.com γ η u v)=g.com γ η (u*n) (v*n):=by
 unfold com
 rw [g.mul_sum,g.mul_mul,g.mul_mul]
theorem at_com (h1:g.mul r γ=g.zero) (h2:g.mul r η=g.zero) (x:Nat):∀ (l:List (Nat × Nat)),l ≠ [] ->
 g.atG x (l.map fun p=>g.com γ η p.1 p.2)=g.com γ η (valN r x (l.map (·.1))) (valN r x (l.map (·.2)))
 | [],h=>absurd rfl h
 | [p],_=>by
  show g.com γ η p.1 p.2=g.com γ η ((0*x % r+p.1) % r) ((0*x % r+p.2) % r)
  rw [Nat.zero_mul,Nat.zero_mod,Nat.zero_add,Nat.zero_add,g.com_mod h1 h2]
 | p :: q :: t,_=>by
  have ih:=at_com h1 h2 x (q :: t) (by simp)
  show g.add (g.mul x (g.atG x ((q :: t).map fun p=>g.com γ η p.1 p.2))) (g.com γ η p.1 p.2)=g.com γ η ((valN r x ((q :: t).map (·.1))*x % r+p.1) % r) ((valN r x ((q :: t).map (·.2))*x % r+p.2) % r)
  rw [ih,g.com_mul,g.com_add,g.com_mod h1 h2,<- g.com_mod h1 h2 (_ % r+_),Nat.mod_add_mod,Nat.mod_add_mod,g.com_mod h1 h2]
end
end Gm
namespace Gm
variable {G:Type} (g:Gm G)
end Gm
end Go.Rq

namespace Go.Rq
open Go
structure OutH (t:Tree (AV × AH)) (r:AV) (H:AH):Prop where
 out:t.holds (fun q=>q.1=r /\ ∀ id B,H.get id=some B->q.2.get id=some B)
def SpecOk (P:Program) (f:Nat) (spec:List AV->AH->Nat->Option (AV × AH)):Prop:=∀ args h n r h',spec args h n=some (r,h') ->
 ∃ E sym tab lf fn c,EnvOk P E /\ P.follows .mixedOrders=true /\ P.funcs.toList[f]?=some fn /\ fn.body=some c /\ codeOk E c=true /\ TabOk P n tab c /\
  OutH (afun P E sym tab lf f args h n) r h'
def deepS (spec:List AV->AH->Nat->Option (AV × AH)) (kk:Nat) (rd:Bool) (args:List AV) (h:AH) (z:Nat):Option (Bool × AV × AH) :=
 match closeI h 65536 (args.foldr nm3 []) [] with
 | none=>none
 | some ids=>match spec (args.map (mv3 (inM ids))) (inH h (inM ids) (!rd) ids 0) ids.length with
  | none=>none
  | some (r,h')=>backL kk rd ids z r h' (closeX h' ids.length 65536 (nm3 r (bif rd then [] else namesH h' ids.length)) [])
theorem deepS_ok {P:Program} {f kk:Nat} {rd:Bool} {spec:List AV->AH->Nat->Option (AV × AH)} (X:SpecOk P f spec):ActOk P kk f (deepS spec kk rd):=by
 have same:∀ {args:List AV} {h h':AH} {z:Nat} {x:Bool × AV × AH},(∀ ids,closeI h 65536 (args.foldr nm3 []) []=some ids->closeI h' 65536 (args.foldr nm3 []) []=some ids /\ ∀ i ∈ ids,h.get i=h'.get i) ->
  deepS spec kk rd args h z=some x->deepS spec kk rd args h' z=some x:=by
  intro args h h' z x hh hg
  unfold deepS at hg ⊢
  split at hg
  . cases hg
  . rename_i ids hi
    obtain ⟨h1,h2⟩:=hh ids hi
    have e:∀ (l:List Nat) (n:Nat),(∀ i ∈ l,h.get i=h'.get i)->inH h (inM ids) (!rd) l n=inH h' (inM ids) (!rd) l n:=by
     intro l
     induction l with
     | nil=>intro n _;rfl
     | cons i t ih =>
      intro n hl
      simp only [inH]
      rw [hl i (by simp),ih (n+1) (fun j hj=>hl j (by simp [hj]))]
    simp only [h1]
    rw [<- e ids 0 h2]
    exact hg
 have hin:∀ {args:List AV} {h:AH} {ids:List Nat},closeI h 65536 (args.foldr nm3 []) []=some ids->∀ i ∈ ids,∃ B,h.get i=some B:=fun e=>closeI_in e (fun i hi=>by simp at hi)
 refine ⟨?_,fun args h h' z x hle hg=>same (fun ids hi=>⟨closeI_mono hle hi,fun i hm=>?_⟩) hg,fun F ρ args xs z u h w x hx hw hu hg=>?_,fun args h z c' r ups hg=>?_⟩
 . intro F ρ args xs h z r ups w hg hx hw hz
   unfold deepS at hg
   split at hg
   . cases hg
   rename_i ids hi
   split at hg
   . cases hg
   rename_i r0 h0 hq
   unfold backL at hg
   obtain ⟨hc,hg⟩:=cond_some hg
   simp only [Bool.and_eq_true] at hc
   obtain ⟨c1,c2,c3⟩:=hc
   simp at hg
   obtain ⟨rfl,rfl⟩:=hg
   have hnd:ids.Nodup:=closeI_nodup hi List.nodup_nil
   obtain ⟨E,sym,tab,lf,fn,c,hE,hm,hf,hb,hok,htab,hrun⟩:=X _ _ _ _ _ hq
   have hcall:=afun_calls hE hm hf hb hok htab (K:=fun a h'=>a=r0 /\ ∀ id B,h0.get id=some B->h'.get id=some B) hrun.out (F:=deepF ρ h (bif rd then [] else ids) w)
    (Rvs.mapS (mv3_ok NmOk.ins) hx) (deep_in hw rd hnd) (fun id hid=>by
     have:ids[id]?=none:=by rw [List.getElem?_eq_none_iff];exact hid
     simp [Ren.ins,this])
   refine Calls.mono hcall ?_
   rintro e w' ⟨v,q,h',ρ',rfl,⟨rfl,hk⟩,hrv,hrw,hsame⟩
   have hrw:=hrw.sub hk
   have c1:=Nat.le_of_ble_eq_true c1
   refine ⟨v,ρ.out ρ' _ z,rfl,Ren.le_out hz c1,fun j hj=>?_,mv3_ok (NmOk.out hz c1 hsame) _ _ hrv,?_⟩
   . exact (Ren.out_old (fun hh=>hj ⟨hh.1,by omega⟩)).1
   . exact deep_out hw (hin hi) hz c1 (nodB_spec c2) (newOk_spec c3) hrw hsame
 . obtain ⟨B,hB⟩:=hin hi i hm
   rw [hB,hle i B hB]
 . refine same (fun ids hi=>?_) hg
   have hn:∀ i ∈ args.foldr nm3 [],ρ i ≠ none:=fun i hm=>(foldr_named nm3_named hx hm).resolve_left (by simp)
   have h1:=closeI_local hw hu hn hi
   refine ⟨h1,fun i hm=>?_⟩
   obtain ⟨B,hB⟩:=hin h1 i hm
   obtain ⟨b,o,g1,_⟩:=hw.blk i B hB
   rw [AH.get_append,if_neg]
   rintro ⟨p,hp,rfl⟩
   rw [hu p hp] at g1;cases g1
 . unfold deepS at hg
   split at hg
   . cases hg
   rename_i ids hi
   split at hg
   . cases hg
   unfold backL at hg
   obtain ⟨hc,hg⟩:=cond_some hg
   simp only [Bool.and_eq_true] at hc
   have c1:=Nat.le_of_ble_eq_true hc.1
   simp at hg
   obtain ⟨-,-,rfl⟩:=hg
   intro p hp
   rcases List.mem_append.1 hp with hp | hp
   . have:=newH_dom p hp
     exact .inl ⟨this.1,by omega⟩
   . refine .inr (hin hi p.1 ?_)
     have:=oldH_dom p hp
     cases rd with
     | true=>simp at this
     | false=>exact this
end Go.Rq

namespace Go.Rq
open Go
def nrm:AV->AV
 | .v (.int .u64 (.ofNat n))=>match Nat.decLt n (2 ^ 64) with
  | .isTrue _=>.u (BitVec.ofNat 64 n)
  | .isFalse _=>.v (.int .u64 (.ofNat n))
 | .agg l=>.agg (go l)
 | .tup l=>.tup (go l)
 | a=>a
where
 go:List AV->List AV
 | []=>[]
 | a :: l=>nrm a :: go l
mutual
theorem nrm_rv {ρ:Ren}:∀ {a:AV} {x:Value},Rv ρ a x->Rv ρ (nrm a) x:=by
 intro a x h
 unfold nrm
 split
 . rename_i n
   split
   . rename_i hn _
     cases h
     have e:=Rv.u (ρ:=ρ) (BitVec.ofNat 64 n)
     have e2:uval (BitVec.ofNat 64 n)=.int .u64 (Int.ofNat n):=by
      show Value.int .u64 (((BitVec.ofNat 64 n).toNat:Nat):Int)=_
      rw [BitVec.toNat_ofNat,Nat.mod_eq_of_lt hn]
      rfl
     rw [e2] at e
     exact e
   . exact h
 . rename_i l
   cases h
   rename_i xs hl hh
   have:=nrm_go l xs.toList ⟨by rw [hl,Array.length_toList],fun i a x ha hx=>hh i a x ha (by rw [<- Array.getElem?_toList];exact hx)⟩
   exact .agg (by rw [this.1,Array.length_toList]) fun i a x ha hx=>this.2 i a x ha (by rw [Array.getElem?_toList];exact hx)
 . rename_i l
   cases h
   rename_i xs hl hh
   have:=nrm_go l xs.toList ⟨by rw [hl,Array.length_toList],fun i a x ha hx=>hh i a x ha (by rw [<- Array.getElem?_toList];exact hx)⟩
   exact .tup (by rw [this.1,Array.length_toList]) fun i a x ha hx=>this.2 i a x ha (by rw [Array.getElem?_toList];exact hx)
 . exact h
theorem nrm_go {ρ:Ren}:∀ (l:List AV) (xs:List Value),Rvs ρ l xs->Rvs ρ (nrm.go l) xs:=by
 intro l xs h
 match l with
 | []=>exact h
 | a :: l =>
  obtain ⟨x,ys,rfl,h1,h2⟩:=h.uncons
  exact Rvs.cons (nrm_rv h1) (nrm_go l ys h2)
end
def nrmG (g:List AV->Option (Bool × AV)) (as:List AV):Option (Bool × AV):=match g as with
 | some (b,r)=>some (b,nrm r)
 | none=>none
theorem nrmG_ok {P:Program} {f:FuncId} {g:List AV->Option (Bool × AV)} (h:CallOk P f g):CallOk P f (nrmG g):=by
 have key:∀ {as:List AV} {r:AV},nrmG g as=some (true,r)->∃ r0,g as=some (true,r0) /\ r=nrm r0:=by
  intro as r e
  unfold nrmG at e
  split at e
  . rename_i b r0 h0
    simp only [Option.some.injEq,Prod.mk.injEq] at e
    obtain ⟨rfl,rfl⟩:=e
    exact ⟨r0,h0,rfl⟩
  . cases e
 rcases h with ⟨h1,h2⟩ | h2
 . refine .inl ⟨h1,fun ρ as xs r hg hx w hw=>?_⟩
   obtain ⟨r0,e0,rfl⟩:=key hg
   exact (h2 ρ as xs r0 e0 hx w hw).mono fun e w' hh=>by
    obtain ⟨v,e1,e2,e3⟩:=hh
    exact ⟨v,e1,nrm_rv e2,e3⟩
 . refine .inr fun ρ as xs r hg hx w=>?_
   obtain ⟨r0,e0,rfl⟩:=key hg
   obtain ⟨v,e1,e2⟩:=h2 ρ as xs r0 e0 hx w
   exact ⟨v,e1,nrm_rv e2⟩
end Go.Rq

namespace Go.Rq
open Go Go.ChangeShapes Go.WideShapes Go.RowKit
section
variable {H:Type} {enc:TypeId × Value->H} {P:Program}
theorem trodCons {w:World} {base:Nat} {sp:Nat->Bool} {held:Bool} {t:TypeId} {ts:List TypeId} {v:Value} {vs:List Value} {d:DataW H} {ds:List (DataW H)} {p p':List MemPlace}
 (h:DataW.Trod enc P w base sp held t v d p) (hs:DataW.TrodAll enc P w base sp held ts vs ds p'):DataW.TrodAll enc P w base sp held (t :: ts) (v :: vs) (d :: ds) (p ++ p'):=⟨p,p',h,hs,rfl⟩
theorem stays_all (hl:laidOutB P=true) {W W':World} {sp:Nat->Bool} (hb:Below W.heap.size W W') :
 ∀ {ts:List TypeId} {vs:List Value} {ds:List (DataW H)} {ps:List MemPlace},(∀ t ∈ ts,P.readableRec t=true /\ t < P.types.size) ->
 DataW.TrodAll enc P W 0 (fun _=>true) true ts vs ds ps->(∀ x ∈ ps,x.block < W.heap.size)->(∀ x ∈ ps,sp x.block=true)->DataW.TrodAll enc P W' 0 sp true ts vs ds ps
 | [],vs,ds,ps,_,h,_,_=>by
  obtain ⟨rfl,rfl,rfl⟩:=trodAll_nil h
  exact trodAll_mk0
 | t :: ts,vs,ds,ps,hr,h,hlt,hs=>by
  obtain ⟨v,vs',d,ds',p,q,rfl,rfl,rfl,h1,h2⟩:=trodAll_cons h
  obtain ⟨r1,r2⟩:=hr t (by simp)
  exact trodCons (WideElems.Trod_stays hl r1 r2 h1 (fun x hx=>hb.same (hlt x (by simp [hx]))) (fun x hx=>hs x (by simp [hx])))
   (stays_all hl hb (fun u hu=>hr u (by simp [hu])) h2 (fun x hx=>hlt x (by simp [hx])) (fun x hx=>hs x (by simp [hx])))
theorem trodAll_length {W:World} {base:Nat} {sp:Nat->Bool} {held:Bool}:∀ {ts:List TypeId} {vs:List Value} {ds:List (DataW H)} {ps:List MemPlace},
 DataW.TrodAll enc P W base sp held ts vs ds ps->ds.length=ts.length
 | [],vs,ds,ps,h=>by obtain ⟨_,rfl,_⟩:=trodAll_nil h;rfl
 | t :: ts,vs,ds,ps,h=>by
  obtain ⟨v,vs',d,ds',p,q,rfl,rfl,rfl,_,h2⟩:=trodAll_cons h
  simp [trodAll_length h2]
structure LawSpec (s:ChangeSpec) (k:Nat):Prop where
 vars:s.vars=[]
 fn:∀ (H:Type) (ds:List (DataW H)),ds.length=k->s.fn H ds={ results:=[.lit (.bool true)],args:=ds }
theorem law_post {f:Func} {s:ChangeSpec} {k:Nat} (hs:LawSpec s k) (hk:f.params.size=k) {tb:TypeId} (hrt:f.resultTypes=#[tb]) (hb:P.underlying tb=some .bool)
 (hl:laidOutB P=true) (hr:∀ t ∈ f.params.toList,P.readableRec t=true /\ t < P.types.size) {apart fresh handsOn again:Bool}
 {W W':World} {args:Array Value} {ds gs:List (DataW H)} {before:List MemPlace} (hW:DataW.Whole enc P f.params.toList s.vars apart W args.toList ds gs before)
 (hbl:Below W.heap.size W W'):s.post enc P f apart fresh handsOn again W args (.bool true) W':=by
 have hlt:=hW.lt
 have hW':=hW
 obtain ⟨p,q,hA,hV,rfl,hfz,hnd⟩:=hW
 rw [hs.vars] at hV
 obtain ⟨rfl,rfl⟩:=trodVars_none hV
 have hlen:ds.length=k:=by rw [trodAll_length hA,<- hk];simp
 have hfn:s.fn H (ds ++ [])={ results:=[.lit (.bool true)],args:=ds }:=by rw [List.append_nil];exact hs.fn H ds hlen
 simp only [List.append_nil] at hlt hfz hnd
 have hres:∀ (b:Nat) (sp:Nat->Bool) (hd:Bool),DataW.TrodAll enc P W' b sp hd f.resultTypes.toList ((Value.bool true).resultList f.resultTypes.size) (s.fn H (ds ++ [])).results []:=by
  intro b sp hd
  rw [hfn,hrt]
  exact trodAll_mk1 (shut_bool hb true)
 have hargs:∀ sp:Nat->Bool,(∀ x ∈ p,sp x.block=true)->DataW.TrodAll enc P W' 0 sp true f.params.toList args.toList (s.fn H (ds ++ [])).args p:=by
  intro sp hsp
  rw [hfn]
  exact stays_all hl hbl hr hA hlt hsp
 have hvars:∀ sp:Nat->Bool,DataW.TrodVars enc P W' sp s.vars (s.fn H (ds ++ [])).vars []:=by
  intro sp
  rw [hfn,hs.vars]
  rfl
 refine ⟨ds,[],p ++ [],[],p,[],hW',hres _ _ _,hargs _ (fun x hx=>by simpa using hlt x hx),hvars _,hbl.frame _,fun _=>?_⟩
 refine ⟨?_,_,_,([] ++ p) ++ [],⟨[] ++ p,[],trodAll_append (hargs _ (fun _ _=>rfl)) (hres _ _ _),hvars _,rfl,?_,?_⟩,?_⟩
 . intro j t r hj hv
   rw [hrt] at hj hv
   cases j with
   | zero =>
    simp [Value.resultList] at hj hv
    subst hj;subst hv
    exact okWide_bool_mk hb true
   | succ j=>simp at hj
 . intro b off hp
   have hp':MemPlace.cell b off ∈ p:=by simpa using hp
   have:W'.frozen? ⟨b,off,none⟩=W.frozen? ⟨b,off,none⟩:=hbl.frozen (hlt _ hp')
   rw [this]
   exact hfz b off (by simpa using hp)
 . intro ha
   simpa using hnd ha
 . intro x hx _
   simpa using hx
theorem law_handed {C:Checked} {os:Os} {f:FuncId} {fn:Func} {s:ChangeSpec} {k:Nat} {conds:List PathCond} {apart fresh handsOn again:Bool} {a:Assume}
 (own:ownKnob C.prog.godebug=none) (started:os.Started) (noInit:C.prog.inits.idxOf? f=none) (hfn:C.prog.funcs[f]?=some fn)
 (witness:∃ (w:World) (tape:Tape) (i:Input),w.os=os /\ (w.forCall tape i).Shaped C.prog /\ i.vars=[] /\ Input.okWide C.prog (w.forCall tape i) .any w.heap.size f i /\
  s.pre6 enc C.prog fn conds apart (w.forCall tape i).memory i.args /\ a.holds C.prog (lone (Frame.enter C.prog f i.args .normal) [] (w.forCall tape i)))
 (hs:LawSpec s k) (hk:fn.params.size=k) {tb:TypeId} (hrt:fn.resultTypes=#[tb]) (hb:C.prog.underlying tb=some .bool)
 (hl:laidOutB C.prog=true) (hr:∀ t ∈ fn.params.toList,C.prog.readableRec t=true /\ t < C.prog.types.size)
 (hcall:∀ (W:World) (base:Nat) (args:Array Value) (ds:List (DataW H)) (p:List MemPlace),
  (∀ (j:Nat) t v,fn.params[j]?=some t->args[j]?=some v->Value.okWide C.prog W .any base t v) ->
  DataW.TrodAll enc C.prog W 0 (fun _=>true) true fn.params.toList args.toList ds p ->
  Calls C.prog f args W fun e W'=>e=.returned (.bool true) /\ Below W.heap.size W W') :
 ReturnsInHanded a C os f .any (s.pre6 enc C.prog fn conds apart) (s.post enc C.prog fn apart fresh handsOn again):=by
 refine returnsInHanded_of_change own started noInit hfn witness ?_
 intro W base args ds gs before hval hW _ _
 have hW':=hW
 obtain ⟨p,q,hA,_⟩:=hW
 refine (hcall W base args ds p hval hA).mono fun e W' ⟨he,hbl⟩=>?_
 exact ⟨_,he,law_post hs hk hrt hb hl hr hW' hbl⟩
theorem law_handed_and {C:Checked} {os:Os} {f:FuncId} {fn:Func} {s:ChangeSpec} {k:Nat} {conds:List PathCond} {apart fresh handsOn again:Bool} {a:Assume} {X:World->Array Value->Prop}
 (hX:∀ (w w':World) (args:Array Value),w.heap=w'.heap->X w args->X w' args)
 (own:ownKnob C.prog.godebug=none) (started:os.Started) (noInit:C.prog.inits.idxOf? f=none) (hfn:C.prog.funcs[f]?=some fn)
 (witness:∃ (w:World) (tape:Tape) (i:Input),w.os=os /\ (w.forCall tape i).Shaped C.prog /\ i.vars=[] /\ Input.okWide C.prog (w.forCall tape i) .any w.heap.size f i /\
  ((s.pre enc C.prog fn conds apart (w.forCall tape i).memory i.args /\ X (w.forCall tape i).memory i.args) /\ sizedMet enc C.prog fn (OpenSpec.ofChange s) apart (w.forCall tape i).memory i.args) /\ a.holds C.prog (lone (Frame.enter C.prog f i.args .normal) [] (w.forCall tape i)))
 (hs:LawSpec s k) (hk:fn.params.size=k) {tb:TypeId} (hrt:fn.resultTypes=#[tb]) (hb:C.prog.underlying tb=some .bool)
 (hl:laidOutB C.prog=true) (hr:∀ t ∈ fn.params.toList,C.prog.readableRec t=true /\ t < C.prog.types.size)
 (hcall:∀ (W:World) (base:Nat) (args:Array Value) (ds:List (DataW H)) (p:List MemPlace),
  (∀ (j:Nat) t v,fn.params[j]?=some t->args[j]?=some v->Value.okWide C.prog W .any base t v) ->
  DataW.TrodAll enc C.prog W 0 (fun _=>true) true fn.params.toList args.toList ds p->X W args ->
  Calls C.prog f args W fun e W'=>e=.returned (.bool true) /\ Below W.heap.size W W') :
 ReturnsInHanded a C os f .any (fun w args=>(s.pre enc C.prog fn conds apart w args /\ X w args) /\ sizedMet enc C.prog fn (OpenSpec.ofChange s) apart w args) (s.post enc C.prog fn apart fresh handsOn again):=by
 refine returnsInHanded_of_change_and hX own started noInit hfn witness ?_
 intro W base args ds gs before hval hW _ _ hx _
 have hW':=hW
 obtain ⟨p,q,hA,_⟩:=hW
 refine (hcall W base args ds p hval hA hx).mono fun e W' ⟨he,hbl⟩=>?_
 exact ⟨_,he,law_post hs hk hrt hb hl hr hW' hbl⟩
end
end Go.Rq

namespace Go.Rq
open Go Go.WideShapes
section
variable {P:Program} {w:World} {r:Reach} {base:Nat} {t u:TypeId} {v:Value}
end
end Go.Rq

namespace Go.Rq
open Go Go.RowKit
end Go.Rq

namespace Go.Rq
open Go Go.ChangeShapes Go.WideShapes Go.RowKit
theorem rowAt_le {p:Program} {fits:TypeId->Bool} {d:Nat} {e:TypeId} {count off n:Nat} (h:rowAt p fits d e count off n=true):off <= count*p.cellsOf e:=by
 cases d with
 | zero=>simp [rowAt] at h
 | succ d =>
  unfold rowAt at h
  simp only at h
  split at h
  . cases h
  . rename_i hs
    have hm:=Nat.div_add_mod off (p.cellsOf e)
    have hlt:off % p.cellsOf e < p.cellsOf e:=Nat.mod_lt _ (Nat.pos_of_ne_zero hs)
    rw [Bool.or_eq_true] at h
    rcases h with h | h
    . simp only [Bool.and_eq_true,beq_iff_eq,decide_eq_true_eq] at h
      obtain ⟨⟨h1,h2⟩,-⟩:=h
      have:p.cellsOf e*(off / p.cellsOf e) <= p.cellsOf e*count:=Nat.mul_le_mul_left _ (by omega)
      rw [Nat.mul_comm count]
      omega
    . simp only [Bool.and_eq_true,decide_eq_true_eq] at h
      have h1:=h.1
      have:p.cellsOf e*(off / p.cellsOf e+1) <= p.cellsOf e*count:=Nat.mul_le_mul_left _ (by omega)
      rw [Nat.mul_add] at this
      rw [Nat.mul_comm count]
      omega
theorem liesAt_le {p:Program}:∀ {d:Nat} {e:TypeId} {count off:Nat} {u:TypeId} {n:Nat},liesAt p d e count off u n=true->off <= count*p.cellsOf e
 | 0,e,count,off,u,n,h=>by simp [liesAt] at h
 | d+1,e,count,off,u,n,h=>by
  unfold liesAt at h
  rw [Bool.or_eq_true] at h
  rcases h with h | h
  . exact rowAt_le h
  . split at h
    . exact liesAt_le h
    . cases h
theorem list_choice {α:Type} {Q:Nat->α->Prop}:∀ (n:Nat),(∀ i,i < n->∃ d,Q i d)->∃ l:List α,l.length=n /\ ∀ i d,l[i]?=some d->Q i d
 | 0,_=>⟨[],rfl,fun i d h=>by simp at h⟩
 | n+1,h=>by
  obtain ⟨l,h1,h2⟩:=list_choice n (fun i hi=>h i (by omega))
  obtain ⟨d,hd⟩:=h n (by omega)
  refine ⟨l ++ [d],by simp [h1],fun i x hx=>?_⟩
  rcases Nat.lt_or_ge i n with hi | hi
  . rw [List.getElem?_append_left (by omega)] at hx
    exact h2 i x hx
  . rw [List.getElem?_append_right (by omega),h1] at hx
    have:i - n=0:=by
     have:=(List.getElem?_eq_some_iff.1 hx).1
     simp at this
     omega
    rw [this] at hx
    simp at hx
    subst hx
    rw [show i=n by omega]
    exact hd
theorem encL_get {α:Type} {C:CC α}:∀ {l:List α} {k:Nat} {a:AV},(encL C l)[k]?=some a->∃ i d j,k=i*C.n+j /\ j < C.n /\ l[i]?=some d /\ (C.enc d)[j]?=some a
 | [],k,a,h=>by simp [encL] at h
 | x :: t,k,a,h=>by
  simp only [encL] at h
  rcases Nat.lt_or_ge k C.n with hk | hk
  . rw [List.getElem?_append_left (by rw [C.len];exact hk)] at h
    exact ⟨0,x,k,by omega,hk,rfl,h⟩
  . rw [List.getElem?_append_right (by rw [C.len];exact hk),C.len] at h
    obtain ⟨i,d,j,h1,h2,h3,h4⟩:=encL_get h
    exact ⟨i+1,d,j,by rw [Nat.add_mul];omega,h2,by simpa using h3,h4⟩
section
variable {H:Type} {enc:TypeId × Value->H} {P:Program} {w:World} {base:Nat} {spare:Nat->Bool} {held:Bool}
theorem trod_arr {t e:TypeId} {n fuel:Nat} {cs:List Value} {x:DataW H × List MemPlace} (ht:P.underlying t=some (.array n e)) (h:DataW.trod enc P w base spare held fuel t cs=some x) :
 cs.length=P.cellsOf t /\ ∃ m,∀ i,i < n->∃ y,DataW.trod enc P w base spare held m e ((cs.drop (i*P.cellsOf e)).take (P.cellsOf e))=some y:=by
 cases fuel with
 | zero=>simp [DataW.trod] at h
 | succ m =>
  unfold DataW.trod at h
  rw [ht] at h
  split at h <;> simp_all
  obtain ⟨hl,xs,hp,hd⟩:=h
  refine ⟨m,fun i hi=>?_⟩
  have h1:=mapM_some_get hp i i (by simp [hi])
  have h2:i < xs.length:=by
   have:=mapM_some_length hp
   simp at this
   omega
  exact ⟨xs[i].1,xs[i].2,by rw [h1];simp [h2]⟩
structure Tells {α:Type} (enc:TypeId × Value->H) (P:Program) (w:World) (base:Nat) (spare:Nat->Bool) (held:Bool) (t:TypeId) (C:CC α):Prop where
 tell:∀ fuel cs (x:DataW H × List MemPlace),DataW.trod enc P w base spare held fuel t cs=some x->∃ d:α,cs=C.val d
theorem word_of {u:TypeId} (hu:P.underlying u=some (.int .u64)) {fuel:Nat} {cs:List Value} {x:DataW H × List MemPlace} (h:DataW.trod enc P w base spare held fuel u cs=some x):∃ z:BitVec 64,cs=[uval z]:=by
 obtain ⟨n,rfl,-,hw⟩:=DataW.trod_int hu h
 have hw:(0:Int) <= n /\ n <= 18446744073709551615:=by
  have:=hw
  simp only [Lit.wf,Bool.and_eq_true,decide_eq_true_eq] at this
  exact this
 refine ⟨BitVec.ofNat 64 n.toNat,?_⟩
 unfold uval
 congr 2
 rw [BitVec.toNat_ofNat,Nat.mod_eq_of_lt (by omega)]
 show n=((n.toNat:Nat):Int)
 omega
theorem words_six {l:List Value} (hl:l.length=6) (h:∀ i,i < 6->∃ z:BitVec 64,(l.drop i).take 1=[uval z]):∃ x:W6,l=c6.val x:=by
 match l,hl with
 | [a0,a1,a2,a3,a4,a5],_ =>
  obtain ⟨x0,h0⟩:=h 0 (by decide)
  obtain ⟨x1,h1⟩:=h 1 (by decide)
  obtain ⟨x2,h2⟩:=h 2 (by decide)
  obtain ⟨x3,h3⟩:=h 3 (by decide)
  obtain ⟨x4,h4⟩:=h 4 (by decide)
  obtain ⟨x5,h5⟩:=h 5 (by decide)
  simp at h0 h1 h2 h3 h4 h5
  subst h0 h1 h2 h3 h4 h5
  exact ⟨⟨x0,x1,x2,x3,x4,x5⟩,rfl⟩
theorem tells_num {t u:TypeId} (ht:P.underlying t=some (.array 6 u)) (hu:P.underlying u=some (.int .u64)) (h1:P.cellsOf u=1) (h6:P.cellsOf t=6):Tells enc P w base spare held t c6:=⟨fun fuel cs x h=>by
 obtain ⟨hl,m,hm⟩:=trod_arr ht h
 refine words_six (by rw [hl,h6]) (fun i hi=>?_)
 obtain ⟨y,hy⟩:=hm i hi
 rw [h1,Nat.mul_one] at hy
 exact word_of hu hy⟩
theorem slice_ok {t e:TypeId} {r:Reach} {base':Nat} {v:Value} (ht:P.underlying t=some (.slice e)) (hv:Value.okWide P w r base' t v) :
 v=.slice none 0 0 \/ ∃ a len cap,v=.slice (some a) len cap /\ w.has P r base' a e cap:=by
 simp only [Value.okWide,ht,Cell.okWide] at hv
 cases v with
 | slice o len cap =>
  unfold Cell.ok at hv
  rw [ht] at hv
  cases o with
  | none =>
   left
   simp only at hv
   split at hv <;> simp_all
  | some a=>exact .inr ⟨a,len,cap,rfl,hv.2.2⟩
 | _=>simp [Cell.ok,ht] at hv
theorem open_slice {α:Type} {t e:TypeId} {C:CC α} (ht:P.underlying t=some (.slice e)) (hT:Tells enc P w base spare held e C) (hc:P.cellsOf e=C.n) {r:Reach} {base':Nat} {v:Value} {d:DataW H} {p:List MemPlace}
 (hv:Value.okWide P w r base' t v) (h:DataW.Trod enc P w base spare held t v d p):∃ (x:Hd) (l:List α),((x.s=.nil /\ l=[]) \/ x.s=.slc l.length) /\ x.cs=encL C l /\ HandS w x v:=by
 rcases slice_ok ht hv with rfl | ⟨a,len,cap,rfl,hhas⟩
 . exact ⟨⟨.nil,0,default,[],none,0,0⟩,[],.inl ⟨rfl,rfl⟩,rfl,⟨fun σ id _ _ _=>.v _,fun h=>absurd rfl h⟩⟩
 . obtain ⟨fuel,h⟩:=h
   obtain ⟨b,off,sp⟩:=a
   obtain ⟨-,hsp,row,cells,hsh,hlies⟩:=hhas
   simp only at hsp
   subst hsp
   simp only at hsh hlies
   unfold World.shape? at hsh
   split at hsh
   . rename_i c elem fr hheap
     simp at hsh
     obtain ⟨rfl,rfl⟩:=hsh
     have hoff:off <= c.size:=Nat.le_trans (liesAt_le hlies) (Nat.div_mul_le_self _ _)
     rcases DataW.trod_slice ht h with ⟨h0,-⟩ | ⟨a',len',cap',elems,rest,n,-,hcs,-,hbb,hl,hm,hlen,hel,-,-⟩
     . simp [Value.cells] at h0
     . have hcs:Value.slice (some ⟨b,off,none⟩) len cap=.slice (some a') len' cap':=by simpa [Value.cells] using hcs
       simp only [Value.slice.injEq,Option.some.injEq] at hcs
       obtain ⟨rfl,rfl,rfl⟩:=hcs
       have each:∀ i,i < len->∃ d:α,∀ j,j < C.n->c[off+(i*C.n+j)]?=(C.val d)[j]?:=by
        intro i hi
        have hs:elems[i]?=some elems[i]:=List.getElem?_eq_getElem (by omega)
        have:=(hel i hi).trans hs
        rw [Option.bind_eq_some_iff] at this
        obtain ⟨cs',h1,h2⟩:=this
        obtain ⟨d',rfl⟩:=hT.tell _ _ _ h2
        obtain ⟨-,-,h3⟩:=World.cells?_some h1
        refine ⟨d',fun j hj=>?_⟩
        have:=h3 j (by rw [hc];exact hj)
        rw [Addr.add_none,Addr.add_none,hc] at this
        unfold World.cell? at this
        rw [hheap] at this
        simp only [Option.isSome_none,Bool.false_eq_true,if_false] at this
        rw [<- this,Nat.add_assoc]
       obtain ⟨l,hll,hQ⟩:=list_choice len each
       have cell:∀ (k:Nat) (x:AV),(encL C l)[k]?=some x->∃ d:α,∃ j,(C.enc d)[j]?=some x /\ c[off+k]?=(C.val d)[j]? /\ j < C.n:=by
        intro k x hx
        obtain ⟨i,d',j,rfl,hj,hd,hx'⟩:=encL_get hx
        exact ⟨d',j,hx',hQ i d' hd j hj,hj⟩
       refine ⟨⟨.slc len,cap,elem,encL C l,some b,c.size,off⟩,l,.inr (by rw [hll]),rfl,⟨fun σ id e1 e2 e3=>?_,fun _=>⟨b,c,fr,rfl,hheap,rfl,?_,fun σ k x u hx hu=>?_⟩⟩⟩
       . simp only at e1 e3
         have:=Rv.slc (ρ:=σ) (off:=0) (len:=len) (cap:=cap) e1
         rw [e3,Nat.add_zero] at this
         exact this
       . show off+(encL C l).length <= c.size
         rcases Nat.eq_zero_or_pos (encL C l).length with h0 | h0
         . omega
         . have hlt:(encL C l).length - 1 < (encL C l).length:=by omega
           obtain ⟨d',j,-,h2,h3⟩:=cell ((encL C l).length - 1) _ (List.getElem?_eq_getElem hlt)
           have h4:(C.val d')[j]?=some ((C.val d')[j]'(by rw [C.val_len];exact h3)):=List.getElem?_eq_getElem _
           rw [h4] at h2
           have:=(Array.getElem?_eq_some_iff.1 h2).1
           omega
       . simp only at hx hu
         obtain ⟨d',j,h1,h2,-⟩:=cell k x hx
         rw [hu] at h2
         exact (Rvs.of_flats (ρ:=σ) (C.h1 d')).2 j x u h1 h2.symm
   . cases hsh
end
end Go.Rq

namespace Go.Rq
open Go Go.WideShapes
section
variable {P:Program} {w:World} {r:Reach} {base:Nat} {t i u b:TypeId} {v:Value}
end
end Go.Rq

namespace Go.Rq
open Go Go.ChangeShapes Go.WideShapes Go.RowKit
section
variable {H:Type} {enc:TypeId × Value->H} {P:Program} {w:World} {base:Nat} {spare:Nat->Bool} {held:Bool} {t:TypeId}
end
end Go.Rq
