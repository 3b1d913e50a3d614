import Derived.Test.YtedplhdabefnkaaGreatDoorRq07
import Derived.Test.YtedplhdabefnkaaGreatDoorRq04
import Derived.Test.YtedplhdabefnkaaGreatDoorRq05
namespace Go.Rq
open Go
section
variable {K:Type} [Rg K]
def pwK (x:K):Nat->K
 | 0=>1
 | n+1=>pwK x n*x
theorem pwK_add (x:K) (m:Nat):∀ n,pwK x (m+n)=pwK x m*pwK x n
 | 0=>(Rg.mul_one _).symm
 | n+1=>by
  rw [<- Nat.add_assoc]
  simp only [pwK]
  rw [pwK_add x m n,Rg.mul_assoc]
theorem pwK_two (x:K) (n:Nat):pwK x (2*n)=pwK x n*pwK x n:=by rw [Nat.two_mul,pwK_add]
def bitsV (b:Nat->Bool):Nat->Nat
 | 0=>0
 | k+1=>bitsV b k+(bif b k then 2 ^ k else 0)
def pwB (b:Nat->Bool) (x:K):Nat->K->K
 | 0,n=>n
 | k+1,n=>pwB b x k (bif b k then n*n*x else n*n)
theorem pwB_eq (b:Nat->Bool) (x:K):∀ (k m:Nat),pwB b x k (pwK x m)=pwK x (m*2 ^ k+bitsV b k)
 | 0,m=>by simp [pwB,bitsV]
 | k+1,m=>by
  simp only [pwB,bitsV]
  have e:m*2 ^ (k+1)=2*m*2 ^ k:=by rw [Nat.pow_succ,Nat.mul_comm 2 m,Nat.mul_assoc,Nat.mul_comm 2 (2 ^ k)]
  cases hb:b k
  . rw [cond_false,cond_false,<- pwK_two,pwB_eq,e];congr 1
  . rw [cond_true,cond_true,<- pwK_two,show pwK x (2*m)*x=pwK x (2*m+1) from rfl,pwB_eq,e,Nat.add_mul]
    congr 1
    omega
theorem pwB_one {b:Nat->Bool} {k n:Nat} (h:bitsV b k=n) (x:K):pwB b x k 1=pwK x n:=by
 have e:=pwB_eq b x k 0
 rw [h,Nat.zero_mul,Nat.zero_add] at e
 exact e
end
section
variable {p:Nat} [NeZero p]
theorem fin_add_assoc (x y z:Fin p):x+y+z=x+(y+z):=by grind
theorem fin_add_comm (x y:Fin p):x+y=y+x:=by grind
theorem fin_add_zero (x:Fin p):x+0=x:=by grind
theorem fin_neg_add (x:Fin p):-x+x=0:=by grind
theorem fin_mul_assoc (x y z:Fin p):x*y*z=x*(y*z):=by grind
theorem fin_mul_comm (x y:Fin p):x*y=y*x:=by grind
theorem fin_mul_one (x:Fin p):x*1=x:=by grind
theorem fin_mul_add (x y z:Fin p):x*(y+z)=x*y+x*z:=by grind
theorem fin_sub_eq (x y:Fin p):x - y=x+-y:=by grind
instance ringFin:Rg (Fin p) where
 add x y:=x+y
 mul x y:=x*y
 neg x:=-x
 sub x y:=x - y
 zero:=0
 one:=1
 add_assoc:=fin_add_assoc
 add_comm:=fin_add_comm
 add_zero:=fin_add_zero
 neg_add:=fin_neg_add
 mul_assoc:=fin_mul_assoc
 mul_comm:=fin_mul_comm
 mul_one:=fin_mul_one
 mul_add:=fin_mul_add
 sub_eq:=fin_sub_eq
theorem pwF_val (x:Fin p):∀ n:Nat,(pwK x n).val=x.val ^ n % p
 | 0=>rfl
 | n+1=>by
  show (pwK x n*x).val=_
  rw [show (pwK x n*x).val=(pwK x n).val*x.val % p from rfl,pwF_val x n,Nat.pow_succ,Nat.mod_mul_mod]
def ivF (x:Fin p):Fin p:=pwK x (p - 2)
def eqF (x y:Fin p):Bool:=Nat.beq x.val y.val
theorem eqF_iff {p:Nat} {x y:Fin p}:eqF x y=true ↔ x=y:=by
 unfold eqF
 rw [Nat.beq_eq]
 exact ⟨fun h=>Fin.ext h,fun h=>by rw [h]⟩
theorem fdF (h:Pr p) (h3:3 <= p):Fd (Fin p) ivF eqF where
 inv {x} hx:=by
  have hx0:x.val ≠ 0:=fun e=>hx (Fin.ext e)
  have hd:¬ p ∣ x.val:=fun hd=>by
   have:=Nat.le_of_dvd (by omega) hd
   have:=x.isLt
   omega
  have hf:=fermat h hd
  apply Fin.ext
  show x.val*(pwK x (p - 2)).val % p=1 % p
  rw [pwF_val,Nat.mul_mod_mod,Nat.mul_comm,<- Nat.pow_succ,show (p - 2).succ=p - 1 by omega,hf,Nat.mod_eq_of_lt (by omega)]
 one e:=by
  have h1:(1:Fin p).val=(0:Fin p).val:=by rw [e]
  have h2:1 % p=0:=h1
  rw [Nat.mod_eq_of_lt (by omega)] at h2
  cases h2
 two {y} e:=by
  have h1:(y.val+y.val) % p=0:=by
   have:(y+y).val=(0:Fin p).val:=by rw [e]
   exact this
  have hy:=y.isLt
  apply Fin.ext
  show y.val=0
  obtain ⟨k,hk⟩:=Nat.dvd_of_mod_eq_zero h1
  have hk2:k=0 \/ k=1 \/ 2 <= k:=by omega
  rcases hk2 with rfl | rfl | hk2
  . omega
  . exfalso
    rcases h.2 2 ⟨y.val,by omega⟩ with h2 | h2 <;> omega
  . have:=Nat.mul_le_mul_left p hk2
    omega
 eq:=eqF_iff
def phi (r n:Nat):Fin p:=Fin.ofNat p (n*r)
theorem phi_val (r n:Nat):(phi r n:Fin p).val=n*r % p:=rfl
theorem phi_mod (r n:Nat):(phi r (n % p):Fin p)=phi r n:=Fin.ext (by rw [phi_val,phi_val,Nat.mod_mul_mod])
theorem phi_add (r n m:Nat):(phi r (n+m):Fin p)=phi r n+phi r m:=Fin.ext (by
 show (n+m)*r % p=(n*r % p+m*r % p) % p
 rw [Nat.add_mul,Nat.add_mod])
theorem phi_mul (r n m:Nat):(phi r (n*m*r % p):Fin p)=phi r n*phi r m:=Fin.ext (by
 show n*m*r % p*r % p=(n*r % p)*(m*r % p) % p
 rw [Nat.mod_mul_mod,<- Nat.mul_mod]
 congr 1
 simp only [Nat.mul_assoc,Nat.mul_left_comm])
theorem phi_zero (r:Nat):(phi r 0:Fin p)=0:=Fin.ext (by rw [phi_val,Nat.zero_mul];rfl)
theorem phi_p (r:Nat):(phi r p:Fin p)=0:=Fin.ext (by rw [phi_val,Nat.mul_mod_right];rfl)
theorem phi_sub (r:Nat) {n m:Nat} (h:m <= p):(phi r ((n+(p - m)) % p):Fin p)=phi r n - phi r m:=by
 rw [phi_mod,phi_add]
 have h1:(phi r (p - m):Fin p)+phi r m=0:=by rw [<- phi_add,Nat.sub_add_cancel h,phi_p]
 apply rg_cancel (z:=phi r m)
 rw [Rg.sub_eq,Rg.add_assoc,Rg.add_assoc,h1,Rg.neg_add]
theorem phi_inj {r R n m:Nat} (hr:R*r % p=1) (hn:n < p) (hm:m < p) (h:(phi r n:Fin p)=phi r m):n=m:=by
 have h1:n*r % p=m*r % p:=congrArg Fin.val h
 have e:∀ x,x*r % p*R % p=x % p:=fun x=>by
  rw [Nat.mod_mul_mod,Nat.mul_assoc,Nat.mul_comm r,Nat.mul_mod,hr,Nat.mul_one,Nat.mod_mod]
 have h2:=e n
 rw [h1,e m,Nat.mod_eq_of_lt hn,Nat.mod_eq_of_lt hm] at h2
 exact h2.symm
structure RK (r:Nat) (x:Fin p) (n:Nat):Prop where
 lt:n < p
 eq:phi r n=x
theorem rk_eq {r R:Nat} (hr:R*r % p=1) {x y:Fin p} {n m:Nat} (h:RK r x n) (k:RK r y m):eqF x y=Nat.beq n m:=by
 rw [Bool.eq_iff_iff,eqF_iff,Nat.beq_eq,<- h.eq,<- k.eq]
 exact ⟨fun e=>phi_inj hr h.lt k.lt e,fun e=>by rw [e]⟩
theorem rk_add {r:Nat} {x y:Fin p} {n m:Nat} (h:RK r x n) (k:RK r y m):RK r (x+y) ((n+m) % p):=⟨Nat.mod_lt _ (Nat.zero_lt_of_lt h.lt),by rw [phi_mod,phi_add,h.eq,k.eq]⟩
theorem rk_sub {r:Nat} {x y:Fin p} {n m:Nat} (h:RK r x n) (k:RK r y m):RK r (x - y) ((n+(p - m)) % p):=⟨Nat.mod_lt _ (Nat.zero_lt_of_lt h.lt),by rw [phi_sub r (Nat.le_of_lt k.lt),h.eq,k.eq]⟩
theorem rk_mul {r:Nat} {x y:Fin p} {n m:Nat} (h:RK r x n) (k:RK r y m):RK r (x*y) (n*m*r % p):=⟨Nat.mod_lt _ (Nat.zero_lt_of_lt h.lt),by rw [phi_mul,h.eq,k.eq]⟩
theorem rk_zero (r:Nat) (hp:0 < p):RK r (0:Fin p) 0:=⟨hp,phi_zero r⟩
theorem rk_neg {r:Nat} {x:Fin p} {n:Nat} (h:RK r x n):RK r (-x) ((0+(p - n)) % p):=by
 have:=rk_sub (rk_zero r (Nat.zero_lt_of_lt h.lt)) h
 have e:(0:Fin p) - x=-x:=by rw [Rg.sub_eq];exact rg_zero_add _
 rw [e] at this
 exact this
structure RV (x:Fin p) (n:Nat):Prop where
 eq:n=x.val
theorem RV.lt {p:Nat} {x:Fin p} {n:Nat} (h:RV x n):n < p:=h.eq ▸ x.isLt
theorem RV.of {p:Nat} {n:Nat} (h:n < p):RV (⟨n,h⟩:Fin p) n:=⟨rfl⟩
theorem rv_add {p:Nat} {x y:Fin p} {n m:Nat} (h:RV x n) (k:RV y m):RV (x+y) ((n+m) % p):=⟨by rw [h.eq,k.eq];rfl⟩
theorem rv_mul {p:Nat} {x y:Fin p} {n m:Nat} (h:RV x n) (k:RV y m):RV (x*y) (n*m % p):=⟨by rw [h.eq,k.eq];rfl⟩
theorem rv_neg {p:Nat} {x:Fin p} {n:Nat} (h:RV x n):RV (-x) ((p - n) % p):=⟨by rw [h.eq];rfl⟩
theorem rv_sub {x y:Fin p} {n m:Nat} (h:RV x n) (k:RV y m):RV (x - y) ((n+(p - m) % p) % p):=by
 have:=rv_add h (rv_neg k)
 have e:x+-y=x - y:=(Rg.sub_eq x y).symm
 rw [e] at this
 exact this
theorem rv_eq {p:Nat} {x y:Fin p} {n m:Nat} (h:RV x n) (k:RV y m):eqF x y=Nat.beq n m:=by rw [h.eq,k.eq];rfl
theorem rk_of_rv {r w:Nat} (hw:w*r*r % p=1) {x:Fin p} {n:Nat} (h:RV x n):RK r x (w*n*r % p):=by
 refine ⟨Nat.mod_lt _ (Nat.zero_lt_of_lt h.lt),?_⟩
 rw [phi_mod]
 apply Fin.ext
 rw [phi_val,show w*n*r*r=n*(w*r*r) by simp only [Nat.mul_left_comm,Nat.mul_comm],Nat.mul_mod,hw,Nat.mul_one,Nat.mod_mod,Nat.mod_eq_of_lt h.lt,h.eq]
theorem rv_of_rk {r:Nat} {x:Fin p} {n:Nat} (h:RK r x n):RV x (n*1*r % p):=⟨by rw [<- h.eq,phi_val,Nat.mul_one]⟩
end
instance pN_ne:NeZero pN:=⟨Nat.ne_of_gt pN_pos⟩
def F1:Type:=Fin pN
noncomputable instance ringF1:Rg F1:=ringFin (p:=pN)
noncomputable def iv1:F1->F1:=ivF (p:=pN)
def eq1:F1->F1->Bool:=eqF (p:=pN)
theorem fd1:Fd F1 iv1 eq1:=fdF (p:=pN) pr_p (by decide +kernel)
theorem iv1_pow (x:F1):iv1 x=pwK x (pN - 2):=rfl
def RK1 (x:F1) (n:Nat):Prop:=RK (p:=pN) rinvN x n
theorem exp_bits:bitsV expInv.bit 384=pN - 2:=by decide +kernel
theorem rk1_one:RK1 (1:F1) oneN:=⟨oneN_lt,Fin.ext (by decide +kernel)⟩
theorem rk1_zero:RK1 (0:F1) 0:=rk_zero (p:=pN) rinvN pN_pos
theorem rk1_add {x y:F1} {n m:Nat} (h:RK1 x n) (k:RK1 y m):RK1 (x+y) (addN n m):=rk_add (p:=pN) h k
theorem rk1_sub {x y:F1} {n m:Nat} (h:RK1 x n) (k:RK1 y m):RK1 (x - y) (subN n m):=rk_sub (p:=pN) h k
theorem rk1_mul {x y:F1} {n m:Nat} (h:RK1 x n) (k:RK1 y m):RK1 (x*y) (mulN n m):=rk_mul (p:=pN) h k
theorem rk1_neg {x:F1} {n:Nat} (h:RK1 x n):RK1 (-x) (negN n):=rk_neg (p:=pN) h
theorem rk1_eq {x y:F1} {n m:Nat} (h:RK1 x n) (k:RK1 y m):eq1 x y=Nat.beq n m:=rk_eq (p:=pN) rinv_ok h k
theorem rk1_pow {x:F1} {n:Nat} (h:RK1 x n) (e:W6):∀ (k:Nat) {y:F1} {m:Nat},RK1 y m->RK1 (pwB e.bit x k y) (powS n e k m)
 | 0,y,m,hm=>hm
 | k+1,y,m,hm=>by
  simp only [powS,pwB,forceN_eq]
  apply rk1_pow h e k
  cases e.bit k
  . rw [cond_false,cond_false];exact rk1_mul hm hm
  . rw [cond_true,cond_true];exact rk1_mul (rk1_mul hm hm) h
theorem rk1_inv {x:F1} {n:Nat} (h:RK1 x n):RK1 (iv1 x) (invN n):=by
 have h1:=rk1_pow h expInv 384 rk1_one
 rw [pwB_one exp_bits,<- iv1_pow] at h1
 exact h1
theorem foK_add {K:Type} [Rg K] {iv:K->K} (x y:K):(foK iv).add x y=x+y:=rfl
theorem foK_sub {K:Type} [Rg K] {iv:K->K} (x y:K):(foK iv).sub x y=x - y:=rfl
theorem foK_mul {K:Type} [Rg K] {iv:K->K} (x y:K):(foK iv).mul x y=x*y:=rfl
theorem foK_neg {K:Type} [Rg K] {iv:K->K} (x:K):(foK iv).neg x=-x:=rfl
theorem foK_inv {K:Type} [Rg K] {iv:K->K} (x:K):(foK iv).inv x=iv x:=rfl
theorem foK_zero {K:Type} [Rg K] {iv:K->K}:(foK iv).zero=(0:K):=rfl
theorem relF:FRel RK1 (foK iv1) fN eq1 Nat.beq where
 add h k:=by rw [foK_add,fN_add];exact rk1_add h k
 sub h k:=by rw [foK_sub,fN_sub];exact rk1_sub h k
 mul h k:=by rw [foK_mul,fN_mul];exact rk1_mul h k
 neg h:=by rw [foK_neg,fN_neg];exact rk1_neg h
 inv h:=by rw [foK_inv,fN_inv];exact rk1_inv h
 zero:=by rw [foK_zero];exact rk1_zero
 eq h k:=rk1_eq h k
theorem FRel.comp {A B C:Type} {R:A->B->Prop} {S:B->C->Prop} {o:FO A} {o':FO B} {o'':FO C} {e:A->A->Bool} {e':B->B->Bool} {e'':C->C->Bool} (h:FRel R o o' e e') (k:FRel S o' o'' e' e'') :
 FRel (fun a c=>∃ b,R a b /\ S b c) o o'' e e'' where
 add:=fun ⟨_,p1,p2⟩ ⟨_,q1,q2⟩=>⟨_,h.add p1 q1,k.add p2 q2⟩
 sub:=fun ⟨_,p1,p2⟩ ⟨_,q1,q2⟩=>⟨_,h.sub p1 q1,k.sub p2 q2⟩
 mul:=fun ⟨_,p1,p2⟩ ⟨_,q1,q2⟩=>⟨_,h.mul p1 q1,k.mul p2 q2⟩
 neg:=fun ⟨_,p1,p2⟩=>⟨_,h.neg p1,k.neg p2⟩
 inv:=fun ⟨_,p1,p2⟩=>⟨_,h.inv p1,k.inv p2⟩
 zero:=⟨_,h.zero,k.zero⟩
 eq:=fun ⟨_,p1,p2⟩ ⟨_,q1,q2⟩=>by rw [h.eq p1 q1,k.eq p2 q2]
def RM (x:F1) (w:W6):Prop:=∃ n,RK1 x n /\ Rep n w
def RP (x:F1) (w:W6):Prop:=RV (p:=pN) x w.val
theorem relM:FRel RM (foK iv1) fW eq1 eqW:=relF.comp relW
theorem rm_one:RM 1 oneW:=⟨oneN,rk1_one,rep_one⟩
theorem rm_zero:RM 0 zeroW:=⟨0,rk1_zero,rep_zero⟩
theorem rp_lt {x:F1} {w:W6} (h:RP x w):w.val < pN:=RV.lt h
theorem rp_of {w:W6} (h:w.val < pN):∃ x,RP x w:=⟨(⟨w.val,h⟩:Fin pN),RV.of h⟩
theorem rp_inj {x:F1} {v w:W6} (h:RP x v) (k:RP x w):v=w:=W6.val_inj (h.eq.trans k.eq.symm)
theorem rp_eq {x y:F1} {v w:W6} (h:RP x v) (k:RP y w):eq1 x y=eqW v w:=by
 have e:eq1 x y=Nat.beq v.val w.val:=rv_eq (p:=pN) h k
 rw [e,Bool.eq_iff_iff,Nat.beq_eq,eqW_iff]
 exact ⟨fun e=>W6.val_inj e,fun e=>by rw [e]⟩
theorem wide_one:wideN*rinvN*rinvN % pN=1:=by decide +kernel
theorem rm_to {x:F1} {w:W6} (h:RP x w):RM x (toW w):=⟨toN w.val,rk_of_rv (p:=pN) wide_one h,rep_to w⟩
theorem rp_from {x:F1} {w:W6} (h:RM x w):RP x (fromW w):=by
 obtain ⟨n,h1,h2⟩:=h
 have h3:RV (p:=pN) x (backN n):=rv_of_rk h1
 rw [<- rep_back h2] at h3
 exact h3
theorem rp_zero:RP 0 zeroW:=⟨by rw [zero_val];exact (Nat.zero_mod pN).symm⟩
theorem rp_val {x:F1} {w:W6} {n:Nat} (h:RV (p:=pN) x n) (e:w.val=n):RP x w:=by
 unfold RP
 rw [e]
 exact h
theorem rp_of_mul {x y:F1} {a b w:W6} (h:RP x a) (k:RP y b) (e:w.val=a.val*b.val % pN):RP (x*y) w:=rp_val (rv_mul (p:=pN) h k) e
theorem rp_of_add {x y:F1} {a b w:W6} (h:RP x a) (k:RP y b) (e:w.val=(a.val+b.val) % pN):RP (x+y) w:=rp_val (rv_add (p:=pN) h k) e
theorem rp_of_sub {x y:F1} {a b w:W6} (h:RP x a) (k:RP y b) (e:w.val=(a.val+(pN - b.val) % pN) % pN):RP (x - y) w:=rp_val (rv_sub (p:=pN) h k) e
theorem rp_of_neg {x:F1} {a w:W6} (h:RP x a) (e:w.val=(pN - a.val) % pN):RP (-x) w:=rp_val (rv_neg (p:=pN) h) e
theorem rp_of_one {w:W6} (e:w.val=1):RP 1 w:=rp_val (n:=1) ⟨by decide +kernel⟩ e
def mg0 (c:Bool):AV->AV->Option AV
 | .v (.int k m),.v (.int k' n)=>match decide (k=k') with
  | true=>some (.v (.int k (bif c then m else n)))
  | false=>none
 | .v (.bool a),.v (.bool b)=>some (.v (.bool (bif c then a else b)))
 | .v (.bool a),.lit b=>some (.v (.bool (bif c then a else b)))
 | .lit a,.v (.bool b)=>some (.v (.bool (bif c then a else b)))
 | .lit a,.lit b=>some (.v (.bool (bif c then a else b)))
 | .u x,.u y=>some (.u (bif c then x else y))
 | .bit x,.bit y=>some (.bit (bif c then x else y))
 | .u x,.bit y=>some (.u (bif c then x else bitW y))
 | .bit x,.u y=>some (.u (bif c then bitW x else y))
 | _,_=>none
theorem mg0_is {c:Bool} {a b z:AV} (h:mg0 c a b=some z):scal z=(bif c then scal a else scal b) /\ flatA z=(bif c then flatA a else flatA b) /\ flat z=(bif c then flat a else flat b):=by
 unfold mg0 at h
 split at h
 . split at h
   . rename_i hk
     have hk:=of_decide_eq_true hk
     subst hk
     simp only [Option.some.injEq] at h
     subst h
     cases c <;> exact ⟨rfl,rfl,rfl⟩
   . cases h
 all_goals first
  | (simp only [Option.some.injEq] at h;subst h;cases c <;> exact ⟨rfl,rfl,rfl⟩)
  | cases h
def mgs (c:Bool):List AV->List AV->Option (List AV)
 | [],[]=>some []
 | a :: s,b :: t=>match mg0 c a b with
  | some z=>match mgs c s t with
   | some l=>some (z :: l)
   | none=>none
  | none=>none
 | _,_=>none
theorem mgs_is {c:Bool}:∀ {s t l:List AV},mgs c s t=some l->flats l=(bif c then flats s else flats t)
 | [],[],l,h=>by
  simp only [mgs,Option.some.injEq] at h
  subst h
  cases c <;> rfl
 | a :: s,b :: t,l,h=>by
  simp only [mgs] at h
  split at h
  . rename_i z hz
    split at h
    . rename_i r hr
      simp only [Option.some.injEq] at h
      subst h
      have h1:=(mg0_is hz).1
      have h2:=mgs_is hr
      cases c with
      | true =>
       simp only [cond_true] at h1 h2 ⊢
       simp only [flats,h1,h2]
      | false =>
       simp only [cond_false] at h1 h2 ⊢
       simp only [flats,h1,h2]
    . cases h
  . cases h
 | [],_ :: _,l,h=>by simp [mgs] at h
 | _ :: _,[],l,h=>by simp [mgs] at h
def mg1 (c:Bool):AV->AV->Option AV
 | .agg s,.agg t=>match mgs c s t with
  | some l=>some (.agg l)
  | none=>none
 | a,b=>mg0 c a b
theorem mg1_is {c:Bool} {a b z:AV} (h:mg1 c a b=some z):flatA z=(bif c then flatA a else flatA b) /\ flat z=(bif c then flat a else flat b):=by
 unfold mg1 at h
 split at h
 . split at h
   . rename_i l hl
     simp only [Option.some.injEq] at h
     subst h
     have h1:=mgs_is hl
     cases c with
     | true =>
      simp only [cond_true] at h1 ⊢
      simp only [flatA,flat,h1,and_self]
     | false =>
      simp only [cond_false] at h1 ⊢
      simp only [flatA,flat,h1,and_self]
   . cases h
 . exact (mg0_is h).2
def mgt (c:Bool):List AV->List AV->Option (List AV)
 | [],[]=>some []
 | a :: s,b :: t=>match mg1 c a b with
  | some z=>match mgt c s t with
   | some l=>some (z :: l)
   | none=>none
  | none=>none
 | _,_=>none
theorem mgt_is {c:Bool}:∀ {s t l:List AV},mgt c s t=some l->flatsA l=(bif c then flatsA s else flatsA t)
 | [],[],l,h=>by
  simp only [mgt,Option.some.injEq] at h
  subst h
  cases c <;> rfl
 | a :: s,b :: t,l,h=>by
  simp only [mgt] at h
  split at h
  . rename_i z hz
    split at h
    . rename_i r hr
      simp only [Option.some.injEq] at h
      subst h
      have h1:=(mg1_is hz).1
      have h2:=mgt_is hr
      cases c with
      | true =>
       simp only [cond_true] at h1 h2 ⊢
       simp only [flatsA,h1,h2]
      | false =>
       simp only [cond_false] at h1 h2 ⊢
       simp only [flatsA,h1,h2]
    . cases h
  . cases h
 | [],_ :: _,l,h=>by simp [mgt] at h
 | _ :: _,[],l,h=>by simp [mgt] at h
def mg2 (c:Bool):AV->AV->Option AV
 | .tup s,.tup t=>match mgt c s t with
  | some l=>some (.tup l)
  | none=>none
 | a,b=>mg1 c a b
theorem mg2_is {c:Bool} {a b z:AV} (h:mg2 c a b=some z):flat z=(bif c then flat a else flat b):=by
 unfold mg2 at h
 split at h
 . split at h
   . rename_i l hl
     simp only [Option.some.injEq] at h
     subst h
     have h1:=mgt_is hl
     cases c with
     | true =>
      simp only [cond_true] at h1 ⊢
      simp only [flat,h1]
     | false =>
      simp only [cond_false] at h1 ⊢
      simp only [flat,h1]
   . cases h
 . exact (mg1_is h).2
def mergeT:Tree AV->Option (Bool × AV)
 | .leaf a=>some (true,a)
 | .need b t=>match mergeT t with
  | some (p,x)=>some (bif b then p else false,x)
  | none=>none
 | .br b t f=>match mergeT t with
  | some (p,x)=>match mergeT f with
   | some (q,y)=>match mg2 b x y with
    | some z=>some (bif b then p else q,z)
    | none=>none
   | none=>some (bif b then p else false,x)
  | none=>match mergeT f with
   | some (q,y)=>some (bif b then false else q,y)
   | none=>none
 | .same _ _ _=>none
 | .fail=>none
def mergeS:Tree AV->Option AV
 | .leaf a=>some a
 | .need b t=>match b with
  | true=>mergeS t
  | false=>none
 | .br b t f=>match mergeS t with
  | some x=>match mergeS f with
   | some y=>mg2 b x y
   | none=>none
  | none=>none
 | .same _ _ _=>none
 | .fail=>none
theorem mergeS_holds:∀ {t:Tree AV} {r:AV},mergeS t=some r->t.holds (fun q=>flat q=flat r)
 | .leaf a,r,h=>by
  simp only [mergeS,Option.some.injEq] at h
  rw [<- h]
  exact rfl
 | .need true t,r,h=>by
  simp only [mergeS] at h
  exact ⟨rfl,mergeS_holds h⟩
 | .need false t,r,h=>by simp [mergeS] at h
 | .br b t f,r,h=>by
  simp only [mergeS] at h
  split at h
  . rename_i x hp
    split at h
    . rename_i y hq
      have hf:=mg2_is h
      cases b with
      | true =>
       refine ⟨fun _=>Tree.holds_mono (fun a ha=>?_) (mergeS_holds hp),fun e=>by cases e⟩
       rw [hf];exact ha
      | false =>
       refine ⟨fun e=>(by cases e),fun _=>Tree.holds_mono (fun a ha=>?_) (mergeS_holds hq)⟩
       rw [hf];exact ha
    . cases h
  . cases h
 | .same _ _ _,r,h=>by simp [mergeS] at h
 | .fail,r,h=>by simp [mergeS] at h
def ansT:Tree (AV × AH)->Tree AV
 | .leaf a=>.leaf a.1
 | .need b t=>.need b (ansT t)
 | .br b t f=>.br b (ansT t) (ansT f)
 | .same x y t=>.same x y (ansT t)
 | .fail=>.fail
theorem ansT_holds {K:AV->Prop}:∀ {t:Tree (AV × AH)},(ansT t).holds K->t.holds (fun q=>K q.1)
 | .leaf _,h=>h
 | .need _ _,h=>⟨h.1,ansT_holds h.2⟩
 | .br _ _ _,h=>⟨fun e=>ansT_holds (h.1 e),fun e=>ansT_holds (h.2 e)⟩
 | .same _ _ _,h=>⟨h.1,ansT_holds h.2⟩
 | .fail,h=>h
def viewM (P:Program) (E:Env) (sym:List Tmp) (lf f:Nat) (as:List AV) (h:AH):Option (Bool × AV × AH) :=
 match allLt (topOf (idsOf as)) as with
 | true=>match viewH h (idsOf as) with
  | some h0=>match mergeT (ansT (afun P E sym (fun _=>none) lf f as h0 (topOf (idsOf as)))) with
   | some (c,r)=>match isFlat r with
    | true=>some (c,r,[])
    | false=>none
   | none=>none
  | none=>none
 | false=>none
def inlineS (P:Program) (E:Env) (sym:List Tmp) (lf f:Nat) (as:List AV):Option (Bool × AV) :=
 match allFlat as with
 | true=>match mergeS (afunR P E sym (fun _=>none) lf f as) with
  | some r=>match isFlat r with
   | true=>some (true,r)
   | false=>none
  | none=>none
 | false=>none
theorem inlineS_ok {P:Program} {E:Env} {sym:List Tmp} {lf f:Nat} (X:Ctx P E sym (fun _=>none) lf f):PureOk P f (inlineS P E sym lf f):=by
 refine pure_core X fun as r hg=>?_
 unfold inlineS at hg
 split at hg
 . rename_i hfl
   split at hg
   . rename_i q hq
     split at hg
     . rename_i hfr
       simp only [Option.some.injEq,Prod.mk.injEq] at hg
       obtain rfl:=hg.2
       unfold allFlat at hfl
       split at hfl
       . rename_i l hl
         unfold isFlat at hfr
         split at hfr
         . rename_i y hy
           exact ⟨as,l,fun ρ xs hx=>hx.flatL_eq hl,hl,y,hy,Tree.holds_mono (fun a h=>by rw [h];exact hy) (mergeS_holds hq)⟩
         . cases hfr
       . cases hfl
     . cases hg
   . cases hg
 . cases hg
def viewS (P:Program) (E:Env) (sym:List Tmp) (lf f:Nat) (as:List AV) (h:AH):Option (Bool × AV × AH) :=
 match allLt (topOf (idsOf as)) as with
 | true=>match viewH h (idsOf as) with
  | some h0=>match mergeS (ansT (afun P E sym (fun _=>none) lf f as h0 (topOf (idsOf as)))) with
   | some r=>match isFlat r with
    | true=>some (true,r,[])
    | false=>none
   | none=>none
  | none=>none
 | false=>none
theorem viewS_ok {P:Program} {E:Env} {sym:List Tmp} {lf f:Nat} (X:Ctx P E sym (fun _=>none) lf f):HeapOk P f (viewS P E sym lf f):=by
 obtain ⟨fn,c,hf,hb,hok,htab⟩:=X.body
 refine ⟨?_,?_,?_,?_,?_⟩
 rotate_left 4
 . intro as h h' x hle hg
   unfold viewS at hg ⊢
   split at hg
   . rename_i hlt
     split at hg
     . rename_i h0 hv
       simp only [viewH_congr hle hv]
       exact hg
     . cases hg
   . cases hg
 . intro F ρ as xs h r ups w hg hx hw
   unfold viewS at hg
   split at hg
   . rename_i hlt
     split at hg
     . rename_i h0 hv
       split at hg
       . rename_i q hq
         split at hg
         . rename_i hfr
           simp only [Option.some.injEq,Prod.mk.injEq] at hg
           obtain ⟨_,rfl,rfl⟩:=hg
           unfold isFlat at hfr
           split at hfr
           . rename_i y hy
             have:=afun_calls X.env X.mixed hf hb hok (tabOk_none c) (K:=fun q' _=>flat q'=some y)
              (Tree.holds_mono (fun a h=>h.trans hy) (ansT_holds (K:=fun a=>flat a=flat q) (mergeS_holds hq))) (F:=frameOf w)
              (hx.lt_all hlt) (viewH_ok hw hv (fun i hi=>topOf_lt hi)) (fun id hid=>Ren.cut_ge hid)
             refine Calls.mono this ?_
             rintro e w' ⟨v,q',h',ρ',rfl,hk,hrv,hrw,_⟩
             have:=hrv.flat_eq hk
             subst this
             exact ⟨v,rfl,.of_flat hy,hw.below hrw.to_below⟩
           . cases hfr
         . cases hg
       . cases hg
     . cases hg
   . cases hg
 . intro as h h' x hle hg
   unfold viewS at hg ⊢
   split at hg
   . rename_i hlt
     split at hg
     . rename_i h0 hv
       simp only [viewH_congr (fun i _ B hB=>hle i B hB) hv]
       exact hg
     . cases hg
   . cases hg
 . intro ρ as xs z b h x hx hz hg
   unfold viewS at hg ⊢
   split at hg
   . rename_i hlt
     split at hg
     . rename_i h0 hv
       have:=viewH_congr (h':=h) (fun i hi B hB=>by
        rw [AH.get_cons,if_neg (fun e=>hx.ids_ne hz i hi e.symm)] at hB;exact hB) hv
       simp only [this]
       exact hg
     . cases hg
   . cases hg
 . intro as h c r ups hg
   unfold viewS at hg
   split at hg
   . split at hg
     . split at hg
       . split at hg
         . simp only [Option.some.injEq,Prod.mk.injEq] at hg
           obtain ⟨_,_,rfl⟩:=hg
           simp
         . cases hg
       . cases hg
     . cases hg
   . cases hg
def pathT:List Bool->Tree AV->Option (Bool × AV)
 | _,.leaf a=>some (true,a)
 | ds,.need b t=>match pathT ds t with
  | some (p,x)=>some (bif b then p else false,x)
  | none=>none
 | [],.br b t _=>match pathT [] t with
  | some (p,x)=>some (bif b then p else false,x)
  | none=>none
 | true :: ds,.br b t _=>match pathT ds t with
  | some (p,x)=>some (bif b then p else false,x)
  | none=>none
 | false :: ds,.br b _ f=>match pathT ds f with
  | some (p,x)=>some (bif b then false else p,x)
  | none=>none
 | _,.same _ _ _=>none
 | _,.fail=>none
theorem path_holds:∀ {ds:List Bool} {t:Tree AV} {c:Bool} {r:AV},pathT ds t=some (c,r)->c=true->t.holds (fun q=>q=r)
 | ds,.leaf a,c,r,h,_=>by
  have h:some (true,a)=some (c,r):=by cases ds <;> exact h
  simp only [Option.some.injEq,Prod.mk.injEq] at h
  exact h.2
 | ds,.need b t,c,r,h,hc=>by
  have h:(match pathT ds t with
   | some (p,x)=>some (bif b then p else false,x)
   | none=>none)=some (c,r):=by cases ds <;> exact h
  split at h
  . rename_i p x hp
    simp only [Option.some.injEq,Prod.mk.injEq] at h
    obtain ⟨h1,rfl⟩:=h
    rw [hc] at h1
    cases b with
    | true=>exact ⟨rfl,path_holds hp h1⟩
    | false=>cases h1
  . cases h
 | [],.br b t f,c,r,h,hc=>by
  simp only [pathT] at h
  split at h
  . rename_i p x hp
    simp only [Option.some.injEq,Prod.mk.injEq] at h
    obtain ⟨h1,rfl⟩:=h
    rw [hc] at h1
    cases b with
    | true=>exact ⟨fun _=>path_holds hp h1,fun e=>by cases e⟩
    | false=>cases h1
  . cases h
 | true :: ds,.br b t f,c,r,h,hc=>by
  simp only [pathT] at h
  split at h
  . rename_i p x hp
    simp only [Option.some.injEq,Prod.mk.injEq] at h
    obtain ⟨h1,rfl⟩:=h
    rw [hc] at h1
    cases b with
    | true=>exact ⟨fun _=>path_holds hp h1,fun e=>by cases e⟩
    | false=>cases h1
  . cases h
 | false :: ds,.br b t f,c,r,h,hc=>by
  simp only [pathT] at h
  split at h
  . rename_i p x hp
    simp only [Option.some.injEq,Prod.mk.injEq] at h
    obtain ⟨h1,rfl⟩:=h
    rw [hc] at h1
    cases b with
    | true=>cases h1
    | false=>exact ⟨fun e=>(by cases e),fun _=>path_holds hp h1⟩
  . cases h
 | ds,.same _ _ _,c,r,h,_=>by
  have h:(none:Option (Bool × AV))=some (c,r):=by cases ds <;> exact h
  cases h
 | ds,.fail,c,r,h,_=>by
  have h:(none:Option (Bool × AV))=some (c,r):=by cases ds <;> exact h
  cases h
def viewP (ds:List Bool) (P:Program) (E:Env) (sym:List Tmp) (lf f:Nat) (as:List AV) (h:AH):Option (Bool × AV × AH) :=
 match allLt (topOf (idsOf as)) as with
 | true=>match viewH h (idsOf as) with
  | some h0=>match pathT ds (ansT (afun P E sym (fun _=>none) lf f as h0 (topOf (idsOf as)))) with
   | some (c,r)=>match isFlat r with
    | true=>some (c,r,[])
    | false=>none
   | none=>none
  | none=>none
 | false=>none
theorem viewP_ok {ds:List Bool} {P:Program} {E:Env} {sym:List Tmp} {lf f:Nat} (X:Ctx P E sym (fun _=>none) lf f):HeapOk P f (viewP ds P E sym lf f):=by
 obtain ⟨fn,c,hf,hb,hok,htab⟩:=X.body
 refine ⟨?_,?_,?_,?_,?_⟩
 rotate_left 4
 . intro as h h' x hle hg
   unfold viewP at hg ⊢
   split at hg
   . rename_i hlt
     split at hg
     . rename_i h0 hv
       simp only [viewH_congr hle hv]
       exact hg
     . cases hg
   . cases hg
 . intro F ρ as xs h r ups w hg hx hw
   unfold viewP at hg
   split at hg
   . rename_i hlt
     split at hg
     . rename_i h0 hv
       split at hg
       . rename_i p q hq
         split at hg
         . rename_i hfr
           simp only [Option.some.injEq,Prod.mk.injEq] at hg
           obtain ⟨rfl,rfl,rfl⟩:=hg
           unfold isFlat at hfr
           split at hfr
           . rename_i y hy
             have:=afun_calls X.env X.mixed hf hb hok (tabOk_none c) (K:=fun q' _=>flat q'=some y)
              (Tree.holds_mono (fun a h=>by rw [h];exact hy) (ansT_holds (K:=fun a=>a=q) (path_holds hq rfl))) (F:=frameOf w)
              (hx.lt_all hlt) (viewH_ok hw hv (fun i hi=>topOf_lt hi)) (fun id hid=>Ren.cut_ge hid)
             refine Calls.mono this ?_
             rintro e w' ⟨v,q',h',ρ',rfl,hk,hrv,hrw,_⟩
             have:=hrv.flat_eq hk
             subst this
             exact ⟨v,rfl,.of_flat hy,hw.below hrw.to_below⟩
           . cases hfr
         . cases hg
       . cases hg
     . cases hg
   . cases hg
 . intro as h h' x hle hg
   unfold viewP at hg ⊢
   split at hg
   . rename_i hlt
     split at hg
     . rename_i h0 hv
       simp only [viewH_congr (fun i _ B hB=>hle i B hB) hv]
       exact hg
     . cases hg
   . cases hg
 . intro ρ as xs z b h x hx hz hg
   unfold viewP at hg ⊢
   split at hg
   . rename_i hlt
     split at hg
     . rename_i h0 hv
       have:=viewH_congr (h':=h) (fun i hi B hB=>by
        rw [AH.get_cons,if_neg (fun e=>hx.ids_ne hz i hi e.symm)] at hB;exact hB) hv
       simp only [this]
       exact hg
     . cases hg
   . cases hg
 . intro as h c r ups hg
   unfold viewP at hg
   split at hg
   . split at hg
     . split at hg
       . split at hg
         . simp only [Option.some.injEq,Prod.mk.injEq] at hg
           obtain ⟨_,_,rfl⟩:=hg
           simp
         . cases hg
       . cases hg
     . cases hg
   . cases hg
inductive Sx where
 | gr
 | li
 | mi
 | up (n:Nat)
 | neg (n:Nat)
def Sx.int:Sx->Int
 | .gr=>0
 | .li=>1
 | .mi=>2
 | .up n=>Int.ofNat (n+3)
 | .neg n=>Int.negSucc n
def Sx.of:Int->Sx
 | .ofNat 0=>.gr
 | .ofNat 1=>.li
 | .ofNat 2=>.mi
 | .ofNat (n+3)=>.up n
 | .negSucc n=>.neg n
theorem Sx.int_of:∀ i:Int,(Sx.of i).int=i
 | .ofNat 0=>rfl
 | .ofNat 1=>rfl
 | .ofNat 2=>rfl
 | .ofNat (_+3)=>rfl
 | .negSucc _=>rfl
theorem Sx.of_int:∀ s:Sx,Sx.of s.int=s
 | .gr=>rfl
 | .li=>rfl
 | .mi=>rfl
 | .up _=>rfl
 | .neg _=>rfl
theorem Sx.int_inj {s t:Sx} (h:s.int=t.int):s=t:=by rw [<- Sx.of_int s,h,Sx.of_int]
def cSx:CC Sx where
 n:=1
 enc s:=[.v (.int .i64 s.int)]
 dec l:=match (cInt .i64).dec l with
  | some i=>some (Sx.of i)
  | none=>none
 val s:=[.int .i64 s.int]
 len _:=rfl
 h1 _:=rfl
 h2 ρ l vs x h r:=by
  split at h
  . rename_i i hi
    simp only [Option.some.injEq] at h
    subst h
    rw [Sx.int_of]
    exact (cInt .i64).h2 ρ _ _ _ hi r
  . cases h
def kSx:Cod Sx where
 enc s:=.v (.int .i64 s.int)
 dec a:=match (kInt .i64).dec a with
  | some i=>some (Sx.of i)
  | none=>none
 val s:=.int .i64 s.int
 h1 _:=rfl
 h2 ρ a v x h r:=by
  split at h
  . rename_i i hi
    simp only [Option.some.injEq] at h
    subst h
    rw [Sx.int_of]
    exact (kInt .i64).h2 ρ _ _ _ hi r
  . cases h
abbrev Px:Type:=W6 × (W6 × Bool)
abbrev Lx:Type:=BitVec 64 × (BitVec 64 × Bool)
abbrev Kx:Type:=Sx × (Px × Lx)
def cPx:CC Px:=CC.prod c6 (CC.prod c6 cBool)
def cLx:CC Lx:=CC.prod cU (CC.prod cU cBool)
def cKx:CC Kx:=CC.prod cSx (CC.prod cPx cLx)
def zPx:Px:=(⟨0#64,0#64,0#64,0#64,0#64,0#64⟩,⟨0#64,0#64,0#64,0#64,0#64,0#64⟩,false)
def zLx:Lx:=(0#64,0#64,false)
def zKx:Kx:=(.gr,zPx,zLx)
def valS (t:Tree AV):Option Value:=match mergeS t with
 | some r=>flat r
 | none=>none
theorem givesV {v:Value} {t:Tree AV} (h:valS t=some v):Gives t v:=by
 unfold valS at h
 split at h
 . rename_i r hr
   exact ⟨Tree.holds_mono (fun a ha=>ha.trans h) (mergeS_holds hr)⟩
 . cases h
def valP (ds:List Bool) (t:Tree AV):Option (Bool × Option Value):=match pathT ds t with
 | some (c,r)=>some (c,flat r)
 | none=>none
theorem givesP {ds:List Bool} {c:Bool} {v:Value} {t:Tree AV} (h:valP ds t=some (c,some v)) (hc:c=true):Gives t v:=by
 unfold valP at h
 split at h
 . rename_i q r hr
   simp only [Option.some.injEq,Prod.mk.injEq] at h
   obtain ⟨rfl,hv⟩:=h
   exact ⟨Tree.holds_mono (fun a ha=>by rw [ha];exact hv) (path_holds hr hc)⟩
 . cases h
def fnQ1 {α β:Type} (A:Cod α) (B:Cod β) (Q:α->Bool) (F:α->β):List AV->Option (Bool × AV)
 | [a]=>match A.dec a with
  | some x=>some (Q x,B.enc (F x))
  | none=>none
 | _=>none
def fnQ2 {α γ β:Type} (A:Cod α) (C:Cod γ) (B:Cod β) (Q:α->γ->Bool) (F:α->γ->β):List AV->Option (Bool × AV)
 | [a,c]=>match A.dec a,C.dec c with
  | some x,some y=>some (Q x y,B.enc (F x y))
  | _,_=>none
 | _=>none
def fnQ3 {α γ δ β:Type} (A:Cod α) (C:Cod γ) (D:Cod δ) (B:Cod β) (Q:α->γ->δ->Bool) (F:α->γ->δ->β):List AV->Option (Bool × AV)
 | [a,c,d]=>match A.dec a,C.dec c,D.dec d with
  | some x,some y,some z=>some (Q x y z,B.enc (F x y z))
  | _,_,_=>none
 | _=>none
section
variable {P:Program} {E:Env} {sym:List Tmp} {tab:BTab} {lf f:Nat} {α β γ δ:Type} {A:Cod α} {B:Cod β} {C:Cod γ} {D:Cod δ}
theorem pureQ3 (X:Ctx P E sym tab lf f) {Q:α->γ->δ->Bool} {F:α->γ->δ->β} (h:∀ x y z,Q x y z=true->Gives (afunR P E sym tab lf f [A.enc x,C.enc y,D.enc z]) (B.val (F x y z))):PureOk P f (fnQ3 A C D B Q F):=by
 refine pure_core X fun as r hg=>?_
 unfold fnQ3 at hg
 split at hg
 . rename_i a c d
   split at hg
   . rename_i x y z hx hy hz
     simp only [Option.some.injEq,Prod.mk.injEq] at hg
     obtain ⟨hq,rfl⟩:=hg
     refine ⟨[A.enc x,C.enc y,D.enc z],[A.val x,C.val y,D.val z],fun ρ xs hxs=>?_,by simp [flatL,A.h1,C.h1,D.h1],_,B.h1 _,(h x y z hq).out⟩
     obtain ⟨v,ys,rfl,h1,h2⟩:=hxs.uncons
     obtain ⟨w,zs,rfl,h3,h4⟩:=h2.uncons
     obtain ⟨u,us,rfl,h5,h6⟩:=h4.uncons
     rw [h6.unnil,A.h2 ρ _ _ _ hx h1,C.h2 ρ _ _ _ hy h3,D.h2 ρ _ _ _ hz h5]
   . cases hg
 . cases hg
end
def pathG {α:Type}:List Bool->Tree α->Option (Bool × α)
 | _,.leaf a=>some (true,a)
 | ds,.need b t=>match pathG ds t with
  | some (p,x)=>some (bif b then p else false,x)
  | none=>none
 | [],.br b t _=>match pathG [] t with
  | some (p,x)=>some (bif b then p else false,x)
  | none=>none
 | true :: ds,.br b t _=>match pathG ds t with
  | some (p,x)=>some (bif b then p else false,x)
  | none=>none
 | false :: ds,.br b _ f=>match pathG ds f with
  | some (p,x)=>some (bif b then false else p,x)
  | none=>none
 | _,.same _ _ _=>none
 | _,.fail=>none
theorem pathG_holds {α:Type}:∀ {ds:List Bool} {t:Tree α} {c:Bool} {r:α},pathG ds t=some (c,r)->c=true->t.holds (fun q=>q=r)
 | ds,.leaf a,c,r,h,_=>by
  have h:some (true,a)=some (c,r):=by cases ds <;> exact h
  simp only [Option.some.injEq,Prod.mk.injEq] at h
  exact h.2
 | ds,.need b t,c,r,h,hc=>by
  have h:(match pathG ds t with
   | some (p,x)=>some (bif b then p else false,x)
   | none=>none)=some (c,r):=by cases ds <;> exact h
  split at h
  . rename_i p x hp
    simp only [Option.some.injEq,Prod.mk.injEq] at h
    obtain ⟨h1,rfl⟩:=h
    rw [hc] at h1
    cases b with
    | true=>exact ⟨rfl,pathG_holds hp h1⟩
    | false=>cases h1
  . cases h
 | [],.br b t f,c,r,h,hc=>by
  simp only [pathG] at h
  split at h
  . rename_i p x hp
    simp only [Option.some.injEq,Prod.mk.injEq] at h
    obtain ⟨h1,rfl⟩:=h
    rw [hc] at h1
    cases b with
    | true=>exact ⟨fun _=>pathG_holds hp h1,fun e=>by cases e⟩
    | false=>cases h1
  . cases h
 | true :: ds,.br b t f,c,r,h,hc=>by
  simp only [pathG] at h
  split at h
  . rename_i p x hp
    simp only [Option.some.injEq,Prod.mk.injEq] at h
    obtain ⟨h1,rfl⟩:=h
    rw [hc] at h1
    cases b with
    | true=>exact ⟨fun _=>pathG_holds hp h1,fun e=>by cases e⟩
    | false=>cases h1
  . cases h
 | false :: ds,.br b t f,c,r,h,hc=>by
  simp only [pathG] at h
  split at h
  . rename_i p x hp
    simp only [Option.some.injEq,Prod.mk.injEq] at h
    obtain ⟨h1,rfl⟩:=h
    rw [hc] at h1
    cases b with
    | true=>cases h1
    | false=>exact ⟨fun e=>(by cases e),fun _=>pathG_holds hp h1⟩
  . cases h
 | ds,.same _ _ _,c,r,h,_=>by
  have h:(none:Option (Bool × α))=some (c,r):=by cases ds <;> exact h
  cases h
 | ds,.fail,c,r,h,_=>by
  have h:(none:Option (Bool × α))=some (c,r):=by cases ds <;> exact h
  cases h
def onQ {α:Type} (c:Bool):Option (Bool × α)->Option (Bool × α)
 | some (b,x)=>some (bif c then b else false,x)
 | none=>none
theorem onQ_some {α:Type} {c b:Bool} {o:Option (Bool × α)} {x:α} (h:onQ c o=some (b,x)):∃ b',o=some (b',x) /\ b=(bif c then b' else false):=by
 unfold onQ at h
 split at h
 . rename_i b' y
   simp only [Option.some.injEq,Prod.mk.injEq] at h
   obtain ⟨h1,rfl⟩:=h
   exact ⟨b',rfl,h1.symm⟩
 . cases h
def deepP (ds:List Bool) (P:Program) (E:Env) (sym:List Tmp) (lf f kk:Nat) (rd:Bool) (args:List AV) (h:AH) (z:Nat):Option (Bool × AV × AH) :=
 match closeI h 65536 (args.foldr nm3 []) [] with
 | none=>none
 | some ids=>match pathG ds (afun P E sym (fun _=>none) lf f (args.map (mv3 (inM ids))) (inH h (inM ids) (!rd) ids 0) ids.length) with
  | none=>none
  | some (c,r,h')=>onQ c (backL kk rd ids z r h' (closeX h' ids.length 65536 (nm3 r (bif rd then [] else namesH h' ids.length)) []))
theorem deepP_ok {ds:List Bool} {P:Program} {E:Env} {sym:List Tmp} {lf f kk:Nat} {rd:Bool} (X:Ctx P E sym (fun _=>none) lf f):ActOk P kk f (deepP ds P E sym lf f kk rd):=by
 obtain ⟨fn,c,hf,hb,hok,htab⟩:=X.body
 have same:∀ {args:List AV} {h h':AH} {z:Nat} {x:Bool × AV × AH},(∀ ids,closeI h 65536 (args.foldr nm3 []) []=some ids->closeI h' 65536 (args.foldr nm3 []) []=some ids /\ ∀ i ∈ ids,h.get i=h'.get i) ->
  deepP ds P E sym lf f kk rd args h z=some x->deepP ds P E sym lf f kk rd args h' z=some x:=by
  intro args h h' z x hh hg
  unfold deepP at hg ⊢
  split at hg
  . cases hg
  . rename_i ids hi
    obtain ⟨h1,h2⟩:=hh ids hi
    have e:∀ (l:List Nat) (n:Nat),(∀ i ∈ l,h.get i=h'.get i)->inH h (inM ids) (!rd) l n=inH h' (inM ids) (!rd) l n:=by
     intro l
     induction l with
     | nil=>intro n _;rfl
     | cons i t ih =>
      intro n hl
      simp only [inH]
      rw [hl i (by simp),ih (n+1) (fun j hj=>hl j (by simp [hj]))]
    simp only [h1]
    rw [<- e ids 0 h2]
    exact hg
 have hin:∀ {args:List AV} {h:AH} {ids:List Nat},closeI h 65536 (args.foldr nm3 []) []=some ids->∀ i ∈ ids,∃ B,h.get i=some B:=fun e=>closeI_in e (fun i hi=>by simp at hi)
 refine ⟨?_,fun args h h' z x hle hg=>same (fun ids hi=>⟨closeI_mono hle hi,fun i hm=>?_⟩) hg,fun F ρ args xs z u h w x hx hw hu hg=>?_,fun args h z c' r ups hg=>?_⟩
 . intro F ρ args xs h z r ups w hg hx hw hz
   unfold deepP at hg
   split at hg
   . cases hg
   rename_i ids hi
   split at hg
   . cases hg
   rename_i cq r0 h0 hq
   obtain ⟨b',hg,hb'⟩:=onQ_some hg
   have hcq:cq=true:=by
    cases cq with
    | true=>rfl
    | false=>cases hb'
   rw [hcq,cond_true] at hb'
   subst hb'
   unfold backL at hg
   obtain ⟨hc,hg⟩:=cond_some hg
   simp only [Bool.and_eq_true] at hc
   obtain ⟨c1,c2,c3⟩:=hc
   simp at hg
   obtain ⟨rfl,rfl⟩:=hg
   have hnd:ids.Nodup:=closeI_nodup hi List.nodup_nil
   have hcall:=afun_calls X.env X.mixed hf hb hok (tabOk_none c) (K:=fun a h'=>(a,h')=(r0,h0)) (Tree.holds_mono (fun a h=>h) (pathG_holds hq hcq)) (F:=deepF ρ h (bif rd then [] else ids) w)
    (Rvs.mapS (mv3_ok NmOk.ins) hx) (deep_in hw rd hnd) (fun id hid=>by
     have:ids[id]?=none:=by rw [List.getElem?_eq_none_iff];exact hid
     simp [Ren.ins,this])
   refine Calls.mono hcall ?_
   rintro e w' ⟨v,q,h',ρ',rfl,hk,hrv,hrw,hsame⟩
   simp at hk
   obtain ⟨rfl,rfl⟩:=hk
   have c1:=Nat.le_of_ble_eq_true c1
   refine ⟨v,ρ.out ρ' _ z,rfl,Ren.le_out hz c1,fun j hj=>?_,mv3_ok (NmOk.out hz c1 hsame) _ _ hrv,?_⟩
   . exact (Ren.out_old (fun hh=>hj ⟨hh.1,by omega⟩)).1
   . exact deep_out hw (hin hi) hz c1 (nodB_spec c2) (newOk_spec c3) hrw hsame
 . obtain ⟨B,hB⟩:=hin hi i hm
   rw [hB,hle i B hB]
 . refine same (fun ids hi=>?_) hg
   have hn:∀ i ∈ args.foldr nm3 [],ρ i ≠ none:=fun i hm=>(foldr_named nm3_named hx hm).resolve_left (by simp)
   have h1:=closeI_local hw hu hn hi
   refine ⟨h1,fun i hm=>?_⟩
   obtain ⟨B,hB⟩:=hin h1 i hm
   obtain ⟨b,o,g1,_⟩:=hw.blk i B hB
   rw [AH.get_append,if_neg]
   rintro ⟨p,hp,rfl⟩
   rw [hu p hp] at g1;cases g1
 . unfold deepP at hg
   split at hg
   . cases hg
   rename_i ids hi
   split at hg
   . cases hg
   rename_i cq r0 h0 hq
   obtain ⟨b',hg,hb'⟩:=onQ_some hg
   unfold backL at hg
   obtain ⟨hc,hg⟩:=cond_some hg
   simp only [Bool.and_eq_true] at hc
   have c1:=Nat.le_of_ble_eq_true hc.1
   simp at hg
   obtain ⟨-,-,rfl⟩:=hg
   intro p hp
   rcases List.mem_append.1 hp with hp | hp
   . have:=newH_dom p hp
     exact .inl ⟨this.1,by omega⟩
   . refine .inr (hin hi p.1 ?_)
     have:=oldH_dom p hp
     cases rd with
     | true=>simp at this
     | false=>exact this
end Go.Rq

namespace Go.Rq
structure IV where
 ze:W6->Bool
 ev:W6->Bool
 sh:W6->W6
 hf:W6->W6
 ge:W6->W6->Bool
 sb:W6->W6->W6
 ms:W6->W6->W6
abbrev IS:Type:=W6 × (W6 × (W6 × W6))
def ivS (t:IV) (s:IS):IS :=
 bif t.ev s.1 then (t.sh s.1,s.2.1,t.hf s.2.2.1,s.2.2.2) else
 bif t.ev s.2.1 then (s.1,t.sh s.2.1,s.2.2.1,t.hf s.2.2.2) else
 bif t.ge s.1 s.2.1 then (t.sb s.1 s.2.1,s.2.1,t.ms s.2.2.1 s.2.2.2,s.2.2.2) else
 (s.1,t.sb s.2.1 s.1,s.2.2.1,t.ms s.2.2.2 s.2.2.1)
def ivR (t:IV):Nat->IS->IS
 | 0,s=>s
 | k+1,s=>bif t.ze s.1 then s else ivR t k (ivS t s)
def isz (s:IS):Nat:=s.1.val+s.2.1.val
structure IvOk (t:IV) (n:Nat):Prop where
 odd:n % 2=1
 ze:∀ u,t.ze u=true ↔ u.val=0
 ev:∀ u,t.ev u=true ↔ u.val % 2=0
 sh:∀ u,(t.sh u).val=u.val / 2
 hf:∀ x:W6,x.val < n->(t.hf x).val < n /\ 2*(t.hf x).val % n=x.val % n
 ge:∀ u v,t.ge u v=true ↔ v.val <= u.val
 sb:∀ u v:W6,v.val <= u.val->(t.sb u v).val=u.val - v.val
 ms:∀ x y:W6,x.val < n->y.val < n->(t.ms x y).val=(x.val+(n - y.val)) % n
structure IvI (n a:Nat) (s:IS):Prop where
 v0:0 < s.2.1.val
 x:s.2.2.1.val < n
 y:s.2.2.2.val < n
 ax:a*s.2.2.1.val % n=s.1.val % n
 ay:a*s.2.2.2.val % n=s.2.1.val % n
 dv:∀ d,d ∣ s.1.val->d ∣ s.2.1.val->d ∣ n /\ d ∣ a
theorem half_cancel {n s t:Nat} (ho:n % 2=1) (h:2*s % n=2*t % n):s % n=t % n:=by
 have k:((n+1) / 2*(2*s)) % n=((n+1) / 2*(2*t)) % n:=by
  rw [Nat.mul_mod,h,<- Nat.mul_mod]
 have e:∀ z,(n+1) / 2*(2*z)=n*z+z:=by
  intro z
  have h2:(n+1) / 2*2=n+1:=by omega
  rw [<- Nat.mul_assoc,h2,Nat.add_mul,Nat.one_mul]
 rw [e,e,Nat.mul_add_mod,Nat.mul_add_mod] at k
 exact k
theorem half_move {n a x hx u:Nat} (ho:n % 2=1) (h:2*hx % n=x % n) (k:a*x % n=u % n) (hu:u % 2=0):a*hx % n=(u / 2) % n:=by
 apply half_cancel ho
 rw [show 2*(a*hx)=a*(2*hx) by rw [Nat.mul_left_comm],Nat.mul_mod,h,<- Nat.mul_mod,k,show 2*(u / 2)=u by omega]
theorem diff_move {n a x y u v:Nat} (hy:y < n) (k:a*x % n=u % n) (l:a*y % n=v % n) (h:v <= u):a*((x+(n - y)) % n) % n=(u - v) % n:=by
 have e1:(a*((x+(n - y)) % n)+v) % n=u % n:=by
  rw [Nat.add_mod,Nat.mul_mod,Nat.mod_mod,<- Nat.mul_mod,<- l,<- Nat.add_mod,<- Nat.mul_add,show x+(n - y)+y=x+n by omega,Nat.mul_add,Nat.mul_comm a n,Nat.add_mul_mod_self_left,k]
 have hn:0 < n:=by omega
 generalize a*((x+(n - y)) % n)=w at e1
 have e2:(w+v) % n=(u - v+v) % n:=by rw [e1,show u - v+v=u by omega]
 have hv:v % n < n:=Nat.mod_lt _ hn
 have e3:(w+v+(n - v % n)) % n=(u - v+v+(n - v % n)) % n:=by
  rw [Nat.add_mod,e2,<- Nat.add_mod]
 have hk:∀ z,(z+v+(n - v % n)) % n=z % n:=by
  intro z
  have hd:=Nat.div_add_mod v n
  rw [show z+v+(n - v % n)=z+n*(v / n)+n by omega,Nat.add_mod_right,Nat.add_mul_mod_self_left]
 rw [hk,hk] at e3
 exact e3
theorem ivS_ok {t:IV} {n a:Nat} (T:IvOk t n) {s:IS} (h:IvI n a s) (hu:0 < s.1.val):IvI n a (ivS t s) /\ isz (ivS t s) < isz s:=by
 obtain ⟨u,v,x,y⟩:=s
 obtain ⟨v0,hx,hy,ax,ay,dv⟩:=h
 simp only at v0 hx hy ax ay dv hu
 unfold ivS isz
 simp only
 cases h1:t.ev u with
 | true =>
  have e1:=(T.ev u).1 h1
  obtain ⟨f1,f2⟩:=T.hf x hx
  rw [cond_true]
  refine ⟨⟨v0,f1,hy,?_,ay,?_⟩,?_⟩
  . show a*(t.hf x).val % n=(t.sh u).val % n
    rw [T.sh];exact half_move T.odd f2 ax e1
  . intro d d1 d2
    refine dv d ?_ d2
    rw [show u.val=2*(t.sh u).val by rw [T.sh];omega]
    exact Nat.dvd_trans d1 ⟨2,by rw [Nat.mul_comm]⟩
  . show (t.sh u).val+v.val < u.val+v.val
    rw [T.sh];omega
 | false =>
  have o1:u.val % 2=1:=by
   have:¬ u.val % 2=0:=fun e=>by rw [(T.ev u).2 e] at h1;cases h1
   omega
  rw [cond_false]
  cases h2:t.ev v with
  | true =>
   have e2:=(T.ev v).1 h2
   obtain ⟨f1,f2⟩:=T.hf y hy
   rw [cond_true]
   refine ⟨⟨?_,hx,f1,ax,?_,?_⟩,?_⟩
   . show 0 < (t.sh v).val
     rw [T.sh];omega
   . show a*(t.hf y).val % n=(t.sh v).val % n
     rw [T.sh];exact half_move T.odd f2 ay e2
   . intro d d1 d2
     refine dv d d1 ?_
     rw [show v.val=2*(t.sh v).val by rw [T.sh];omega]
     exact Nat.dvd_trans d2 ⟨2,by rw [Nat.mul_comm]⟩
   . show u.val+(t.sh v).val < u.val+v.val
     rw [T.sh];omega
  | false =>
   rw [cond_false]
   cases h3:t.ge u v with
   | true =>
    have g:=(T.ge u v).1 h3
    rw [cond_true]
    refine ⟨⟨v0,?_,hy,?_,ay,?_⟩,?_⟩
    . show (t.ms x y).val < n
      rw [T.ms x y hx hy];exact Nat.mod_lt _ (by omega)
    . show a*(t.ms x y).val % n=(t.sb u v).val % n
      rw [T.ms x y hx hy,T.sb u v g];exact diff_move hy ax ay g
    . intro d d1 d2
      have d1:d ∣ (t.sb u v).val:=d1
      have d2:d ∣ v.val:=d2
      refine dv d ?_ d2
      rw [T.sb u v g] at d1
      rw [show u.val=u.val - v.val+v.val by omega]
      exact Nat.dvd_add d1 d2
    . show (t.sb u v).val+v.val < u.val+v.val
      rw [T.sb u v g];omega
   | false =>
    have g:u.val < v.val:=by
     have:¬ v.val <= u.val:=fun e=>by rw [(T.ge u v).2 e] at h3;cases h3
     omega
    rw [cond_false]
    refine ⟨⟨?_,hx,?_,ax,?_,?_⟩,?_⟩
    . show 0 < (t.sb v u).val
      rw [T.sb v u (by omega)];omega
    . show (t.ms y x).val < n
      rw [T.ms y x hy hx];exact Nat.mod_lt _ (by omega)
    . show a*(t.ms y x).val % n=(t.sb v u).val % n
      rw [T.ms y x hy hx,T.sb v u (by omega)];exact diff_move hx ay ax (by omega)
    . intro d d1 d2
      have d1:d ∣ u.val:=d1
      have d2:d ∣ (t.sb v u).val:=d2
      refine dv d d1 ?_
      rw [T.sb v u (by omega)] at d2
      rw [show v.val=v.val - u.val+u.val by omega]
      exact Nat.dvd_add d2 d1
    . show u.val+(t.sb v u).val < u.val+v.val
      rw [T.sb v u (by omega)];omega
theorem ivR_ok {t:IV} {n a:Nat} (T:IvOk t n):∀ (k:Nat) (s:IS),IvI n a s->isz s <= k->IvI n a (ivR t k s) /\ (ivR t k s).1.val=0
 | 0,s,h,hk=>by
  refine ⟨h,?_⟩
  unfold isz at hk
  have:s.1.val=0:=by omega
  exact this
 | k+1,s,h,hk=>by
  unfold ivR
  cases hz:t.ze s.1 with
  | true=>rw [cond_true];exact ⟨h,(T.ze _).1 hz⟩
  | false =>
   rw [cond_false]
   have hu:0 < s.1.val:=by
    have:¬ s.1.val=0:=fun e=>by rw [(T.ze _).2 e] at hz;cases hz
    omega
   obtain ⟨h1,h2⟩:=ivS_ok T h hu
   exact ivR_ok T k _ h1 (by omega)
theorem iv_end {t:IV} {n a:Nat} (T:IvOk t n) (hp:Pr n) (ha:¬ n ∣ a) {k:Nat} {s:IS} (h:IvI n a s) (hk:isz s <= k) :
 (ivR t k s).2.1.val=1 /\ (ivR t k s).2.2.2.val < n /\ a*(ivR t k s).2.2.2.val % n=1:=by
 obtain ⟨h1,h2⟩:=ivR_ok T k s h hk
 generalize ivR t k s=r at h1 h2
 obtain ⟨d1,d2⟩:=h1.dv r.2.1.val (by rw [h2];exact Nat.dvd_zero _) (Nat.dvd_refl _)
 have hv:r.2.1.val=1:=by
  rcases hp.2 _ d1 with e | e
  . exact e
  . rw [e] at d2;exact absurd d2 ha
 refine ⟨hv,h1.y,?_⟩
 rw [h1.ay,hv]
 exact Nat.mod_eq_of_lt hp.1
end Go.Rq

namespace Go.Rq
open Go
abbrev Kz:Type:=Int × (Px × Lx)
def cKz:CC Kz:=CC.prod (cInt .i64) (CC.prod cPx cLx)
def toKx (k:Kz):Kx:=(Sx.of k.1,k.2)
def toKz (k:Kx):Kz:=(k.1.int,k.2)
theorem decSx (l:List AV):cSx.dec l=((cInt .i64).dec l).map Sx.of:=by
 have e:cSx.dec l=(match (cInt .i64).dec l with
  | some i=>some (Sx.of i)
  | none=>none):=rfl
 rw [e]
 cases (cInt .i64).dec l <;> rfl
theorem prodDec {α β:Type} (A:CC α) (B:CC β) (l:List AV):(CC.prod A B).dec l=(A.dec (l.take A.n)).bind fun x=>(B.dec (l.drop A.n)).map fun y=>(x,y):=by
 simp only [CC.prod]
 generalize A.dec (l.take A.n)=x
 generalize B.dec (l.drop A.n)=y
 cases x <;> cases y <;> rfl
theorem decKx (l:List AV):cKx.dec l=(cKz.dec l).map toKx:=by
 unfold cKx cKz
 rw [prodDec,prodDec (cInt .i64),decSx]
 have e:cSx.n=(cInt .i64).n:=rfl
 rw [e]
 generalize (cInt .i64).dec (l.take (cInt .i64).n)=x
 generalize (CC.prod cPx cLx).dec (l.drop (cInt .i64).n)=y
 cases x <;> cases y <;> rfl
theorem decK (a:AV):cKx.agg.dec a=(cKz.agg.dec a).map toKx:=by
 simp only [CC.agg]
 cases aggOf a with
 | none=>rfl
 | some l=>exact decKx l
def kKzE:Cod (Kz × Int):=kTup cKz.agg (kInt .i64) (fun x=>by simp only [CC.agg,flatA,cKz.h1]) (fun _=>rfl)
theorem fnK1 {β β':Type} {B:Cod β} {B':Cod β'} {F:Kx->β} {ψ:β->β'} (hB:∀ y,B.enc y=B'.enc (ψ y)):fn1 cKx.agg B F=fn1 cKz.agg B' (fun a=>ψ (F (toKx a))):=by
 funext args
 unfold fn1
 split
 . rename_i a
   rw [decK]
   cases cKz.agg.dec a with
   | none=>rfl
   | some x=>simp only [Option.map,hB]
 . rfl
theorem fnK1c {γ β β':Type} {D:Cod γ} {B:Cod β} {B':Cod β'} {F:Kx->γ->β} {ψ:β->β'} (hB:∀ y,B.enc y=B'.enc (ψ y)):fn2 cKx.agg D B F=fn2 cKz.agg D B' (fun a d=>ψ (F (toKx a) d)):=by
 funext args
 unfold fn2
 split
 . rename_i a d
   rw [decK]
   cases cKz.agg.dec a with
   | none=>rfl
   | some x=>cases D.dec d <;> simp only [Option.map,hB]
 . rfl
theorem fnK2 {β β':Type} {B:Cod β} {B':Cod β'} {F:Kx->Kx->β} {ψ:β->β'} (hB:∀ y,B.enc y=B'.enc (ψ y)):fn2 cKx.agg cKx.agg B F=fn2 cKz.agg cKz.agg B' (fun a b=>ψ (F (toKx a) (toKx b))):=by
 funext args
 unfold fn2
 split
 . rename_i a b
   rw [decK,decK]
   cases cKz.agg.dec a with
   | none=>rfl
   | some x=>cases cKz.agg.dec b <;> simp only [Option.map,hB]
 . rfl
section
variable {P:Program} {E:Env} {sym:List Tmp} {tab:BTab} {lf f:Nat} {α β γ δ ε ζ:Type} {A:Cod α} {B:Cod β} {C:Cod γ} {D:Cod δ} {G:Cod ε} {H:Cod ζ}
end
end Go.Rq

namespace Go.Rq
set_option synthInstance.maxSize 100000
set_option synthInstance.maxHeartbeats 400000
section
variable {K:Type} [Rg K] {iv:K->K} {e:K->K->Bool}
structure Sl (x1 y1 x2 y2 l:K):Prop where
 a:y1 - y2=l*(x1 - x2)
 b:x1*x1+x1*x2+x2*x2=l*(y1+y2)
def On (b x y:K):Prop:=y*y=x*x*x+b
theorem On.neg {b x y:K} (h:On b x y):On b x (-y):=by unfold On at *;exact rg1 [x,y,b] h 1
theorem Fd.ne_mul (F:Fd K iv e) {x y:K} (hx:x ≠ 0) (hy:y ≠ 0):x*y ≠ 0:=fun h=>by
 rcases F.zero_or h with h | h
 . exact hx h
 . exact hy h
theorem Fd.cancel (F:Fd K iv e) {x y z:K} (hz:z ≠ 0) (h:x*z=y*z):x=y:=by
 have:=F.inv hz
 exact rg2 [x,y,z,iv z] h (iv z) this (y - x)
theorem slope_ex (F:Fd K iv e) {b x1 y1 x2 y2:K} (h1:On b x1 y1) (h2:On b x2 y2) (hn:¬ (x1=x2 /\ y1=-y2)):∃ l,Sl x1 y1 x2 y2 l:=by
 unfold On at h1 h2
 by_cases hx:x1=x2
 . subst hx
   have hy:y1=y2:=by
    have hs:(y1 - y2)*(y1+y2)=0:=rg2 [x1,y1,y2,b] h1 1 h2 (-1)
    rcases F.zero_or hs with h | h
    . exact rg1 [y1,y2] h 1
    . exact absurd ⟨rfl,rg1 [y1,y2] h 1⟩ hn
   subst hy
   have hz:y1+y1 ≠ 0:=fun h=>hn ⟨rfl,rg1 [y1] h 1⟩
   have hi:=F.inv hz
   exact ⟨(x1*x1+x1*x1+x1*x1)*iv (y1+y1),rg [x1,y1,iv (y1+y1)],rg1 [x1,y1,iv (y1+y1)] hi (-(x1*x1+x1*x1+x1*x1))⟩
 . have hz:x1 - x2 ≠ 0:=fun h=>hx (rg1 [x1,x2] h 1)
   have hi:=F.inv hz
   refine ⟨(y1 - y2)*iv (x1 - x2),rg1 [x1,y1,x2,y2,iv (x1 - x2)] hi (-(y1 - y2)),?_⟩
   apply F.cancel hz
   exact rg3 [x1,y1,x2,y2,b,iv (x1 - x2)] h1 (-1) h2 1 hi (-((y1 - y2)*(y1+y2)))
theorem slope_one (F:Fd K iv e) {x1 y1 x2 y2 l m:K} (hn:¬ (x1=x2 /\ y1=-y2)) (h:Sl x1 y1 x2 y2 l) (k:Sl x1 y1 x2 y2 m):l=m:=by
 by_cases hx:x1=x2
 . have hy:y1+y2 ≠ 0:=fun h=>hn ⟨hx,rg1 [y1,y2] h 1⟩
   apply F.cancel hy
   rw [<- h.b,<- k.b]
 . have hz:x1 - x2 ≠ 0:=fun h=>hx (rg1 [x1,x2] h 1)
   apply F.cancel hz
   rw [<- h.a,<- k.a]
def pt (x y:K):Ap K:=⟨x,y,false⟩
theorem eqA_iff (F:Fd K iv e) {a b:Ap K}:eqA e a b=true ↔ a=b:=by
 obtain ⟨x,y,z⟩:=a
 obtain ⟨u,v,w⟩:=b
 simp [eqA,F.eq]
theorem sum_by (F:Fd K iv e) {b x1 y1 x2 y2 l:K} (h1:On b x1 y1) (h2:On b x2 y2) (hn:¬ (x1=x2 /\ y1=-y2)) (h:Sl x1 y1 x2 y2 l) :
 sumA iv e (pt x1 y1) (pt x2 y2)=pt (l*l - x1 - x2) (l*(x1 - (l*l - x1 - x2)) - y1):=by
 have n1:eqA e (pt x1 y1) (negK (pt x2 y2))=false:=by
  cases hb:eqA e (pt x1 y1) (negK (pt x2 y2)) with
  | false=>rfl
  | true =>
   have:=(eqA_iff F).1 hb
   unfold pt negK at this
   have:=Ap.mk.inj this
   exact absurd ⟨this.1,this.2.1⟩ hn
 unfold sumA
 rw [n1]
 show (bif eqA e (pt x1 y1) (pt x2 y2) then chordK (pt x1 y1) (pt x2 y2) (slope1K iv (pt x1 y1)) else chordK (pt x1 y1) (pt x2 y2) (slope2K iv (pt x1 y1) (pt x2 y2)))=_
 unfold On at h1 h2
 cases hb:eqA e (pt x1 y1) (pt x2 y2) with
 | true =>
  have:=Ap.mk.inj ((eqA_iff F).1 hb)
  obtain ⟨rfl,rfl,-⟩:=this
  have hz:y1+y1 ≠ 0:=fun h=>hn ⟨rfl,rg1 [y1] h 1⟩
  have hi:=F.inv hz
  have:l=slope1K iv (pt x1 y1):=slope_one F hn h ⟨by simp only [slope1K,pt];exact rg [x1,y1,iv (y1+y1)],by simp only [slope1K,pt];exact rg1 [x1,y1,iv (y1+y1)] hi (-(x1*x1+x1*x1+x1*x1))⟩
  rw [cond_true,<- this]
  rfl
 | false =>
  have hx:x1 ≠ x2:=by
   intro hx
   subst hx
   have hs:(y1 - y2)*(y1+y2)=0:=rg2 [x1,y1,y2,b] h1 1 h2 (-1)
   rcases F.zero_or hs with h | h
   . have:y1=y2:=rg1 [y1,y2] h 1
     subst this
     rw [(eqA_iff F).2 rfl] at hb
     cases hb
   . exact hn ⟨rfl,rg1 [y1,y2] h 1⟩
  have hz:x2 - x1 ≠ 0:=fun h=>hx (rg1 [x1,x2] h (-1))
  have hi:=F.inv hz
  have:l=slope2K iv (pt x1 y1) (pt x2 y2):=by
   apply F.cancel hz
   have:=h.a
   simp only [slope2K,pt]
   exact rg2 [x1,y1,x2,y2,l,iv (x2 - x1)] this 1 hi (-(y2 - y1))
  rw [cond_false,<- this]
  rfl
theorem sum_opp (F:Fd K iv e) {x y:K}:sumA iv e (pt x y) (pt x (-y))=⟨0,0,true⟩:=by
 have:eqA e (pt x y) (negK (pt x (-y)))=true:=by
  rw [eqA_iff F]
  unfold negK pt
  congr 1
  exact rg [y]
 unfold sumA
 rw [this]
 rfl
inductive Pt (b:K):Ap K->Prop
 | zero:Pt b ⟨0,0,true⟩
 | of {x y:K}:On b x y->Pt b (pt x y)
theorem sum_zero_l {a:Ap K}:sumA iv e ⟨0,0,true⟩ a=a:=rfl
theorem sum_zero_r (a:Ap K) (ha:a.zero=true->a=⟨0,0,true⟩):sumA iv e a ⟨0,0,true⟩=a:=by
 unfold sumA
 cases hz:a.zero with
 | true=>rw [cond_true];exact (ha hz).symm
 | false=>rfl
theorem Pt.z {b:K} {a:Ap K} (h:Pt b a):a.zero=true->a=⟨0,0,true⟩:=by
 cases h with
 | zero=>intro _;rfl
 | of=>intro h;cases h
theorem Pt.add0 {b:K} {a:Ap K} (h:Pt b a):sumA iv e a ⟨0,0,true⟩=a:=sum_zero_r a h.z
theorem on_sum {b x1 y1 x2 y2 l:K} (h1:On b x1 y1) (h:Sl x1 y1 x2 y2 l):On b (l*l - x1 - x2) (l*(x1 - (l*l - x1 - x2)) - y1):=by
 have ha:=h.a
 have hb:=h.b
 unfold On at *
 exact rg3 [x1,y1,x2,y2,l,b] h1 1 ha (l*(l*l - x1 - x2 - x1)) hb (-(l*l - x1 - x2 - x1))
theorem neg_pt {b:K} {a:Ap K} (h:Pt b a):Pt b (negK a):=by
 cases h with
 | zero =>
  have:negK (⟨0,0,true⟩:Ap K)=⟨0,0,true⟩:=by unfold negK;congr 1;exact rg_neg_zero
  rw [this];exact .zero
 | of h =>
  rename_i x y
  exact .of (x:=x) (y:=-y) (by unfold On at *;exact rg1 [x,y,b] h 1)
theorem sum_pt (F:Fd K iv e) {b:K} {p q:Ap K} (hp:Pt b p) (hq:Pt b q):Pt b (sumA iv e p q):=by
 cases hp with
 | zero=>exact hq
 | of h1 =>
  cases hq with
  | zero=>rw [sum_zero_r _ (fun h=>by cases h)];exact .of h1
  | of h2 =>
   rename_i x1 y1 x2 y2
   by_cases hn:x1=x2 /\ y1=-y2
   . obtain ⟨rfl,rfl⟩:=hn
     have:=sum_opp F (x:=x1) (y:=-y2)
     rw [show - -y2=y2 from rg_neg_neg y2] at this
     rw [this];exact .zero
   . obtain ⟨l,hl⟩:=slope_ex F h1 h2 hn
     rw [sum_by F h1 h2 hn hl]
     exact .of (on_sum h1 hl)
theorem sum_comm (F:Fd K iv e) {b:K} {p q:Ap K} (hp:Pt b p) (hq:Pt b q):sumA iv e p q=sumA iv e q p:=by
 cases hp with
 | zero=>rw [hq.add0];rfl
 | of h1 =>
  cases hq with
  | zero=>rw [sum_zero_r _ (fun h=>by cases h)];rfl
  | of h2 =>
   rename_i x1 y1 x2 y2
   by_cases hn:x1=x2 /\ y1=-y2
   . obtain ⟨rfl,rfl⟩:=hn
     have e1:=sum_opp F (x:=x1) (y:=-y2)
     rw [show - -y2=y2 from rg_neg_neg y2] at e1
     rw [e1,sum_opp F]
   . obtain ⟨l,hl⟩:=slope_ex F h1 h2 hn
     have hl':Sl x2 y2 x1 y1 l:=⟨by have:=hl.a;exact rg1 [x1,y1,x2,y2,l] this (-1),by have:=hl.b;exact rg1 [x1,y1,x2,y2,l] this 1⟩
     rw [sum_by F h1 h2 hn hl,sum_by F h2 h1 (fun h=>hn ⟨h.1.symm,rg1 [y1,y2] h.2 1⟩) hl']
     have ha:=hl.a
     unfold pt
     congr 1
     . exact rg [x1,x2,l]
     . exact rg1 [x1,y1,x2,y2,l] ha (-1)
structure Cv (F:Fd K iv e) (b:K):Prop where
 y:∀ {x y:K},On b x y->y ≠ 0
theorem neg_neg_pt (a:Ap K):negK (negK a)=a:=by
 obtain ⟨x,y,z⟩:=a
 unfold negK
 congr 1
 exact rg_neg_neg y
theorem neg_zero_pt:negK (⟨0,0,true⟩:Ap K)=⟨0,0,true⟩:=by unfold negK;congr 1;exact rg_neg_zero
theorem neg_of (x y:K):negK (pt x y)=pt x (-y):=rfl
theorem sum_neg (F:Fd K iv e) {b:K} {p:Ap K} (hp:Pt b p):sumA iv e p (negK p)=⟨0,0,true⟩:=by
 cases hp with
 | zero=>rw [neg_zero_pt];rfl
 | of h=>rw [neg_of,sum_opp F]
theorem neg_sum (F:Fd K iv e) {b:K} {p q:Ap K} (hp:Pt b p) (hq:Pt b q):negK (sumA iv e p q)=sumA iv e (negK p) (negK q):=by
 cases hp with
 | zero=>rw [neg_zero_pt];rfl
 | of h1 =>
  cases hq with
  | zero=>rw [neg_zero_pt,sum_zero_r _ (fun h=>by cases h),sum_zero_r _ (fun h=>by cases h)]
  | of h2 =>
   rename_i x1 y1 x2 y2
   rw [neg_of,neg_of]
   by_cases hn:x1=x2 /\ y1=-y2
   . obtain ⟨rfl,rfl⟩:=hn
     have e1:=sum_opp F (x:=x1) (y:=-y2)
     rw [show - -y2=y2 from rg_neg_neg y2] at e1 ⊢
     rw [e1,neg_zero_pt,sum_opp F]
   . obtain ⟨l,hl⟩:=slope_ex F h1 h2 hn
     have hl':Sl x1 (-y1) x2 (-y2) (-l):=⟨by have:=hl.a;exact rg1 [x1,y1,x2,y2,l] this (-1),by have:=hl.b;exact rg1 [x1,y1,x2,y2,l] this 1⟩
     have g1:=h1.neg
     have g2:=h2.neg
     rw [sum_by F h1 h2 hn hl,sum_by F g1 g2 (fun h=>hn ⟨h.1,rg1 [y1,y2] h.2 (-1)⟩) hl',neg_of]
     congr 1
     . exact rg [x1,x2,l]
     . exact rg [x1,y1,x2,l]
theorem sum_cancel (F:Fd K iv e) {b:K} (C:Cv F b) {p q:Ap K} (hp:Pt b p) (hq:Pt b q):sumA iv e (sumA iv e p q) (negK q)=p:=by
 cases hp with
 | zero=>rw [sum_zero_l,sum_neg F hq]
 | of h1 =>
  cases hq with
  | zero=>rw [neg_zero_pt,sum_zero_r _ (fun h=>by cases h),sum_zero_r _ (fun h=>by cases h)]
  | of h2 =>
   rename_i x1 y1 x2 y2
   rw [neg_of]
   by_cases hn:x1=x2 /\ y1=-y2
   . obtain ⟨rfl,rfl⟩:=hn
     have e1:=sum_opp F (x:=x1) (y:=-y2)
     rw [show - -y2=y2 from rg_neg_neg y2] at e1
     rw [e1,sum_zero_l]
   . obtain ⟨l,hl⟩:=slope_ex F h1 h2 hn
     have h4:=on_sum h1 hl
     have g2:=h2.neg
     rw [sum_by F h1 h2 hn hl]
     have ha:=hl.a
     have hb:=hl.b
     have hs:Sl (l*l - x1 - x2) (l*(x1 - (l*l - x1 - x2)) - y1) x2 (-y2) (-l):=⟨rg1 [x1,y1,x2,y2,l] ha (-1),rg1 [x1,y1,x2,y2,l] hb 1⟩
     have hm:¬ (l*l - x1 - x2=x2 /\ l*(x1 - (l*l - x1 - x2)) - y1=- -y2):=by
      rintro ⟨k1,k2⟩
      have hy:=C.y h2
      have:y2+y2=0:=rg3 [x1,y1,x2,y2,l] k1 (-l) k2 (-1) ha (-1)
      exact hy (F.two this)
     rw [sum_by F h4 g2 hm hs]
     unfold pt
     congr 1
     . exact rg [x1,x2,l]
     . exact rg [x1,y1,x2,l]
theorem br_a {x1 x2 x3 y2 l m:K} (h1:x1*x1+x1*x2+x2*x2=l*(y2+l*(x1 - x2)+y2)) (h2:x2*x2+x2*x3+x3*x3=m*(y2+(y2+m*(x3 - x2)))) {x4 x5 y4 s:K}
 (e4:x4=l*l - x1 - x2) (e5:x5=m*m - x2 - x3) (f4:y4=l*(x2 - x4) - y2) (es:s=x1+x5 - x3 - x4) :
 (l - m+(l - m))*(y4 - (y2+m*(x3 - x2)))=(s - (l - m)*(l - m))*(x4 - x3):=by
 subst e4 e5 f4 es
 exact rg2 [x1,x2,x3,y2,l,m] h1 (1+1) h2 (-(1+1))
theorem br_b {x1 x2 x3 y2 l m:K} (h1:x1*x1+x1*x2+x2*x2=l*(y2+l*(x1 - x2)+y2)) (h2:x2*x2+x2*x3+x3*x3=m*(y2+(y2+m*(x3 - x2)))) {x4 x5 y4 s:K}
 (e4:x4=l*l - x1 - x2) (e5:x5=m*m - x2 - x3) (f4:y4=l*(x2 - x4) - y2) (es:s=x1+x5 - x3 - x4) :
 (l - m+(l - m))*(x4*x4+x4*x3+x3*x3)=(s - (l - m)*(l - m))*(y4+(y2+m*(x3 - x2))):=by
 subst e4 e5 f4 es
 exact rg2 [x1,x2,x3,y2,l,m] h1 (-(m+m)) h2 (l+l)
theorem div_by {D i u N v:K} (hi:D*i=1) (A:D*u=N*v):u=N*i*v:=rg2 [D,u,N,v,i] A i hi (-u)
theorem mv_a {y1 y2 l x1 x2:K} (h:y1 - y2=l*(x1 - x2)):y1=y2+l*(x1 - x2):=rg1 [x1,x2,y1,y2,l] h 1
theorem mv_b {y2 y3 m x2 x3:K} (h:y2 - y3=m*(x2 - x3)):y3=y2+m*(x3 - x2):=rg1 [x2,x3,y2,y3,m] h (-1)
theorem mv_c {y1 y2 y4 l x1 x2 x4:K} (h:y4=l*(x1 - x4) - y1) (f:y1=y2+l*(x1 - x2)):y4=l*(x2 - x4) - y2:=rg2 [x1,x2,x4,y1,y2,y4,l] h 1 f (-1)
theorem mv_e {a b c d:K} (h:a=b - c - d):a=b - d - c:=rg1 [a,b,c,d] h 1
theorem mv_f {r n l m:K} (h:n+l=r+m):r=n+l - m:=rg1 [r,n,l,m] h (-1)
theorem mv_g {x2 x3 m y2:K} (h:x2*x2+x2*x3+x3*x3=m*(y2+(y2+m*(x3 - x2)))):x3*x3+x3*x2+x2*x2=m*(y2+m*(x3 - x2)+y2):=rg1 [x2,x3,m,y2] h 1
theorem mv_h {x1 x2 l y2:K} (h:x1*x1+x1*x2+x2*x2=l*(y2+l*(x1 - x2)+y2)):x2*x2+x2*x1+x1*x1=l*(y2+(y2+l*(x1 - x2))):=rg1 [x1,x2,l,y2] h 1
theorem mv_i {l m y1 y5 x1 x3 x4 x5:K} (h:(m - l+(m - l))*(y5 - y1)=(x3+x4 - x1 - x5 - (m - l)*(m - l))*(x5 - x1)):(l - m+(l - m))*(y1 - y5)=(x1+x5 - x3 - x4+(l - m)*(l - m))*(x1 - x5):=rg1 [l,m,y1,y5,x1,x3,x4,x5] h 1
theorem mv_j {l m y1 y5 x1 x3 x4 x5:K} (h:(m - l+(m - l))*(x5*x5+x5*x1+x1*x1)=(x3+x4 - x1 - x5 - (m - l)*(m - l))*(y5+y1)):(l - m+(l - m))*(x1*x1+x1*x5+x5*x5)=(x1+x5 - x3 - x4+(l - m)*(l - m))*(y1+y5):=rg1 [l,m,y1,y5,x1,x3,x4,x5] h (-1)
theorem br_y {x1 x2 x3 x4 y1 y2 y3 y4 n r l m X:K} (hX:X=n*n - x4 - x3) (e4:x4=l*l - x1 - x2) (g:y4=y3+n*(x4 - x3)) (e:r=n+l - m)
 (f1:y1=y2+l*(x1 - x2)) (f3:y3=y2+m*(x3 - x2)) (k:(l - m)*(n+l)=x1 - x3):n*(x4 - X) - y4=r*(x1 - X) - y1:=by
 subst e g f1 f3 hX e4
 exact rg1 [x1,x2,x3,y2,n,l,m] k (n - l)
theorem br_n {s d n D i:K} (hi:D*i=1) (en:n=(s - d)*i):D*n=s - d:=rg2 [s,d,n,D,i] en D hi (s - d)
theorem br_r {s d n D i:K} (hi:D*i=1) (en:n=(s+d)*i):D*n=s+d:=rg2 [s,d,n,D,i] en D hi (s+d)
theorem br_s {s x1 x2 x3 x4 x5 l m:K} (es:s=x1+x5 - x3 - x4) (e4:x4=l*l - x1 - x2) (e5:x5=m*m - x2 - x3):s=x1 - x3+(x1 - x3)+m*m - l*l:=rg3 [s,x1,x2,x3,x4,x5,l,m] es 1 e4 (-1) e5 1
theorem br_k {s n l m x1 x3 D:K} (q0:D*n=s - (l - m)*(l - m)) (q1:s=x1 - x3+(x1 - x3)+m*m - l*l) (eD:D=l - m+(l - m)) :
 ((l - m)*(n+l) - (x1 - x3))+((l - m)*(n+l) - (x1 - x3))=0:=rg3 [s,n,l,m,x1,x3,D] q0 1 q1 1 eD (-n)
theorem br_d {s n r l m D:K} (q0:D*n=s - (l - m)*(l - m)) (q1:D*r=s+(l - m)*(l - m)) (eD:D=l - m+(l - m)):(n+l)*D=(r+m)*D:=rg3 [s,n,r,l,m,D] q0 1 q1 (-1) eD (l - m)
theorem br_e {s n r l m D:K} (q0:D*n=s - (l - m)*(l - m)) (q1:D*r=s+(l - m)*(l - m)) (eD:D=l - m+(l - m)):((n+r)*(l - m) - s)+((n+r)*(l - m) - s)=0:=rg3 [s,n,r,l,m,D] q0 1 q1 1 eD (-(n+r))
theorem br_x {s n r l m x1 x3 x4 x5:K} (h:n+l=r+m) (k:(n+r)*(l - m)=s) (es:s=x1+x5 - x3 - x4):n*n - x4 - x3=r*r - x1 - x5:=rg3 [s,n,r,l,m,x1,x3,x4,x5] h (n+r) k (-1) es (-1)
theorem sub_zero_eq {x y:K} (h:x - y=0):x=y:=rg_sub_eq h
theorem assoc_gen (F:Fd K iv e) {b x1 y1 x2 y2 x3 y3 l m x4 y4 x5 y5:K} (g1:On b x1 y1) (g3:On b x3 y3) (g4:On b x4 y4) (g5:On b x5 y5) (hl:Sl x1 y1 x2 y2 l) (hm:Sl x2 y2 x3 y3 m) (hd:l - m ≠ 0)
 (e4:x4=l*l - x1 - x2) (f4:y4=l*(x1 - x4) - y1) (e5:x5=m*m - x2 - x3) (f5:y5=m*(x2 - x5) - y2) (n4:¬ (x4=x3 /\ y4=-y3)) (n5:¬ (x1=x5 /\ y1=-y5)) :
 sumA iv e (pt x4 y4) (pt x3 y3)=sumA iv e (pt x1 y1) (pt x5 y5):=by
 obtain ⟨la,lb⟩:=hl
 obtain ⟨ma,mb⟩:=hm
 have f1:=mv_a la
 have f3:=mv_b ma
 have f4':=mv_c f4 f1
 have h1:x1*x1+x1*x2+x2*x2=l*(y2+l*(x1 - x2)+y2):=by rw [lb,<- f1]
 have h2:x2*x2+x2*x3+x3*x3=m*(y2+(y2+m*(x3 - x2))):=by rw [mb,<- f3]
 have hD:l - m+(l - m) ≠ 0:=fun h=>hd (F.two h)
 have hi:=F.inv hD
 have A:=br_a h1 h2 e4 e5 f4' (s:=x1+x5 - x3 - x4) rfl
 have B:=br_b h1 h2 e4 e5 f4' (s:=x1+x5 - x3 - x4) rfl
 have A':=br_a (mv_g h2) (mv_h h1) (mv_e e5) (mv_e e4) f5 (s:=x3+x4 - x1 - x5) rfl
 have B':=br_b (mv_g h2) (mv_h h1) (mv_e e5) (mv_e e4) f5 (s:=x3+x4 - x1 - x5) rfl
 rw [<- f3] at A B
 rw [<- f1] at A' B'
 have A2:=mv_i A'
 have B2:=mv_j B'
 obtain ⟨D,eD⟩:∃ D,D=l - m+(l - m):=⟨_,rfl⟩
 obtain ⟨i,ei⟩:∃ i,i=iv D:=⟨_,rfl⟩
 obtain ⟨s,es⟩:∃ s,s=x1+x5 - x3 - x4:=⟨_,rfl⟩
 rw [<- eD,<- ei] at hi
 rw [<- eD,<- es] at A B A2 B2
 have sn:Sl x4 y4 x3 y3 ((s - (l - m)*(l - m))*i):=⟨div_by hi A,div_by hi B⟩
 have sr:Sl x1 y1 x5 y5 ((s+(l - m)*(l - m))*i):=⟨div_by hi A2,div_by hi B2⟩
 rw [sum_by F g4 g3 n4 sn,sum_by F g1 g5 n5 sr]
 obtain ⟨n,en⟩:∃ n,n=(s - (l - m)*(l - m))*i:=⟨_,rfl⟩
 obtain ⟨r,er⟩:∃ r,r=(s+(l - m)*(l - m))*i:=⟨_,rfl⟩
 rw [<- en] at sn ⊢
 rw [<- er] at sr ⊢
 have q0:=br_n hi en
 have q1:=br_r hi er
 rw [<- eD] at hD
 have hnr:=F.cancel hD (br_d q0 q1 eD)
 have hX:=br_x hnr (sub_zero_eq (F.two (br_e q0 q1 eD))) es
 have k:=sub_zero_eq (F.two (br_k q0 (br_s es e4 e5) eD))
 have hY:=br_y (X:=n*n - x4 - x3) rfl e4 (mv_a sn.a) (mv_f hnr) f1 f3 k
 rw [<- hX]
 unfold pt
 congr 1
theorem col_a {x1 x2 x3 x4 y2 l:K} (h1:x1*x1+x1*x2+x2*x2=l*(y2+l*(x1 - x2)+y2)) (h2:x2*x2+x2*x3+x3*x3=l*(y2+(y2+l*(x3 - x2)))) (e4:x4=l*l - x1 - x2):(x3 - x1)*(x3 - x4)=0:=by
 subst e4
 exact rg2 [x1,x2,x3,y2,l] h1 (-1) h2 1
theorem col_b {x3 x4 y2 y3 y4 l x2:K} (f4:y4=l*(x2 - x4) - y2) (f3:y3=y2+l*(x3 - x2)) (h:x3 - x4=0):y4=-y3:=rg3 [x2,x3,x4,y2,y3,y4,l] f4 1 f3 1 h l
theorem col_c {x1 x2 x3 y1 y2 y3 l:K} (f1:y1=y2+l*(x1 - x2)) (f3:y3=y2+l*(x3 - x2)) (h:x3 - x1=0):y3=y1:=rg3 [x1,x2,x3,y1,y2,y3,l] f1 (-1) f3 1 h l
theorem sum_assoc (F:Fd K iv e) {b:K} (C:Cv F b) {p q r:Ap K} (hp:Pt b p) (hq:Pt b q) (hr:Pt b r):sumA iv e (sumA iv e p q) r=sumA iv e p (sumA iv e q r):=by
 have back:∀ {p r:Ap K},Pt b p->Pt b r->sumA iv e p (sumA iv e (negK p) r)=r:=fun {p r} hp hr=>by
  rw [sum_comm F (neg_pt hp) hr,sum_comm F hp (sum_pt F hr (neg_pt hp))]
  have:=sum_cancel F C hr (neg_pt hp)
  rw [neg_neg_pt] at this
  exact this
 by_cases pq:q=negK p
 . subst pq
   rw [sum_neg F hp,sum_zero_l,back hp hr]
 by_cases qr:r=negK q
 . subst qr
   rw [sum_neg F hq,hp.add0,sum_cancel F C hp hq]
 by_cases pqr:r=negK (sumA iv e p q)
 . have hpq:=sum_pt F hp hq
   subst pqr
   rw [sum_neg F hpq]
   have h1:=sum_cancel F C hp hq
   have h2:=neg_sum F hpq (neg_pt hq)
   rw [h1,neg_neg_pt] at h2
   rw [sum_comm F hq (neg_pt hpq),<- h2,sum_neg F hp]
 by_cases qrp:sumA iv e q r=negK p
 . rw [qrp,sum_neg F hp]
   exfalso
   apply pqr
   rw [neg_sum F hp hq,<- qrp,sum_comm F hq hr,sum_cancel F C hr hq]
 cases hp with
 | zero=>rw [sum_zero_l,sum_zero_l]
 | of g1 =>
  cases hq with
  | zero=>rw [sum_zero_r _ (fun h=>by cases h),sum_zero_l]
  | of g2 =>
   cases hr with
   | zero=>rw [(sum_pt F (.of g1) (.of g2)).add0,sum_zero_r _ (fun h=>by cases h)]
   | of g3 =>
    rename_i x1 y1 x2 y2 x3 y3
    have n1:¬ (x1=x2 /\ y1=-y2):=fun h=>pq (by
     rw [neg_of];unfold pt;rw [h.1,h.2];congr 1;exact (rg_neg_neg _).symm)
    have n2:¬ (x2=x3 /\ y2=-y3):=fun h=>qr (by
     rw [neg_of];unfold pt;rw [h.1,h.2];congr 1;exact (rg_neg_neg _).symm)
    obtain ⟨l,hl⟩:=slope_ex F g1 g2 n1
    obtain ⟨m,hm⟩:=slope_ex F g2 g3 n2
    have s1:=sum_by F g1 g2 n1 hl
    have s2:=sum_by F g2 g3 n2 hm
    have g4:=on_sum g1 hl
    have g5:=on_sum g2 hm
    rw [s1] at pqr ⊢
    rw [s2] at qrp ⊢
    obtain ⟨x4,e4⟩:∃ x4,x4=l*l - x1 - x2:=⟨_,rfl⟩
    rw [<- e4] at g4 pqr ⊢
    obtain ⟨y4,f4⟩:∃ y4,y4=l*(x1 - x4) - y1:=⟨_,rfl⟩
    rw [<- f4] at g4 pqr ⊢
    obtain ⟨x5,e5⟩:∃ x5,x5=m*m - x2 - x3:=⟨_,rfl⟩
    rw [<- e5] at g5 qrp ⊢
    obtain ⟨y5,f5⟩:∃ y5,y5=m*(x2 - x5) - y2:=⟨_,rfl⟩
    rw [<- f5] at g5 qrp ⊢
    have n4:¬ (x4=x3 /\ y4=-y3):=fun h=>pqr (by
     rw [neg_of];unfold pt;rw [h.1,h.2];congr 1;exact (rg_neg_neg _).symm)
    have n5:¬ (x1=x5 /\ y1=-y5):=fun h=>qrp (by
     rw [neg_of];unfold pt;rw [h.1,h.2];congr 1;exact (rg_neg_neg _).symm)
    by_cases hd:l - m=0
    . have:l=m:=sub_zero_eq hd
      subst this
      have f1:=mv_a hl.a
      have f3:=mv_b hm.a
      have f4':=mv_c f4 f1
      have h1:x1*x1+x1*x2+x2*x2=l*(y2+l*(x1 - x2)+y2):=by rw [hl.b,<- f1]
      have h2:x2*x2+x2*x3+x3*x3=l*(y2+(y2+l*(x3 - x2))):=by rw [hm.b,<- f3]
      rcases F.zero_or (col_a h1 h2 e4) with h | h
      . have hy:=col_c f1 f3 h
        have hx:=sub_zero_eq h
        subst hx hy
        have:x5=x4:=by rw [e4,e5];exact mv_e rfl
        subst this
        have:y5=y4:=by rw [f4',f5]
        subst this
        exact sum_comm F (.of g4) (.of g3)
      . exact absurd ⟨(sub_zero_eq h).symm,col_b f4' f3 h⟩ n4
    . exact assoc_gen F g1 g3 g4 g5 hl hm hd e4 f4 e5 f5 n4 n5
end
end Go.Rq

namespace Go.Rq.Cw
set_option synthInstance.maxSize 100000
set_option synthInstance.maxHeartbeats 400000
section
variable {K:Type} [Rg K] {iv:K->K} {e:K->K->Bool}
def slope1W (iv:K->K) (a:Ap K):K:=(a.x*a.x+a.x*a.x+a.x*a.x+1)*iv (a.y+a.y)
def sumW (iv:K->K) (e:K->K->Bool) (a b:Ap K):Ap K:=bif a.zero then b else bif b.zero then a else bif eqA e a (negK b) then ⟨0,0,true⟩ else bif eqA e a b then chordK a b (slope1W iv a) else chordK a b (slope2K iv a b)
structure Sl (x1 y1 x2 y2 l:K):Prop where
 a:y1 - y2=l*(x1 - x2)
 b:x1*x1+x1*x2+x2*x2+1=l*(y1+y2)
def On (x y:K):Prop:=y*y=x*x*x+x
theorem On.neg {x y:K} (h:On x y):On x (-y):=by unfold On at *;exact rg1 [x,y] h 1
theorem slope_ex (F:Fd K iv e) {x1 y1 x2 y2:K} (h1:On x1 y1) (h2:On x2 y2) (hn:¬ (x1=x2 /\ y1=-y2)):∃ l,Sl x1 y1 x2 y2 l:=by
 unfold On at h1 h2
 by_cases hx:x1=x2
 . subst hx
   have hy:y1=y2:=by
    have hs:(y1 - y2)*(y1+y2)=0:=rg2 [x1,y1,y2] h1 1 h2 (-1)
    rcases F.zero_or hs with h | h
    . exact rg1 [y1,y2] h 1
    . exact absurd ⟨rfl,rg1 [y1,y2] h 1⟩ hn
   subst hy
   have hz:y1+y1 ≠ 0:=fun h=>hn ⟨rfl,rg1 [y1] h 1⟩
   have hi:=F.inv hz
   exact ⟨(x1*x1+x1*x1+x1*x1+1)*iv (y1+y1),rg [x1,y1,iv (y1+y1)],rg1 [x1,y1,iv (y1+y1)] hi (-(x1*x1+x1*x1+x1*x1+1))⟩
 . have hz:x1 - x2 ≠ 0:=fun h=>hx (rg1 [x1,x2] h 1)
   have hi:=F.inv hz
   refine ⟨(y1 - y2)*iv (x1 - x2),rg1 [x1,y1,x2,y2,iv (x1 - x2)] hi (-(y1 - y2)),?_⟩
   apply F.cancel hz
   exact rg3 [x1,y1,x2,y2,iv (x1 - x2)] h1 (-1) h2 1 hi (-((y1 - y2)*(y1+y2)))
theorem slope_one (F:Fd K iv e) {x1 y1 x2 y2 l m:K} (hn:¬ (x1=x2 /\ y1=-y2)) (h:Sl x1 y1 x2 y2 l) (k:Sl x1 y1 x2 y2 m):l=m:=by
 by_cases hx:x1=x2
 . have hy:y1+y2 ≠ 0:=fun h=>hn ⟨hx,rg1 [y1,y2] h 1⟩
   apply F.cancel hy
   rw [<- h.b,<- k.b]
 . have hz:x1 - x2 ≠ 0:=fun h=>hx (rg1 [x1,x2] h 1)
   apply F.cancel hz
   rw [<- h.a,<- k.a]
def pt (x y:K):Ap K:=⟨x,y,false⟩
theorem eqA_iff (F:Fd K iv e) {a b:Ap K}:eqA e a b=true ↔ a=b:=by
 obtain ⟨x,y,z⟩:=a
 obtain ⟨u,v,w⟩:=b
 simp [eqA,F.eq]
theorem sum_by (F:Fd K iv e) {x1 y1 x2 y2 l:K} (h1:On x1 y1) (h2:On x2 y2) (hn:¬ (x1=x2 /\ y1=-y2)) (h:Sl x1 y1 x2 y2 l) :
 sumW iv e (pt x1 y1) (pt x2 y2)=pt (l*l - x1 - x2) (l*(x1 - (l*l - x1 - x2)) - y1):=by
 have n1:eqA e (pt x1 y1) (negK (pt x2 y2))=false:=by
  cases hb:eqA e (pt x1 y1) (negK (pt x2 y2)) with
  | false=>rfl
  | true =>
   have:=(eqA_iff F).1 hb
   unfold pt negK at this
   have:=Ap.mk.inj this
   exact absurd ⟨this.1,this.2.1⟩ hn
 unfold sumW
 rw [n1]
 show (bif eqA e (pt x1 y1) (pt x2 y2) then chordK (pt x1 y1) (pt x2 y2) (slope1W iv (pt x1 y1)) else chordK (pt x1 y1) (pt x2 y2) (slope2K iv (pt x1 y1) (pt x2 y2)))=_
 unfold On at h1 h2
 cases hb:eqA e (pt x1 y1) (pt x2 y2) with
 | true =>
  have:=Ap.mk.inj ((eqA_iff F).1 hb)
  obtain ⟨rfl,rfl,-⟩:=this
  have hz:y1+y1 ≠ 0:=fun h=>hn ⟨rfl,rg1 [y1] h 1⟩
  have hi:=F.inv hz
  have:l=slope1W iv (pt x1 y1):=slope_one F hn h ⟨by simp only [slope1W,pt];exact rg [x1,y1,iv (y1+y1)],by simp only [slope1W,pt];exact rg1 [x1,y1,iv (y1+y1)] hi (-(x1*x1+x1*x1+x1*x1+1))⟩
  rw [cond_true,<- this]
  rfl
 | false =>
  have hx:x1 ≠ x2:=by
   intro hx
   subst hx
   have hs:(y1 - y2)*(y1+y2)=0:=rg2 [x1,y1,y2] h1 1 h2 (-1)
   rcases F.zero_or hs with h | h
   . have:y1=y2:=rg1 [y1,y2] h 1
     subst this
     rw [(eqA_iff F).2 rfl] at hb
     cases hb
   . exact hn ⟨rfl,rg1 [y1,y2] h 1⟩
  have hz:x2 - x1 ≠ 0:=fun h=>hx (rg1 [x1,x2] h (-1))
  have hi:=F.inv hz
  have:l=slope2K iv (pt x1 y1) (pt x2 y2):=by
   apply F.cancel hz
   have:=h.a
   simp only [slope2K,pt]
   exact rg2 [x1,y1,x2,y2,l,iv (x2 - x1)] this 1 hi (-(y2 - y1))
  rw [cond_false,<- this]
  rfl
theorem sum_opp (F:Fd K iv e) {x y:K}:sumW iv e (pt x y) (pt x (-y))=⟨0,0,true⟩:=by
 have:eqA e (pt x y) (negK (pt x (-y)))=true:=by
  rw [eqA_iff F]
  unfold negK pt
  congr 1
  exact rg [y]
 unfold sumW
 rw [this]
 rfl
inductive Pt:Ap K->Prop
 | zero:Pt ⟨0,0,true⟩
 | of {x y:K}:On x y->Pt (pt x y)
theorem sum_zero_l {a:Ap K}:sumW iv e ⟨0,0,true⟩ a=a:=rfl
theorem sum_zero_r (a:Ap K) (ha:a.zero=true->a=⟨0,0,true⟩):sumW iv e a ⟨0,0,true⟩=a:=by
 unfold sumW
 cases hz:a.zero with
 | true=>rw [cond_true];exact (ha hz).symm
 | false=>rfl
theorem Pt.z {a:Ap K} (h:Pt a):a.zero=true->a=⟨0,0,true⟩:=by
 cases h with
 | zero=>intro _;rfl
 | of=>intro h;cases h
theorem Pt.add0 {a:Ap K} (h:Pt a):sumW iv e a ⟨0,0,true⟩=a:=sum_zero_r a h.z
theorem on_sum {x1 y1 x2 y2 l:K} (h1:On x1 y1) (h:Sl x1 y1 x2 y2 l):On (l*l - x1 - x2) (l*(x1 - (l*l - x1 - x2)) - y1):=by
 have ha:=h.a
 have hb:=h.b
 unfold On at *
 exact rg3 [x1,y1,x2,y2,l] h1 1 ha (l*(l*l - x1 - x2 - x1)) hb (-(l*l - x1 - x2 - x1))
theorem neg_pt {a:Ap K} (h:Pt a):Pt (negK a):=by
 cases h with
 | zero =>
  have:negK (⟨0,0,true⟩:Ap K)=⟨0,0,true⟩:=by unfold negK;congr 1;exact rg_neg_zero
  rw [this];exact .zero
 | of h =>
  rename_i x y
  exact .of (x:=x) (y:=-y) (by unfold On at *;exact rg1 [x,y] h 1)
theorem sum_pt (F:Fd K iv e) {p q:Ap K} (hp:Pt p) (hq:Pt q):Pt (sumW iv e p q):=by
 cases hp with
 | zero=>exact hq
 | of h1 =>
  cases hq with
  | zero=>rw [sum_zero_r _ (fun h=>by cases h)];exact .of h1
  | of h2 =>
   rename_i x1 y1 x2 y2
   by_cases hn:x1=x2 /\ y1=-y2
   . obtain ⟨rfl,rfl⟩:=hn
     have:=sum_opp F (x:=x1) (y:=-y2)
     rw [show - -y2=y2 from rg_neg_neg y2] at this
     rw [this];exact .zero
   . obtain ⟨l,hl⟩:=slope_ex F h1 h2 hn
     rw [sum_by F h1 h2 hn hl]
     exact .of (on_sum h1 hl)
theorem sum_comm (F:Fd K iv e) {p q:Ap K} (hp:Pt p) (hq:Pt q):sumW iv e p q=sumW iv e q p:=by
 cases hp with
 | zero=>rw [hq.add0];rfl
 | of h1 =>
  cases hq with
  | zero=>rw [sum_zero_r _ (fun h=>by cases h)];rfl
  | of h2 =>
   rename_i x1 y1 x2 y2
   by_cases hn:x1=x2 /\ y1=-y2
   . obtain ⟨rfl,rfl⟩:=hn
     have e1:=sum_opp F (x:=x1) (y:=-y2)
     rw [show - -y2=y2 from rg_neg_neg y2] at e1
     rw [e1,sum_opp F]
   . obtain ⟨l,hl⟩:=slope_ex F h1 h2 hn
     have hl':Sl x2 y2 x1 y1 l:=⟨by have:=hl.a;exact rg1 [x1,y1,x2,y2,l] this (-1),by have:=hl.b;exact rg1 [x1,y1,x2,y2,l] this 1⟩
     rw [sum_by F h1 h2 hn hl,sum_by F h2 h1 (fun h=>hn ⟨h.1.symm,rg1 [y1,y2] h.2 1⟩) hl']
     have ha:=hl.a
     unfold pt
     congr 1
     . exact rg [x1,x2,l]
     . exact rg1 [x1,y1,x2,y2,l] ha (-1)
theorem smooth (F:Fd K iv e) {x:K} (h:On x 0):x*x+x*x+x*x+1 ≠ 0:=by
 intro hz
 unfold On at h
 have hf:x*(x*x+1)=0:=rg1 [x] h (-1)
 rcases F.zero_or hf with h0 | h0
 . subst h0
   exact F.one (rg1 [] hz 1)
 . have h1:(1:K)+1=0:=rg2 [x] h0 (1+1+1) hz (-1)
   exact F.one (F.two h1)
theorem neg_neg_pt (a:Ap K):negK (negK a)=a:=by
 obtain ⟨x,y,z⟩:=a
 unfold negK
 congr 1
 exact rg_neg_neg y
theorem neg_zero_pt:negK (⟨0,0,true⟩:Ap K)=⟨0,0,true⟩:=by unfold negK;congr 1;exact rg_neg_zero
theorem neg_of (x y:K):negK (pt x y)=pt x (-y):=rfl
theorem sum_neg (F:Fd K iv e) {p:Ap K} (hp:Pt p):sumW iv e p (negK p)=⟨0,0,true⟩:=by
 cases hp with
 | zero=>rw [neg_zero_pt];rfl
 | of h=>rw [neg_of,sum_opp F]
theorem neg_sum (F:Fd K iv e) {p q:Ap K} (hp:Pt p) (hq:Pt q):negK (sumW iv e p q)=sumW iv e (negK p) (negK q):=by
 cases hp with
 | zero=>rw [neg_zero_pt];rfl
 | of h1 =>
  cases hq with
  | zero=>rw [neg_zero_pt,sum_zero_r _ (fun h=>by cases h),sum_zero_r _ (fun h=>by cases h)]
  | of h2 =>
   rename_i x1 y1 x2 y2
   rw [neg_of,neg_of]
   by_cases hn:x1=x2 /\ y1=-y2
   . obtain ⟨rfl,rfl⟩:=hn
     have e1:=sum_opp F (x:=x1) (y:=-y2)
     rw [show - -y2=y2 from rg_neg_neg y2] at e1 ⊢
     rw [e1,neg_zero_pt,sum_opp F]
   . obtain ⟨l,hl⟩:=slope_ex F h1 h2 hn
     have hl':Sl x1 (-y1) x2 (-y2) (-l):=⟨by have:=hl.a;exact rg1 [x1,y1,x2,y2,l] this (-1),by have:=hl.b;exact rg1 [x1,y1,x2,y2,l] this 1⟩
     have g1:=h1.neg
     have g2:=h2.neg
     rw [sum_by F h1 h2 hn hl,sum_by F g1 g2 (fun h=>hn ⟨h.1,rg1 [y1,y2] h.2 (-1)⟩) hl',neg_of]
     congr 1
     . exact rg [x1,x2,l]
     . exact rg [x1,y1,x2,l]
theorem sum_cancel (F:Fd K iv e) {p q:Ap K} (hp:Pt p) (hq:Pt q):sumW iv e (sumW iv e p q) (negK q)=p:=by
 cases hp with
 | zero=>rw [sum_zero_l,sum_neg F hq]
 | of h1 =>
  cases hq with
  | zero=>rw [neg_zero_pt,sum_zero_r _ (fun h=>by cases h),sum_zero_r _ (fun h=>by cases h)]
  | of h2 =>
   rename_i x1 y1 x2 y2
   rw [neg_of]
   by_cases hn:x1=x2 /\ y1=-y2
   . obtain ⟨rfl,rfl⟩:=hn
     have e1:=sum_opp F (x:=x1) (y:=-y2)
     rw [show - -y2=y2 from rg_neg_neg y2] at e1
     rw [e1,sum_zero_l]
   . obtain ⟨l,hl⟩:=slope_ex F h1 h2 hn
     have h4:=on_sum h1 hl
     have g2:=h2.neg
     rw [sum_by F h1 h2 hn hl]
     have ha:=hl.a
     have hb:=hl.b
     have hs:Sl (l*l - x1 - x2) (l*(x1 - (l*l - x1 - x2)) - y1) x2 (-y2) (-l):=⟨rg1 [x1,y1,x2,y2,l] ha (-1),rg1 [x1,y1,x2,y2,l] hb 1⟩
     have hm:¬ (l*l - x1 - x2=x2 /\ l*(x1 - (l*l - x1 - x2)) - y1=- -y2):=by
      rintro ⟨k1,k2⟩
      have hy0:y2=0:=F.two (rg3 [x1,y1,x2,y2,l] k1 (-l) k2 (-1) ha (-1))
      subst hy0
      exact smooth F h2 (rg3 [x1,y1,x2,l] hb 1 ha l k1 (x1 - x2))
     rw [sum_by F h4 g2 hm hs]
     unfold pt
     congr 1
     . exact rg [x1,x2,l]
     . exact rg [x1,y1,x2,l]
theorem br_a {x1 x2 x3 y2 l m:K} (h1:x1*x1+x1*x2+x2*x2+1=l*(y2+l*(x1 - x2)+y2)) (h2:x2*x2+x2*x3+x3*x3+1=m*(y2+(y2+m*(x3 - x2)))) {x4 x5 y4 s:K}
 (e4:x4=l*l - x1 - x2) (e5:x5=m*m - x2 - x3) (f4:y4=l*(x2 - x4) - y2) (es:s=x1+x5 - x3 - x4) :
 (l - m+(l - m))*(y4 - (y2+m*(x3 - x2)))=(s - (l - m)*(l - m))*(x4 - x3):=by
 subst e4 e5 f4 es
 exact rg2 [x1,x2,x3,y2,l,m] h1 (1+1) h2 (-(1+1))
theorem br_b {x1 x2 x3 y2 l m:K} (h1:x1*x1+x1*x2+x2*x2+1=l*(y2+l*(x1 - x2)+y2)) (h2:x2*x2+x2*x3+x3*x3+1=m*(y2+(y2+m*(x3 - x2)))) {x4 x5 y4 s:K}
 (e4:x4=l*l - x1 - x2) (e5:x5=m*m - x2 - x3) (f4:y4=l*(x2 - x4) - y2) (es:s=x1+x5 - x3 - x4) :
 (l - m+(l - m))*(x4*x4+x4*x3+x3*x3+1)=(s - (l - m)*(l - m))*(y4+(y2+m*(x3 - x2))):=by
 subst e4 e5 f4 es
 exact rg2 [x1,x2,x3,y2,l,m] h1 (-(m+m)) h2 (l+l)
theorem div_by {D i u N v:K} (hi:D*i=1) (A:D*u=N*v):u=N*i*v:=rg2 [D,u,N,v,i] A i hi (-u)
theorem mv_a {y1 y2 l x1 x2:K} (h:y1 - y2=l*(x1 - x2)):y1=y2+l*(x1 - x2):=rg1 [x1,x2,y1,y2,l] h 1
theorem mv_b {y2 y3 m x2 x3:K} (h:y2 - y3=m*(x2 - x3)):y3=y2+m*(x3 - x2):=rg1 [x2,x3,y2,y3,m] h (-1)
theorem mv_c {y1 y2 y4 l x1 x2 x4:K} (h:y4=l*(x1 - x4) - y1) (f:y1=y2+l*(x1 - x2)):y4=l*(x2 - x4) - y2:=rg2 [x1,x2,x4,y1,y2,y4,l] h 1 f (-1)
theorem mv_e {a b c d:K} (h:a=b - c - d):a=b - d - c:=rg1 [a,b,c,d] h 1
theorem mv_f {r n l m:K} (h:n+l=r+m):r=n+l - m:=rg1 [r,n,l,m] h (-1)
theorem mv_g {x2 x3 m y2:K} (h:x2*x2+x2*x3+x3*x3+1=m*(y2+(y2+m*(x3 - x2)))):x3*x3+x3*x2+x2*x2+1=m*(y2+m*(x3 - x2)+y2):=rg1 [x2,x3,m,y2] h 1
theorem mv_h {x1 x2 l y2:K} (h:x1*x1+x1*x2+x2*x2+1=l*(y2+l*(x1 - x2)+y2)):x2*x2+x2*x1+x1*x1+1=l*(y2+(y2+l*(x1 - x2))):=rg1 [x1,x2,l,y2] h 1
theorem mv_i {l m y1 y5 x1 x3 x4 x5:K} (h:(m - l+(m - l))*(y5 - y1)=(x3+x4 - x1 - x5 - (m - l)*(m - l))*(x5 - x1)):(l - m+(l - m))*(y1 - y5)=(x1+x5 - x3 - x4+(l - m)*(l - m))*(x1 - x5):=rg1 [l,m,y1,y5,x1,x3,x4,x5] h 1
theorem mv_j {l m y1 y5 x1 x3 x4 x5:K} (h:(m - l+(m - l))*(x5*x5+x5*x1+x1*x1+1)=(x3+x4 - x1 - x5 - (m - l)*(m - l))*(y5+y1)):(l - m+(l - m))*(x1*x1+x1*x5+x5*x5+1)=(x1+x5 - x3 - x4+(l - m)*(l - m))*(y1+y5):=rg1 [l,m,y1,y5,x1,x3,x4,x5] h (-1)
theorem br_y {x1 x2 x3 x4 y1 y2 y3 y4 n r l m X:K} (hX:X=n*n - x4 - x3) (e4:x4=l*l - x1 - x2) (g:y4=y3+n*(x4 - x3)) (e:r=n+l - m)
 (f1:y1=y2+l*(x1 - x2)) (f3:y3=y2+m*(x3 - x2)) (k:(l - m)*(n+l)=x1 - x3):n*(x4 - X) - y4=r*(x1 - X) - y1:=by
 subst e g f1 f3 hX e4
 exact rg1 [x1,x2,x3,y2,n,l,m] k (n - l)
theorem br_n {s d n D i:K} (hi:D*i=1) (en:n=(s - d)*i):D*n=s - d:=rg2 [s,d,n,D,i] en D hi (s - d)
theorem br_r {s d n D i:K} (hi:D*i=1) (en:n=(s+d)*i):D*n=s+d:=rg2 [s,d,n,D,i] en D hi (s+d)
theorem br_s {s x1 x2 x3 x4 x5 l m:K} (es:s=x1+x5 - x3 - x4) (e4:x4=l*l - x1 - x2) (e5:x5=m*m - x2 - x3):s=x1 - x3+(x1 - x3)+m*m - l*l:=rg3 [s,x1,x2,x3,x4,x5,l,m] es 1 e4 (-1) e5 1
theorem br_k {s n l m x1 x3 D:K} (q0:D*n=s - (l - m)*(l - m)) (q1:s=x1 - x3+(x1 - x3)+m*m - l*l) (eD:D=l - m+(l - m)) :
 ((l - m)*(n+l) - (x1 - x3))+((l - m)*(n+l) - (x1 - x3))=0:=rg3 [s,n,l,m,x1,x3,D] q0 1 q1 1 eD (-n)
theorem br_d {s n r l m D:K} (q0:D*n=s - (l - m)*(l - m)) (q1:D*r=s+(l - m)*(l - m)) (eD:D=l - m+(l - m)):(n+l)*D=(r+m)*D:=rg3 [s,n,r,l,m,D] q0 1 q1 (-1) eD (l - m)
theorem br_e {s n r l m D:K} (q0:D*n=s - (l - m)*(l - m)) (q1:D*r=s+(l - m)*(l - m)) (eD:D=l - m+(l - m)):((n+r)*(l - m) - s)+((n+r)*(l - m) - s)=0:=rg3 [s,n,r,l,m,D] q0 1 q1 1 eD (-(n+r))
theorem br_x {s n r l m x1 x3 x4 x5:K} (h:n+l=r+m) (k:(n+r)*(l - m)=s) (es:s=x1+x5 - x3 - x4):n*n - x4 - x3=r*r - x1 - x5:=rg3 [s,n,r,l,m,x1,x3,x4,x5] h (n+r) k (-1) es (-1)
theorem sub_zero_eq {x y:K} (h:x - y=0):x=y:=rg_sub_eq h
theorem assoc_gen (F:Fd K iv e) {x1 y1 x2 y2 x3 y3 l m x4 y4 x5 y5:K} (g1:On x1 y1) (g3:On x3 y3) (g4:On x4 y4) (g5:On x5 y5) (hl:Sl x1 y1 x2 y2 l) (hm:Sl x2 y2 x3 y3 m) (hd:l - m ≠ 0)
 (e4:x4=l*l - x1 - x2) (f4:y4=l*(x1 - x4) - y1) (e5:x5=m*m - x2 - x3) (f5:y5=m*(x2 - x5) - y2) (n4:¬ (x4=x3 /\ y4=-y3)) (n5:¬ (x1=x5 /\ y1=-y5)) :
 sumW iv e (pt x4 y4) (pt x3 y3)=sumW iv e (pt x1 y1) (pt x5 y5):=by
 obtain ⟨la,lb⟩:=hl
 obtain ⟨ma,mb⟩:=hm
 have f1:=mv_a la
 have f3:=mv_b ma
 have f4':=mv_c f4 f1
 have h1:x1*x1+x1*x2+x2*x2+1=l*(y2+l*(x1 - x2)+y2):=by rw [lb,<- f1]
 have h2:x2*x2+x2*x3+x3*x3+1=m*(y2+(y2+m*(x3 - x2))):=by rw [mb,<- f3]
 have hD:l - m+(l - m) ≠ 0:=fun h=>hd (F.two h)
 have hi:=F.inv hD
 have A:=br_a h1 h2 e4 e5 f4' (s:=x1+x5 - x3 - x4) rfl
 have B:=br_b h1 h2 e4 e5 f4' (s:=x1+x5 - x3 - x4) rfl
 have A':=br_a (mv_g h2) (mv_h h1) (mv_e e5) (mv_e e4) f5 (s:=x3+x4 - x1 - x5) rfl
 have B':=br_b (mv_g h2) (mv_h h1) (mv_e e5) (mv_e e4) f5 (s:=x3+x4 - x1 - x5) rfl
 rw [<- f3] at A B
 rw [<- f1] at A' B'
 have A2:=mv_i A'
 have B2:=mv_j B'
 obtain ⟨D,eD⟩:∃ D,D=l - m+(l - m):=⟨_,rfl⟩
 obtain ⟨i,ei⟩:∃ i,i=iv D:=⟨_,rfl⟩
 obtain ⟨s,es⟩:∃ s,s=x1+x5 - x3 - x4:=⟨_,rfl⟩
 rw [<- eD,<- ei] at hi
 rw [<- eD,<- es] at A B A2 B2
 have sn:Sl x4 y4 x3 y3 ((s - (l - m)*(l - m))*i):=⟨div_by hi A,div_by hi B⟩
 have sr:Sl x1 y1 x5 y5 ((s+(l - m)*(l - m))*i):=⟨div_by hi A2,div_by hi B2⟩
 rw [sum_by F g4 g3 n4 sn,sum_by F g1 g5 n5 sr]
 obtain ⟨n,en⟩:∃ n,n=(s - (l - m)*(l - m))*i:=⟨_,rfl⟩
 obtain ⟨r,er⟩:∃ r,r=(s+(l - m)*(l - m))*i:=⟨_,rfl⟩
 rw [<- en] at sn ⊢
 rw [<- er] at sr ⊢
 have q0:=br_n hi en
 have q1:=br_r hi er
 rw [<- eD] at hD
 have hnr:=F.cancel hD (br_d q0 q1 eD)
 have hX:=br_x hnr (sub_zero_eq (F.two (br_e q0 q1 eD))) es
 have k:=sub_zero_eq (F.two (br_k q0 (br_s es e4 e5) eD))
 have hY:=br_y (X:=n*n - x4 - x3) rfl e4 (mv_a sn.a) (mv_f hnr) f1 f3 k
 rw [<- hX]
 unfold pt
 congr 1
theorem col_a {x1 x2 x3 x4 y2 l:K} (h1:x1*x1+x1*x2+x2*x2+1=l*(y2+l*(x1 - x2)+y2)) (h2:x2*x2+x2*x3+x3*x3+1=l*(y2+(y2+l*(x3 - x2)))) (e4:x4=l*l - x1 - x2):(x3 - x1)*(x3 - x4)=0:=by
 subst e4
 exact rg2 [x1,x2,x3,y2,l] h1 (-1) h2 1
theorem col_b {x3 x4 y2 y3 y4 l x2:K} (f4:y4=l*(x2 - x4) - y2) (f3:y3=y2+l*(x3 - x2)) (h:x3 - x4=0):y4=-y3:=rg3 [x2,x3,x4,y2,y3,y4,l] f4 1 f3 1 h l
theorem col_c {x1 x2 x3 y1 y2 y3 l:K} (f1:y1=y2+l*(x1 - x2)) (f3:y3=y2+l*(x3 - x2)) (h:x3 - x1=0):y3=y1:=rg3 [x1,x2,x3,y1,y2,y3,l] f1 (-1) f3 1 h l
theorem sum_assoc (F:Fd K iv e) {p q r:Ap K} (hp:Pt p) (hq:Pt q) (hr:Pt r):sumW iv e (sumW iv e p q) r=sumW iv e p (sumW iv e q r):=by
 have back:∀ {p r:Ap K},Pt p->Pt r->sumW iv e p (sumW iv e (negK p) r)=r:=fun {p r} hp hr=>by
  rw [sum_comm F (neg_pt hp) hr,sum_comm F hp (sum_pt F hr (neg_pt hp))]
  have:=sum_cancel F hr (neg_pt hp)
  rw [neg_neg_pt] at this
  exact this
 by_cases pq:q=negK p
 . subst pq
   rw [sum_neg F hp,sum_zero_l,back hp hr]
 by_cases qr:r=negK q
 . subst qr
   rw [sum_neg F hq,hp.add0,sum_cancel F hp hq]
 by_cases pqr:r=negK (sumW iv e p q)
 . have hpq:=sum_pt F hp hq
   subst pqr
   rw [sum_neg F hpq]
   have h1:=sum_cancel F hp hq
   have h2:=neg_sum F hpq (neg_pt hq)
   rw [h1,neg_neg_pt] at h2
   rw [sum_comm F hq (neg_pt hpq),<- h2,sum_neg F hp]
 by_cases qrp:sumW iv e q r=negK p
 . rw [qrp,sum_neg F hp]
   exfalso
   apply pqr
   rw [neg_sum F hp hq,<- qrp,sum_comm F hq hr,sum_cancel F hr hq]
 cases hp with
 | zero=>rw [sum_zero_l,sum_zero_l]
 | of g1 =>
  cases hq with
  | zero=>rw [sum_zero_r _ (fun h=>by cases h),sum_zero_l]
  | of g2 =>
   cases hr with
   | zero=>rw [(sum_pt F (.of g1) (.of g2)).add0,sum_zero_r _ (fun h=>by cases h)]
   | of g3 =>
    rename_i x1 y1 x2 y2 x3 y3
    have n1:¬ (x1=x2 /\ y1=-y2):=fun h=>pq (by
     rw [neg_of];unfold pt;rw [h.1,h.2];congr 1;exact (rg_neg_neg _).symm)
    have n2:¬ (x2=x3 /\ y2=-y3):=fun h=>qr (by
     rw [neg_of];unfold pt;rw [h.1,h.2];congr 1;exact (rg_neg_neg _).symm)
    obtain ⟨l,hl⟩:=slope_ex F g1 g2 n1
    obtain ⟨m,hm⟩:=slope_ex F g2 g3 n2
    have s1:=sum_by F g1 g2 n1 hl
    have s2:=sum_by F g2 g3 n2 hm
    have g4:=on_sum g1 hl
    have g5:=on_sum g2 hm
    rw [s1] at pqr ⊢
    rw [s2] at qrp ⊢
    obtain ⟨x4,e4⟩:∃ x4,x4=l*l - x1 - x2:=⟨_,rfl⟩
    rw [<- e4] at g4 pqr ⊢
    obtain ⟨y4,f4⟩:∃ y4,y4=l*(x1 - x4) - y1:=⟨_,rfl⟩
    rw [<- f4] at g4 pqr ⊢
    obtain ⟨x5,e5⟩:∃ x5,x5=m*m - x2 - x3:=⟨_,rfl⟩
    rw [<- e5] at g5 qrp ⊢
    obtain ⟨y5,f5⟩:∃ y5,y5=m*(x2 - x5) - y2:=⟨_,rfl⟩
    rw [<- f5] at g5 qrp ⊢
    have n4:¬ (x4=x3 /\ y4=-y3):=fun h=>pqr (by
     rw [neg_of];unfold pt;rw [h.1,h.2];congr 1;exact (rg_neg_neg _).symm)
    have n5:¬ (x1=x5 /\ y1=-y5):=fun h=>qrp (by
     rw [neg_of];unfold pt;rw [h.1,h.2];congr 1;exact (rg_neg_neg _).symm)
    by_cases hd:l - m=0
    . have:l=m:=sub_zero_eq hd
      subst this
      have f1:=mv_a hl.a
      have f3:=mv_b hm.a
      have f4':=mv_c f4 f1
      have h1:x1*x1+x1*x2+x2*x2+1=l*(y2+l*(x1 - x2)+y2):=by rw [hl.b,<- f1]
      have h2:x2*x2+x2*x3+x3*x3+1=l*(y2+(y2+l*(x3 - x2))):=by rw [hm.b,<- f3]
      rcases F.zero_or (col_a h1 h2 e4) with h | h
      . have hy:=col_c f1 f3 h
        have hx:=sub_zero_eq h
        subst hx hy
        have:x5=x4:=by rw [e4,e5];exact mv_e rfl
        subst this
        have:y5=y4:=by rw [f4',f5]
        subst this
        exact sum_comm F (.of g4) (.of g3)
      . exact absurd ⟨(sub_zero_eq h).symm,col_b f4' f3 h⟩ n4
    . exact assoc_gen F g1 g3 g4 g5 hl hm hd e4 f4 e5 f5 n4 n5
end
end Go.Rq.Cw

namespace Go.Rq.Cw
set_option synthInstance.maxSize 100000
set_option synthInstance.maxHeartbeats 400000
section
variable {K:Type} [Rg K] {iv:K->K} {e:K->K->Bool}
def nsm (iv:K->K) (e:K->K->Bool) (A:Ap K):Nat->Ap K
 | 0=>⟨0,0,true⟩
 | n+1=>sumW iv e (nsm iv e A n) A
theorem nsm_pt (F:Fd K iv e) {A:Ap K} (hA:Pt A):∀ n:Nat,Pt (nsm iv e A n)
 | 0=>.zero
 | n+1=>sum_pt F (nsm_pt F hA n) hA
theorem nsm_add (F:Fd K iv e) {A:Ap K} (hA:Pt A) (m:Nat):∀ n:Nat,nsm iv e A (m+n)=sumW iv e (nsm iv e A m) (nsm iv e A n)
 | 0=>(nsm_pt F hA m).add0.symm
 | n+1=>by
  show sumW iv e (nsm iv e A (m+n)) A=sumW iv e (nsm iv e A m) (sumW iv e (nsm iv e A n) A)
  rw [nsm_add F hA m n,sum_assoc F (nsm_pt F hA m) (nsm_pt F hA n) hA]
theorem nsm_mul (F:Fd K iv e) {A:Ap K} (hA:Pt A) (m:Nat):∀ n:Nat,nsm iv e A (m*n)=nsm iv e (nsm iv e A m) n
 | 0=>rfl
 | n+1=>by
  show nsm iv e A (m*n+m)=sumW iv e (nsm iv e (nsm iv e A m) n) (nsm iv e A m)
  rw [nsm_add F hA,nsm_mul F hA m n]
theorem nsm_zero (n:Nat):nsm iv e (⟨0,0,true⟩:Ap K) n=⟨0,0,true⟩:=by
 induction n with
 | zero=>rfl
 | succ n ih =>
  show sumW iv e (nsm iv e (⟨0,0,true⟩:Ap K) n) ⟨0,0,true⟩=_
  rw [ih];rfl
theorem nsm_mod (F:Fd K iv e) {A:Ap K} (hA:Pt A) {r:Nat} (hr:nsm iv e A r=⟨0,0,true⟩) (n:Nat):nsm iv e A n=nsm iv e A (n % r):=by
 have h:=Nat.div_add_mod n r
 have h1:nsm iv e A (r*(n / r)+n % r)=nsm iv e A (n % r):=by
  rw [nsm_add F hA,nsm_mul F hA,hr,nsm_zero]
  rfl
 rw [h] at h1
 exact h1
theorem nsm_gcd (F:Fd K iv e) {A:Ap K} (hA:Pt A) (x y:Nat):nsm iv e A x=⟨0,0,true⟩->nsm iv e A y=⟨0,0,true⟩->nsm iv e A (Nat.gcd x y)=⟨0,0,true⟩:=by
 induction x,y using Nat.gcd.induction with
 | H0 y=>intro _ hy;rw [Nat.gcd_zero_left];exact hy
 | H1 x y hx ih =>
  intro h1 h2
  rw [Nat.gcd_rec]
  exact ih (by rw [<- nsm_mod F hA h1];exact h2) h1
theorem nsm_one (A:Ap K):nsm iv e A 1=A:=by
 show sumW iv e ⟨0,0,true⟩ A=A
 exact sum_zero_l
theorem nsm_none (F:Fd K iv e) {A:Ap K} (hA:Pt A) {r:Nat} (hp:Pr r) (hr:nsm iv e A r=⟨0,0,true⟩) (h0:A.zero=false) (n:Nat):(nsm iv e A n).zero=decide (n % r=0):=by
 by_cases h:n % r=0
 . rw [nsm_mod F hA hr,h,decide_eq_true rfl]
   rfl
 . rw [decide_eq_false h]
   cases hz:(nsm iv e A n).zero with
   | false=>rfl
   | true =>
    exfalso
    have h1:=(nsm_pt F hA n).z hz
    have h2:=nsm_gcd F hA r n hr h1
    have hc:Nat.Coprime r n:=hp.coprime (fun hd=>h (Nat.mod_eq_zero_of_dvd hd))
    rw [hc,nsm_one] at h2
    rw [h2] at h0
    cases h0
end
end Go.Rq.Cw

namespace Go.Rq
theorem pr_786251:Pr 786251:=Pr.of_trial (k:=890) (by decide +kernel) (by decide +kernel) (by decide +kernel)
theorem pr_65521:Pr 65521:=Pr.of_trial (k:=260) (by decide +kernel) (by decide +kernel) (by decide +kernel)
theorem pr_6868571:Pr 6868571:=Pr.of_trial (k:=2700) (by decide +kernel) (by decide +kernel) (by decide +kernel)
theorem pr_10056583:Pr 10056583:=Pr.of_trial (k:=3200) (by decide +kernel) (by decide +kernel) (by decide +kernel)
theorem pr_192153584101141037:Pr 192153584101141037:=pr_pock (a:=2) 44 (by decide +kernel) (by decide +kernel) pr_10056583 (by decide +kernel) (by decide +kernel) (by decide +kernel)
theorem pr_1152921504606846223:Pr 1152921504606846223:=pr_pock (a:=2) 0 (by decide +kernel) (by decide +kernel) pr_192153584101141037 (by decide +kernel) (by decide +kernel) (by decide +kernel)
theorem pr_72057594037927889:Pr 72057594037927889:=pr_pock (a:=2) 40 (by decide +kernel) (by decide +kernel) pr_6868571 (by decide +kernel) (by decide +kernel) (by decide +kernel)
end Go.Rq

namespace Go.Rq
set_option synthInstance.maxSize 100000
set_option synthInstance.maxHeartbeats 400000
section
variable {K:Type} [Rg K] {iv:K->K} {e:K->K->Bool}
inductive Jr:Jp K->Ap K->Prop
 | none {u:Jp K} (h:u.z=0):Jr u ⟨0,0,true⟩
 | of {u:Jp K} {x y:K} (hz:u.z ≠ 0) (hx:u.x=x*(u.z*u.z)) (hy:u.y=y*(u.z*u.z*u.z)):Jr u (pt x y)
theorem jl_x {x z i ux:K} (hi:z*i=1) (h:ux=x*(z*z)):ux*(i*i)=x:=rg2 [x,z,i,ux] h (i*i) hi (x*(z*i+1))
theorem jl_y {y z i uy:K} (hi:z*i=1) (h:uy=y*(z*z*z)):uy*(i*i*i)=y:=rg2 [y,z,i,uy] h (i*i*i) hi (y*(z*i*(z*i)+z*i+1))
theorem jr_low (F:Fd K iv e) {u:Jp K} {A:Ap K} (h:Jr u A):lowerE (foK iv) e u=A:=by
 unfold lowerE
 rw [show (foK iv).zero=(0:K) from rfl]
 cases h with
 | none h=>rw [F.eq.2 h];rfl
 | of hz hx hy =>
  have hi:=F.inv hz
  rw [F.ne hz,cond_false]
  exact Ap.ext3 (jl_x hi hx) (jl_y hi hy) rfl
theorem jt_x {x y z l:K} (hb:x*x+x*x+x*x=l*(y+y)) {ux uy:K} (hx:ux=x*(z*z)) (hy:uy=y*(z*z*z)) :
 (ux*ux+ux*ux+ux*ux)*(ux*ux+ux*ux+ux*ux) - (ux*(uy*uy)+ux*(uy*uy)+(ux*(uy*uy)+ux*(uy*uy))+(ux*(uy*uy)+ux*(uy*uy)+(ux*(uy*uy)+ux*(uy*uy))))=(l*l - x - x)*((uy*z+uy*z)*(uy*z+uy*z)):=by
 subst hx hy
 have h1:x*(z*z)*(x*(z*z))+x*(z*z)*(x*(z*z))+x*(z*z)*(x*(z*z))=l*(y+y)*(z*z*z*z):=by rw [<- hb];exact rg [x,y,z]
 rw [h1]
 exact rg [x,y,z,l]
theorem jt_y {x y z l:K} (hb:x*x+x*x+x*x=l*(y+y)) {ux uy X:K} (hx:ux=x*(z*z)) (hy:uy=y*(z*z*z)) (hX:X=(l*l - x - x)*((uy*z+uy*z)*(uy*z+uy*z))) :
 (ux*ux+ux*ux+ux*ux)*(ux*(uy*uy)+ux*(uy*uy)+(ux*(uy*uy)+ux*(uy*uy)) - X) - (uy*uy*(uy*uy)+uy*uy*(uy*uy)+(uy*uy*(uy*uy)+uy*uy*(uy*uy))+(uy*uy*(uy*uy)+uy*uy*(uy*uy)+(uy*uy*(uy*uy)+uy*uy*(uy*uy)))) =
  (l*(x - (l*l - x - x)) - y)*((uy*z+uy*z)*(uy*z+uy*z)*(uy*z+uy*z)):=by
 subst hx hy hX
 have h1:x*(z*z)*(x*(z*z))+x*(z*z)*(x*(z*z))+x*(z*z)*(x*(z*z))=l*(y+y)*(z*z*z*z):=by rw [<- hb];exact rg [x,y,z]
 rw [h1]
 exact rg [x,y,z,l]
theorem jr_twice (F:Fd K iv e) {b:K} (C:Cv F b) {u:Jp K} {A:Ap K} (h:Jr u A) (hA:Pt b A):Jr (twiceJ (foK iv) u) (sumA iv e A A):=by
 cases h with
 | none h=>exact .none (by rw [twice_z,h];exact rg [u.y])
 | of hz hx hy =>
  rename_i x y
  have hon:On b x y:=by
   generalize hg:pt x y=A at hA
   cases hA with
   | zero=>cases hg
   | of h =>
    have:=Ap.mk.inj hg
    obtain ⟨rfl,rfl,-⟩:=this
    exact h
  have hy0:=C.y hon
  have hn:¬ (x=x /\ y=-y):=fun h=>hy0 (F.two (by have:=h.2;exact rg1 [y] this 1))
  obtain ⟨l,hl⟩:=slope_ex F hon hon hn
  rw [sum_by F hon hon hn hl]
  have hx':=jt_x hl.b hx hy
  have hy':=jt_y hl.b hx hy hx'
  refine .of ?_ hx' hy'
  rw [twice_z,hy]
  intro h0
  have h1:=F.two h0
  exact F.ne_mul (F.ne_mul hy0 (F.ne_mul (F.ne_mul hz hz) hz)) hz h1
theorem js_h {x1 x2 z1 z2:K} {u v:K} (hu:u=x1*(z1*z1)) (hv:v=x2*(z2*z2)):v*(z1*z1) - u*(z2*z2)=(x2 - x1)*((z1*z1)*(z2*z2)):=by subst hu hv;exact rg [x1,x2,z1,z2]
theorem js_r {y1 y2 z1 z2:K} {u v:K} (hu:u=y1*(z1*z1*z1)) (hv:v=y2*(z2*z2*z2)):v*((z1*z1)*z1) - u*((z2*z2)*z2)=(y2 - y1)*((z1*z1*z1)*(z2*z2*z2)):=by subst hu hv;exact rg [y1,y2,z1,z2]
theorem js_x {x1 x2 y1 y2 z1 z2 l h r w3 u:K} (hh:h=(x2 - x1)*((z1*z1)*(z2*z2))) (hr:r=(y2 - y1)*((z1*z1*z1)*(z2*z2*z2))) (ha:y1 - y2=l*(x1 - x2)) (hu:u=x1*(z1*z1)*(z2*z2)) (hw:w3=h*(z1*z2)) :
 (r*r - h*h*h) - (u*(h*h)+u*(h*h))=(l*l - x1 - x2)*(w3*w3):=by
 have h1:r=l*w3:=by
  subst hr hw hh
  have:y2 - y1=l*(x2 - x1):=rg1 [x1,x2,y1,y2,l] ha (-1)
  rw [this]
  exact rg [x1,x2,z1,z2,l]
 subst h1 hu
 have h2:h*h*h=(x2 - x1)*(w3*w3):=by subst hw hh;exact rg [x1,x2,z1,z2]
 have h3:x1*(z1*z1)*(z2*z2)*(h*h)=x1*(w3*w3):=by subst hw;exact rg [x1,z1,z2,h]
 rw [h2,h3]
 exact rg [x1,x2,l,w3]
theorem js_y {x1 x2 y1 y2 z1 z2 l h r w3 u s X:K} (hh:h=(x2 - x1)*((z1*z1)*(z2*z2))) (hr:r=(y2 - y1)*((z1*z1*z1)*(z2*z2*z2))) (ha:y1 - y2=l*(x1 - x2)) (hu:u=x1*(z1*z1)*(z2*z2)) (hs:s=y1*(z1*z1*z1)*(z2*z2*z2)) (hw:w3=h*(z1*z2))
 (hX:X=(l*l - x1 - x2)*(w3*w3)):r*(u*(h*h) - X) - s*(h*h*h)=(l*(x1 - (l*l - x1 - x2)) - y1)*(w3*w3*w3):=by
 have h1:r=l*w3:=by
  subst hr hw hh
  have:y2 - y1=l*(x2 - x1):=rg1 [x1,x2,y1,y2,l] ha (-1)
  rw [this]
  exact rg [x1,x2,z1,z2,l]
 have h3:u*(h*h)=x1*(w3*w3):=by subst hw hu;exact rg [x1,z1,z2,h]
 have h4:s*(h*h*h)=y1*(w3*w3*w3):=by subst hw hs;exact rg [y1,z1,z2,h]
 rw [h1,h3,h4,hX]
 exact rg [x1,x2,y1,l,w3]
theorem jr_sum (F:Fd K iv e) {b:K} (C:Cv F b) (f:Fl K) {u v:Jp K} {A B:Ap K} (h:Jr u A) (k:Jr v B) (hA:Pt b A) (hB:Pt b B):Jr (sumE (foK iv) e f u v) (sumA iv e A B):=by
 have z0:(foK iv).zero=(0:K):=rfl
 cases h with
 | none h =>
  unfold sumE
  rw [z0,F.eq.2 h,cond_true]
  exact k
 | of hz hx hy =>
  rename_i x1 y1
  have pt_of:∀ {x y:K},Pt b (pt x y)->On b x y:=fun {x y} hA=>by
   generalize hg:pt x y=A at hA
   cases hA with
   | zero=>cases hg
   | of h =>
    have:=Ap.mk.inj hg
    obtain ⟨rfl,rfl,-⟩:=this
    exact h
  cases k with
  | none k =>
   unfold sumE
   rw [z0,F.ne hz,F.eq.2 k,cond_false,cond_true,sum_zero_r _ (fun h=>by cases h)]
   exact .of hz hx hy
  | of kz kx ky =>
   rename_i x2 y2
   have hj:hJ (foK iv) u v=(x2 - x1)*((u.z*u.z)*(v.z*v.z)):=js_h hx kx
   have rj:rJ (foK iv) u v=(y2 - y1)*((u.z*u.z*u.z)*(v.z*v.z*v.z)):=js_r hy ky
   have hzz:=F.ne_mul (F.ne_mul hz hz) (F.ne_mul kz kz)
   have hzzz:=F.ne_mul (F.ne_mul (F.ne_mul hz hz) hz) (F.ne_mul (F.ne_mul kz kz) kz)
   have g1:=pt_of hA
   have g2:=pt_of hB
   have se:sumE (foK iv) e f u v=bif e (hJ (foK iv) u v) 0 then (bif e (rJ (foK iv) u v) 0 then twiceJ (foK iv) u else ⟨f.one,f.one,0⟩) else sumJ (foK iv) u v:=by
    unfold sumE
    rw [z0,F.ne hz,F.ne kz]
    rfl
   rw [se]
   by_cases hx12:x1=x2
   . subst hx12
     rw [F.eq.2 (show hJ (foK iv) u v=0 by rw [hj];exact rg [x1,u.z,v.z]),cond_true]
     by_cases hy12:y1=y2
     . subst hy12
       rw [F.eq.2 (show rJ (foK iv) u v=0 by rw [rj];exact rg [y1,u.z,v.z]),cond_true]
       exact jr_twice F C (.of hz hx hy) hA
     . rw [F.ne (show rJ (foK iv) u v ≠ 0 by rw [rj];exact F.ne_mul (fun h=>hy12 (sub_zero_eq h).symm) hzzz),cond_false]
       have:y1=-y2:=by
        unfold On at g1 g2
        have hs:(y1 - y2)*(y1+y2)=0:=rg2 [x1,y1,y2,b] g1 1 g2 (-1)
        rcases F.zero_or hs with h | h
        . exact absurd (sub_zero_eq h) hy12
        . exact rg1 [y1,y2] h 1
       subst this
       have e1:=sum_opp F (x:=x1) (y:=-y2)
       rw [show - -y2=y2 from rg_neg_neg y2] at e1
       rw [e1]
       exact .none rfl
   . have hh:hJ (foK iv) u v ≠ 0:=by
      rw [hj]
      exact F.ne_mul (fun h=>hx12 (sub_zero_eq h).symm) hzz
     rw [F.ne hh,cond_false]
     have hn:¬ (x1=x2 /\ y1=-y2):=fun h=>hx12 h.1
     obtain ⟨l,hl⟩:=slope_ex F g1 g2 hn
     rw [sum_by F g1 g2 hn hl]
     have hu:u.x*(v.z*v.z)=x1*(u.z*u.z)*(v.z*v.z):=by rw [hx]
     have hs:u.y*(v.z*v.z*v.z)=y1*(u.z*u.z*u.z)*(v.z*v.z*v.z):=by rw [hy]
     have X:=js_x hj rj hl.a hu (w3:=hJ (foK iv) u v*(u.z*v.z)) rfl
     have Y:=js_y hj rj hl.a hu hs (w3:=hJ (foK iv) u v*(u.z*v.z)) rfl X
     exact .of (F.ne_mul hh (F.ne_mul hz kz)) X Y
def nsm (iv:K->K) (e:K->K->Bool) (A:Ap K):Nat->Ap K
 | 0=>⟨0,0,true⟩
 | n+1=>sumA iv e (nsm iv e A n) A
theorem nsm_pt (F:Fd K iv e) {b:K} {A:Ap K} (hA:Pt b A):∀ n:Nat,Pt b (nsm iv e A n)
 | 0=>.zero
 | n+1=>sum_pt F (nsm_pt F hA n) hA
theorem nsm_add (F:Fd K iv e) {b:K} (C:Cv F b) {A:Ap K} (hA:Pt b A) (m:Nat):∀ n:Nat,nsm iv e A (m+n)=sumA iv e (nsm iv e A m) (nsm iv e A n)
 | 0=>(nsm_pt F hA m).add0.symm
 | n+1=>by
  show sumA iv e (nsm iv e A (m+n)) A=sumA iv e (nsm iv e A m) (sumA iv e (nsm iv e A n) A)
  rw [nsm_add F C hA m n,sum_assoc F C (nsm_pt F hA m) (nsm_pt F hA n) hA]
theorem nsm_mul (F:Fd K iv e) {b:K} (C:Cv F b) {A:Ap K} (hA:Pt b A) (m:Nat):∀ n:Nat,nsm iv e A (m*n)=nsm iv e (nsm iv e A m) n
 | 0=>rfl
 | n+1=>by
  show nsm iv e A (m*n+m)=sumA iv e (nsm iv e (nsm iv e A m) n) (nsm iv e A m)
  rw [nsm_add F C hA,nsm_mul F C hA m n]
theorem nsm_zero (n:Nat):nsm iv e (⟨0,0,true⟩:Ap K) n=⟨0,0,true⟩:=by
 induction n with
 | zero=>rfl
 | succ n ih =>
  show sumA iv e (nsm iv e (⟨0,0,true⟩:Ap K) n) ⟨0,0,true⟩=_
  rw [ih];rfl
end
end Go.Rq
