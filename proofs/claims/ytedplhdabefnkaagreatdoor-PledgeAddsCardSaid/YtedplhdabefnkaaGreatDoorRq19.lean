import Derived.Test.YtedplhdabefnkaaGreatDoorRq17
import Derived.Test.YtedplhdabefnkaaGreatDoorRq18
import Derived.Test.YtedplhdabefnkaaGreatDoorRq04
import Derived.Test.YtedplhdabefnkaaGreatDoorRq12
import Derived.Test.YtedplhdabefnkaaGreatDoorRq05
import Derived.Test.YtedplhdabefnkaaGreatDoorRq06
import Derived.Test.YtedplhdabefnkaaGreatDoorRq07
import Derived.Test.YtedplhdabefnkaaGreatDoorRq08
import Derived.Test.YtedplhdabefnkaaGreatDoorRq16
namespace Go.Rq
open Go Go.Proofs
def zeroP:Ap W6:=⟨zeroW,zeroW,true⟩
set_option maxRecDepth 1000000 in
theorem below_gen:belowP1 gen1P=true:=by kernel_rfl
set_option maxRecDepth 1000000 in
theorem check_gen:checkP1 gen1P=true:=by
 rw [check1_of];kernel_rfl
set_option maxRecDepth 1000000 in
theorem mul_order:sumP1W gen1P orderW=(zeroP,0):=mul1_of below_gen (by kernel_rfl)
def eqAp (a b:Ap W6):Bool:=bif eqW a.x b.x then (bif eqW a.y b.y then a.zero == b.zero else false) else false
theorem eqAp_ok (a b:Ap W6) (h:eqAp a b=true):a=b:=by
 obtain ⟨ax,ay,az⟩:=a
 obtain ⟨bx,bw,bz⟩:=b
 unfold eqAp at h
 dsimp only at h
 cases h1:eqW ax bx with
 | false=>rw [h1] at h;cases h
 | true =>
  cases h2:eqW ay bw with
  | false=>rw [h1,h2] at h;cases h
  | true =>
   rw [h1,h2] at h
   have h3:az=bz:=by simpa using h
   rw [(eqW_iff _ _).1 h1,(eqW_iff _ _).1 h2,h3]
theorem eqW_ok (a b:W6) (h:eqW a b=true):a=b:=(eqW_iff a b).1 h
def wAddW (a b:W6):W6 × Bool:=((adds a b).1,(adds a b).2 == true)
def wAddT:PureTab:=[(178,fn3 kU kU kBit kUB add64)]
theorem wAddT_ok:TabPOk PR wAddT:=TabPOk.cons add64_ok TabPOk.nil
theorem wadd_ctx:Ctx PR (envOf eqsT wAddT) [] (fun _=>none) 40 123 :=
 ctxB (envOf_ok eqsT_ok wAddT_ok) mixed (by kernel_rfl)
set_option maxRecDepth 100000 in
theorem wadd_run (a b:W6):(afunR PR (envOf eqsT wAddT) [] (fun _=>none) 40 123 [c6.agg.enc a,c6.agg.enc b]).strict=.leaf (kWB.enc (wAddW a b)):=by kernel_rfl
theorem wadd_ok:CallOk PR 123 (fn2 c6.agg c6.agg kWB wAddW) :=
 .inl ⟨entersB (by kernel_rfl),pure2 wadd_ctx (fun a b=>leafVal (B:=kWB) (y:=wAddW a b) (wadd_run a b))⟩
def raC (x y c:BitVec 64):BitVec 64:=bif (bif BitVec.ult (x+y+c) (x+y) then true else BitVec.ult (x+y) x) then bitW true else bitW false
def raddW (a b:W6):W6 × Bool :=
 let c1:=raC a.w0 b.w0 (bitW false)
 let c2:=raC a.w1 b.w1 c1
 let c3:=raC a.w2 b.w2 c2
 let c4:=raC a.w3 b.w3 c3
 let c5:=raC a.w4 b.w4 c4
 let c6:=raC a.w5 b.w5 c5
 (⟨a.w0+b.w0+bitW false,a.w1+b.w1+c1,a.w2+b.w2+c2,a.w3+b.w3+c3,a.w4+b.w4+c4,a.w5+b.w5+c5⟩,c6 == bitW true)
def rsC (x y c:BitVec 64):BitVec 64:=bif (bif BitVec.ult (x - y) c then true else BitVec.ult x y) then bitW true else bitW false
def rsubW (a b:W6):W6 × Bool :=
 let c1:=rsC a.w0 b.w0 (bitW false)
 let c2:=rsC a.w1 b.w1 c1
 let c3:=rsC a.w2 b.w2 c2
 let c4:=rsC a.w3 b.w3 c3
 let c5:=rsC a.w4 b.w4 c4
 let c6:=rsC a.w5 b.w5 c5
 (⟨a.w0 - b.w0 - bitW false,a.w1 - b.w1 - c1,a.w2 - b.w2 - c2,a.w3 - b.w3 - c3,a.w4 - b.w4 - c4,a.w5 - b.w5 - c5⟩,c6 == bitW true)
def cFa:CC (W6 × BitVec 64 × W6):=CC.prod c6 (CC.prod cU c6)
def rowG (M:BitVec 64->BitVec 64->BitVec 64 × BitVec 64) (S:BitVec 64->BitVec 64->Bool->BitVec 64 × Bool) (t:W6 × BitVec 64 × BitVec 64) (a:BitVec 64) (b:W6):W6 × BitVec 64 × BitVec 64 :=
 let mc:=fun (y u c:BitVec 64)=>let p:=M a y;let s:=S p.2 u false;let h:=p.1+bitW s.2;let r:=S s.1 c false;((r.1,h+bitW r.2):BitVec 64 × BitVec 64)
 let r0:=mc b.w0 t.1.w0 (bitW false)
 let r1:=mc b.w1 t.1.w1 r0.2
 let r2:=mc b.w2 t.1.w2 r1.2
 let r3:=mc b.w3 t.1.w3 r2.2
 let r4:=mc b.w4 t.1.w4 r3.2
 let r5:=mc b.w5 t.1.w5 r4.2
 let s:=S t.2.1 r5.2 false
 (⟨r0.1,r1.1,r2.1,r3.1,r4.1,r5.1⟩,s.1,t.2.2+bitW s.2)
def rowT (M:BitVec 64->BitVec 64->BitVec 64 × BitVec 64) (S:BitVec 64->BitVec 64->Bool->BitVec 64 × Bool):PureTab:=[(183,fn2 kU kU kUU M),(178,fn3 kU kU kBit kUB S)]
def rowW:W6 × BitVec 64 × BitVec 64->BitVec 64->W6->W6 × BitVec 64 × BitVec 64:=rowG mul64 add64
abbrev W8:Type:=W6 × BitVec 64 × BitVec 64
abbrev Fa:Type:=W6 × BitVec 64 × W6
def mtRound (R:W8->BitVec 64->W6->W8) (f:Fa) (b:W6) (x:BitVec 64) (t:W8):W8 :=
 let u:=R t x b
 let v:=R u (u.1.w0*f.2.1) f.1
 (⟨v.1.w1,v.1.w2,v.1.w3,v.1.w4,v.1.w5,v.2.1⟩,v.2.2,bitW false)
def zero8:W8:=(⟨0#64,0#64,0#64,0#64,0#64,0#64⟩,0#64,0#64)
def mtRaw (R:W8->BitVec 64->W6->W8) (f:Fa) (a b:W6):W8 :=
 mtRound R f b a.w5 (mtRound R f b a.w4 (mtRound R f b a.w3 (mtRound R f b a.w2 (mtRound R f b a.w1 (mtRound R f b a.w0 zero8)))))
def cmW (a b:W6):Int:=chainV (cmpL a b) 0
def montW (f:Fa) (a b:W6):W6:=bif (mtRaw rowW f a b).2.1 != bitW false then (rsubW (mtRaw rowW f a b).1 f.1).1 else bif decide (cmW (mtRaw rowW f a b).1 f.1 >= 0) then (rsubW (mtRaw rowW f a b).1 f.1).1 else (mtRaw rowW f a b).1
def fastP:Fa:=(primeW,9940570264628428797#64,wideW)
def rmG (M:Fa->W6->W6->W6) (f:Fa) (a b:W6):W6:=M f (M f a b) f.2.2
def rmulW:Fa->W6->W6->W6:=rmG montW
def rfadd (f:Fa) (a b:W6):W6:=bif decide (cmW (raddW a b).1 f.1 >= 0) then (rsubW (raddW a b).1 f.1).1 else (raddW a b).1
def rfneg (f:Fa) (a:W6):W6:=bif eqW a zeroW then a else (rsubW f.1 a).1
def rfsub (f:Fa) (a b:W6):W6:=rfadd f a (rfneg f b)
def rlenL (B:W6->Int->Int) (a:W6):Nat->List (Bool × Int)
 | 0=>[]
 | k+1=>(B a (k:Int) == 1,(k:Int)+1) :: rlenL B a k
def rlenI (a:W6):Int:=chainV (rlenL bitI a 384) 0
structure PO where
 mu:Fa->W6->W6->W6
 ln:W6->Int
 bt:W6->Int->Int
def numOne:W6:=⟨bitW true,0#64,0#64,0#64,0#64,0#64⟩
def ovP:Option W6->W6
 | none=>numOne
 | some w=>w
def powR (t:PO) (f:Fa) (a e:W6):Nat->Option W6->Option W6
 | 0,o=>o
 | k+1,o=>powR t f a e k (some (bif t.bt e (k:Int) == 1 then t.mu f (t.mu f (ovP o) (ovP o)) a else t.mu f (ovP o) (ovP o)))
theorem rlenL_le (B:W6->Int->Int) (a:W6):∀ (k:Nat),k <= 384->∀ c x,(c,x) ∈ rlenL B a k->0 <= x /\ x <= 384
 | 0,_,c,x,h=>by simp [rlenL] at h
 | k+1,hk,c,x,h=>by
  simp only [rlenL,List.mem_cons,Prod.mk.injEq] at h
  rcases h with ⟨-,rfl⟩ | h
  . omega
  . exact rlenL_le B a k (by omega) c x h
theorem rlenI_le (a:W6):0 <= rlenI a /\ rlenI a <= 384:=chainV_mem (Q:=fun x=>0 <= x /\ x <= 384) (rlenL_le bitI a 384 (Nat.le_refl _)) (by omega)
def rpoO:PO:=⟨rmulW,rlenI,bitI⟩
def rpowO (f:Fa) (a e:W6):Option W6:=powR rpoO f a e (rlenI e).toNat none
def rpowW (f:Fa) (a e:W6):W6:=ovP (rpowO f a e)
def numTwo:W6:=⟨2#64,0#64,0#64,0#64,0#64,0#64⟩
def rinvW (f:Fa) (a:W6):W6:=rpowW f a (rsubW f.1 numTwo).1
structure RO where
 fp:Fa
 mu:Fa->W6->W6->W6
 ad:Fa->W6->W6->W6
 sb:Fa->W6->W6->W6
 ne:Fa->W6->W6
 iv:Fa->W6->W6
def roO:RO:=⟨fastP,rmulW,rfadd,rfsub,rfneg,rinvW⟩
def rsideG (t:RO) (x:W6):W6:=t.ad t.fp (t.mu t.fp (t.mu t.fp x x) x) (ofW 4#64)
def rcheckG (t:RO) (bl:W6->Bool) (sd:W6->W6) (p:Ap W6):Bool:=bif p.zero then (bif eqW p.x zeroW then eqW p.y zeroW else false) else bif bl p.x then (bif bl p.y then eqW (t.mu t.fp p.y p.y) (sd p.x) else false) else false
def rcheck1:Ap W6->Bool:=rcheckG roO belowI (rsideG roO)
def rneg1G (t:RO) (p:Ap W6):Ap W6:=⟨p.x,t.ne t.fp p.y,p.zero⟩
def eqP13 (a b:Ap W6):Bool:=(a.x.w0 == b.x.w0) && ((a.x.w1 == b.x.w1) && ((a.x.w2 == b.x.w2) && ((a.x.w3 == b.x.w3) && ((a.x.w4 == b.x.w4) && ((a.x.w5 == b.x.w5) &&
 ((a.y.w0 == b.y.w0) && ((a.y.w1 == b.y.w1) && ((a.y.w2 == b.y.w2) && ((a.y.w3 == b.y.w3) && ((a.y.w4 == b.y.w4) && ((a.y.w5 == b.y.w5) && ((a.zero == b.zero) && true))))))))))))
def rslope1 (t:RO) (a:Ap W6):W6:=t.mu t.fp (t.ad t.fp (t.ad t.fp (t.mu t.fp a.x a.x) (t.mu t.fp a.x a.x)) (t.mu t.fp a.x a.x)) (t.iv t.fp (t.ad t.fp a.y a.y))
def rslope2 (t:RO) (a b:Ap W6):W6:=t.mu t.fp (t.sb t.fp b.y a.y) (t.iv t.fp (t.sb t.fp b.x a.x))
def rchord (t:RO) (a b:Ap W6) (m:W6):Ap W6 :=
 let x:=t.sb t.fp (t.sb t.fp (t.mu t.fp m m) a.x) b.x
 ⟨x,t.sb t.fp (t.mu t.fp m (t.sb t.fp a.x x)) a.y,false⟩
def radd1G (t:RO) (N:Ap W6->Ap W6) (a b:Ap W6):Ap W6:=bif a.zero then b else bif b.zero then a else bif eqP13 a (N b) then ⟨zeroW,zeroW,true⟩ else bif eqP13 a b then rchord t a b (rslope1 t a) else rchord t a b (rslope2 t a b)
def radd1:Ap W6->Ap W6->Ap W6:=radd1G roO (rneg1G roO)
theorem raC_eq (x y:BitVec 64) (c:Bool):raC x y (bitW c)=bitW (add64 x y c).2:=by
 have hx:=x.isLt
 have hy:=y.isLt
 have hc:=b2n_le c
 have e:(bif BitVec.ult (x+y+bitW c) (x+y) then true else BitVec.ult (x+y) x)=(add64 x y c).2:=by
  have e2:(add64 x y c).2=decide (18446744073709551616 <= x.toNat+y.toNat+b2n c):=rfl
  have e3:(x+y+bitW c).toNat=((x.toNat+y.toNat) % 18446744073709551616+b2n c) % 18446744073709551616:=by rw [BitVec.toNat_add,BitVec.toNat_add,bitW_nat]
  have e4:(x+y).toNat=(x.toNat+y.toNat) % 18446744073709551616:=BitVec.toNat_add x y
  rw [e2]
  unfold BitVec.ult
  rw [e3,e4]
  rw [Bool.eq_iff_iff,decide_eq_true_eq]
  by_cases h:((x.toNat+y.toNat) % 18446744073709551616+b2n c) % 18446744073709551616 < (x.toNat+y.toNat) % 18446744073709551616
  . rw [decide_eq_true h,cond_true]
    constructor
    . intro _;omega
    . intro _;rfl
  . rw [decide_eq_false h,cond_false,decide_eq_true_eq]
    omega
 unfold raC
 rw [e]
 cases (add64 x y c).2 <;> rfl
theorem rsC_eq (x y:BitVec 64) (c:Bool):rsC x y (bitW c)=bitW (sub64 x y c).2:=by
 have hx:=x.isLt
 have hy:=y.isLt
 have hc:=b2n_le c
 have e:(bif BitVec.ult (x - y) (bitW c) then true else BitVec.ult x y)=(sub64 x y c).2:=by
  have e2:(sub64 x y c).2=decide (x.toNat < y.toNat+b2n c):=rfl
  have e4:(x - y).toNat=(18446744073709551616 - y.toNat+x.toNat) % 18446744073709551616:=BitVec.toNat_sub x y
  rw [e2]
  unfold BitVec.ult
  rw [e4,bitW_nat]
  rw [Bool.eq_iff_iff,decide_eq_true_eq]
  by_cases h:(18446744073709551616 - y.toNat+x.toNat) % 18446744073709551616 < b2n c
  . rw [decide_eq_true h,cond_true]
    constructor
    . intro _;omega
    . intro _;rfl
  . rw [decide_eq_false h,cond_false,decide_eq_true_eq]
    omega
 unfold rsC
 rw [e]
 cases (sub64 x y c).2 <;> rfl
theorem bitW_beq (c:Bool):(bitW c == bitW true)=c:=by cases c <;> rfl
theorem raddW_eq (a b:W6):raddW a b=adds a b:=by
 simp only [raddW,raC_eq,bitW_beq,adds]
 rfl
theorem rsubW_eq (a b:W6):rsubW a b=subs a b:=by
 simp only [rsubW,rsC_eq,bitW_beq,subs]
 rfl
theorem rowW_eq {t:W8} {a:BitVec 64} {b:W6} {r0 r1 r2 r3 r4 r5:BitVec 64 × BitVec 64} {s:BitVec 64 × Bool}
 (h0:mac a b.w0 t.1.w0 (bitW false)=r0) (h1:mac a b.w1 t.1.w1 r0.2=r1) (h2:mac a b.w2 t.1.w2 r1.2=r2) (h3:mac a b.w3 t.1.w3 r2.2=r3) (h4:mac a b.w4 t.1.w4 r3.2=r4) (h5:mac a b.w5 t.1.w5 r4.2=r5)
 (hs:add64 t.2.1 r5.2 false=s):rowW t a b=(⟨r0.1,r1.1,r2.1,r3.1,r4.1,r5.1⟩,s.1,t.2.2+bitW s.2):=by
 subst h0 h1 h2 h3 h4 h5 hs
 rfl
theorem row_sum {p0 t0 r0 c0 p1 t1 r1 c1 p2 t2 r2 c2 p3 t3 r3 c3 p4 t4 r4 c4 p5 t5 r5 c5 w s k:Nat} (e0:r0+18446744073709551616*c0=p0+t0) (e1:r1+18446744073709551616*c1=p1+t1+c0) (e2:r2+18446744073709551616*c2=p2+t2+c1) (e3:r3+18446744073709551616*c3=p3+t3+c2) (e4:r4+18446744073709551616*c4=p4+t4+c3) (e5:r5+18446744073709551616*c5=p5+t5+c4) (e6:s+18446744073709551616*k=w+c5) :
 (r0+18446744073709551616*r1+340282366920938463463374607431768211456*r2+6277101735386680763835789423207666416102355444464034512896*r3+115792089237316195423570985008687907853269984665640564039457584007913129639936*r4+2135987035920910082395021706169552114602704522356652769947041607822219725780640550022962086936576*r5)+39402006196394479212279040100143613805079739270465446667948293404245721771497210611414266254884915640806627990306816*s+726838724295606890549323807888004534353641360687318060281490199180639288113397923326191050713763565560762521606266177933534601628614656*k =
 (t0+18446744073709551616*t1+340282366920938463463374607431768211456*t2+6277101735386680763835789423207666416102355444464034512896*t3+115792089237316195423570985008687907853269984665640564039457584007913129639936*t4+2135987035920910082395021706169552114602704522356652769947041607822219725780640550022962086936576*t5)+39402006196394479212279040100143613805079739270465446667948293404245721771497210611414266254884915640806627990306816*w +
 (p0+18446744073709551616*p1+340282366920938463463374607431768211456*p2+6277101735386680763835789423207666416102355444464034512896*p3+115792089237316195423570985008687907853269984665640564039457584007913129639936*p4+2135987035920910082395021706169552114602704522356652769947041607822219725780640550022962086936576*p5):=by
 omega
theorem row_nat (t:W8) (a:BitVec 64) (b:W6):∃ c:Bool,
 (rowW t a b).1.val+39402006196394479212279040100143613805079739270465446667948293404245721771497210611414266254884915640806627990306816*(rowW t a b).2.1.toNat+726838724295606890549323807888004534353641360687318060281490199180639288113397923326191050713763565560762521606266177933534601628614656*b2n c =
  t.1.val+39402006196394479212279040100143613805079739270465446667948293404245721771497210611414266254884915640806627990306816*t.2.1.toNat+a.toNat*b.val /\
 (rowW t a b).2.2=t.2.2+bitW c /\ ∃ k,(rowW t a b).1.w0.toNat+18446744073709551616*k=a.toNat*b.w0.toNat+t.1.w0.toNat:=by
 obtain ⟨r0,hr0⟩:∃ r,mac a b.w0 t.1.w0 (bitW false)=r:=⟨_,rfl⟩
 obtain ⟨r1,hr1⟩:∃ r,mac a b.w1 t.1.w1 r0.2=r:=⟨_,rfl⟩
 obtain ⟨r2,hr2⟩:∃ r,mac a b.w2 t.1.w2 r1.2=r:=⟨_,rfl⟩
 obtain ⟨r3,hr3⟩:∃ r,mac a b.w3 t.1.w3 r2.2=r:=⟨_,rfl⟩
 obtain ⟨r4,hr4⟩:∃ r,mac a b.w4 t.1.w4 r3.2=r:=⟨_,rfl⟩
 obtain ⟨r5,hr5⟩:∃ r,mac a b.w5 t.1.w5 r4.2=r:=⟨_,rfl⟩
 obtain ⟨s,hs⟩:∃ s,add64 t.2.1 r5.2 false=s:=⟨_,rfl⟩
 have hres:=rowW_eq hr0 hr1 hr2 hr3 hr4 hr5 hs
 have e0:=mac_nat a b.w0 t.1.w0 (bitW false)
 rw [hr0,show (bitW false).toNat=0 from rfl,Nat.add_zero] at e0
 have e1:=mac_nat a b.w1 t.1.w1 r0.2
 rw [hr1] at e1
 have e2:=mac_nat a b.w2 t.1.w2 r1.2
 rw [hr2] at e2
 have e3:=mac_nat a b.w3 t.1.w3 r2.2
 rw [hr3] at e3
 have e4:=mac_nat a b.w4 t.1.w4 r3.2
 rw [hr4] at e4
 have e5:=mac_nat a b.w5 t.1.w5 r4.2
 rw [hr5] at e5
 have e6:=add64_nat t.2.1 r5.2 false
 rw [hs,show b2n false=0 from rfl,Nat.add_zero] at e6
 have sum:=row_sum e0 e1 e2 e3 e4 e5 e6
 rw [<- val_mul a.toNat b] at sum
 refine ⟨s.2,?_,?_,r0.2.toNat,?_⟩
 . rw [hres];exact sum
 . rw [hres]
 . rw [hres];exact e0
theorem mt_low {u q p k v0:Nat} (hq:q*p % 18446744073709551616=u*18446744073709551615 % 18446744073709551616) (hv:v0 < 18446744073709551616) (h:v0+18446744073709551616*k=q*p+u):v0=0:=by
 generalize q*p=x at hq h
 omega
theorem mt_end {B T xB U u6 c Q V v6 d:Nat} (hb:B < 4002409555221667393417789825735904156556882819939007885332058136124031650490837864442687629129015664037894272559787) (ht:T < B+4002409555221667393417789825735904156556882819939007885332058136124031650490837864442687629129015664037894272559787)
 (hx:xB <= 18446744073709551615*B) (hq:Q < 18446744073709551616)
 (hu:U+39402006196394479212279040100143613805079739270465446667948293404245721771497210611414266254884915640806627990306816*u6+726838724295606890549323807888004534353641360687318060281490199180639288113397923326191050713763565560762521606266177933534601628614656*c=T+xB)
 (hv:V+39402006196394479212279040100143613805079739270465446667948293404245721771497210611414266254884915640806627990306816*v6+726838724295606890549323807888004534353641360687318060281490199180639288113397923326191050713763565560762521606266177933534601628614656*d=U+39402006196394479212279040100143613805079739270465446667948293404245721771497210611414266254884915640806627990306816*u6+Q*4002409555221667393417789825735904156556882819939007885332058136124031650490837864442687629129015664037894272559787) :
 c=0 /\ d=0 /\ V+39402006196394479212279040100143613805079739270465446667948293404245721771497210611414266254884915640806627990306816*v6=xB+T+Q*4002409555221667393417789825735904156556882819939007885332058136124031650490837864442687629129015664037894272559787 /\
  V+39402006196394479212279040100143613805079739270465446667948293404245721771497210611414266254884915640806627990306816*v6 < 18446744073709551616*(B+4002409555221667393417789825735904156556882819939007885332058136124031650490837864442687629129015664037894272559787):=by
 have hc:c=0:=by omega
 subst hc
 have hd:d=0:=by omega
 subst hd
 refine ⟨rfl,rfl,?_,?_⟩ <;> omega
theorem b2n_zero {c:Bool} (h:b2n c=0):c=false:=by cases c with
 | false=>rfl
 | true=>cases h
theorem mt_round (b:W6) (x:BitVec 64) (t:W8) (h1:t.2.1=0#64) (h2:t.2.2=0#64) (hb:b.val < pN) (ht:t.1.val < b.val+pN) :
 ∃ q:Nat,(mtRound rowW fastP b x t).2.1=0#64 /\ (mtRound rowW fastP b x t).2.2=0#64 /\ (mtRound rowW fastP b x t).1.val < b.val+pN /\ 18446744073709551616*(mtRound rowW fastP b x t).1.val=x.toNat*b.val+t.1.val+q*pN:=by
 obtain ⟨u,hue⟩:∃ u,rowW t x b=u:=⟨_,rfl⟩
 obtain ⟨v,hve⟩:∃ v,rowW u (u.1.w0*9940570264628428797#64) primeW=v:=⟨_,rfl⟩
 have hres:mtRound rowW fastP b x t=(⟨v.1.w1,v.1.w2,v.1.w3,v.1.w4,v.1.w5,v.2.1⟩,v.2.2,bitW false):=by
  subst hve hue
  rfl
 obtain ⟨c,hu,hc,-⟩:=row_nat t x b
 obtain ⟨d,hv,hd,k,hl⟩:=row_nat u (u.1.w0*9940570264628428797#64) primeW
 rw [hue] at hu hc
 rw [hve] at hv hd hl
 have hq:=neg_inv u.1.w0
 rw [BitVec.toNat_mul] at hq
 have z:=mt_low hq v.1.w0.isLt hl
 rw [prime_val] at hv
 rw [h1,show (0#64).toNat=0 from rfl,Nat.mul_zero,Nat.add_zero] at hu
 have xB:x.toNat*b.val <= 18446744073709551615*b.val:=Nat.mul_le_mul_right _ (Nat.le_of_lt_succ x.isLt)
 obtain ⟨c0,d0,e1,e2⟩:=mt_end (c:=b2n c) (d:=b2n d) hb ht xB (u.1.w0*9940570264628428797#64).isLt hu hv
 have c0:=b2n_zero c0
 have d0:=b2n_zero d0
 subst c0 d0
 rw [h2] at hc
 rw [hc] at hd
 refine ⟨(u.1.w0*9940570264628428797#64).toNat,?_,?_,?_⟩
 . rw [hres]
   show v.2.2=0#64
   rw [hd];rfl
 . rw [hres];rfl
 . rw [hres]
   have hp:pN=4002409555221667393417789825735904156556882819939007885332058136124031650490837864442687629129015664037894272559787:=rfl
   rw [hp]
   show (W6.mk v.1.w1 v.1.w2 v.1.w3 v.1.w4 v.1.w5 v.2.1).val < _ /\ 18446744073709551616*(W6.mk v.1.w1 v.1.w2 v.1.w3 v.1.w4 v.1.w5 v.2.1).val=_
   have hval:18446744073709551616*(W6.mk v.1.w1 v.1.w2 v.1.w3 v.1.w4 v.1.w5 v.2.1).val=v.1.val+39402006196394479212279040100143613805079739270465446667948293404245721771497210611414266254884915640806627990306816*v.2.1.toNat:=by
    simp only [W6.val]
    omega
   rw [hval]
   refine ⟨?_,e1⟩
   rw [<- hval] at e2
   exact Nat.lt_of_mul_lt_mul_left e2
theorem mtRaw_nat (a b:W6) (hb:b.val < pN):(mtRaw rowW fastP a b).2.1=0#64 /\ (mtRaw rowW fastP a b).1.val < b.val+pN /\ ∃ Q,39402006196394479212279040100143613805079739270465446667948293404245721771497210611414266254884915640806627990306816*(mtRaw rowW fastP a b).1.val=a.val*b.val+Q*pN:=by
 have zv:zero8.1.val=0:=rfl
 have hp:pN=4002409555221667393417789825735904156556882819939007885332058136124031650490837864442687629129015664037894272559787:=rfl
 unfold mtRaw
 obtain ⟨q1,y1,w1,l1,h1⟩:=mt_round b a.w0 zero8 rfl rfl hb (by rw [zv];exact Nat.lt_of_lt_of_le (by decide +kernel:0 < pN) (Nat.le_add_left _ _))
 generalize mtRound rowW fastP b a.w0 zero8=t1 at y1 w1 l1 h1 ⊢
 obtain ⟨q2,y2,w2,l2,h2⟩:=mt_round b a.w1 t1 y1 w1 hb l1
 generalize mtRound rowW fastP b a.w1 t1=t2 at y2 w2 l2 h2 ⊢
 obtain ⟨q3,y3,w3,l3,h3⟩:=mt_round b a.w2 t2 y2 w2 hb l2
 generalize mtRound rowW fastP b a.w2 t2=t3 at y3 w3 l3 h3 ⊢
 obtain ⟨q4,y4,w4,l4,h4⟩:=mt_round b a.w3 t3 y3 w3 hb l3
 generalize mtRound rowW fastP b a.w3 t3=t4 at y4 w4 l4 h4 ⊢
 obtain ⟨q5,y5,w5,l5,h5⟩:=mt_round b a.w4 t4 y4 w4 hb l4
 generalize mtRound rowW fastP b a.w4 t4=t5 at y5 w5 l5 h5 ⊢
 obtain ⟨q6,y6,w6,l6,h6⟩:=mt_round b a.w5 t5 y5 w5 hb l5
 generalize mtRound rowW fastP b a.w5 t5=t6 at y6 w6 l6 h6 ⊢
 refine ⟨y6,l6,q1+18446744073709551616*q2+340282366920938463463374607431768211456*q3+6277101735386680763835789423207666416102355444464034512896*q4+115792089237316195423570985008687907853269984665640564039457584007913129639936*q5+2135987035920910082395021706169552114602704522356652769947041607822219725780640550022962086936576*q6,?_⟩
 rw [zv,Nat.add_zero] at h1
 rw [hp] at h1 h2 h3 h4 h5 h6 ⊢
 have hb:a.val*b.val=(a.w0.toNat*b.val)+18446744073709551616*(a.w1.toNat*b.val)+340282366920938463463374607431768211456*(a.w2.toNat*b.val)+6277101735386680763835789423207666416102355444464034512896*(a.w3.toNat*b.val)+115792089237316195423570985008687907853269984665640564039457584007913129639936*(a.w4.toNat*b.val)+2135987035920910082395021706169552114602704522356652769947041607822219725780640550022962086936576*(a.w5.toNat*b.val):=by
  rw [Nat.mul_comm,val_mul]
  simp only [Nat.mul_comm b.val]
 rw [hb]
 exact raw_sum h1 h2 h3 h4 h5 h6
theorem lex_step {M a b x y:Nat} {c:Int} (hx:x < M) (hy:y < M) (h:c < 0 ↔ x < y):(if a < b then -1 else if b < a then 1 else c) < 0 ↔ x+M*a < y+M*b:=by
 rcases Nat.lt_trichotomy a b with h1 | h1 | h1
 . have h2:M*(a+1) <= M*b:=Nat.mul_le_mul_left M h1
   rw [Nat.mul_add,Nat.mul_one] at h2
   rw [if_pos h1]
   generalize M*a=u at *
   generalize M*b=v at *
   omega
 . subst h1
   rw [if_neg (Nat.lt_irrefl _),if_neg (Nat.lt_irrefl _),h]
   generalize M*a=u at *
   omega
 . have h2:M*(b+1) <= M*a:=Nat.mul_le_mul_left M h1
   rw [Nat.mul_add,Nat.mul_one] at h2
   rw [if_neg (Nat.lt_asymm h1),if_pos h1]
   generalize M*a=u at *
   generalize M*b=v at *
   omega
theorem lex_first {a b:Nat}:(if a < b then (-1:Int) else if b < a then 1 else 0) < 0 ↔ a < b:=by
 split
 . omega
 . split <;> omega
theorem cmW_ite (a b:W6):cmW a b=if a.w5.toNat < b.w5.toNat then -1 else if b.w5.toNat < a.w5.toNat then 1 else if a.w4.toNat < b.w4.toNat then -1 else if b.w4.toNat < a.w4.toNat then 1 else
 if a.w3.toNat < b.w3.toNat then -1 else if b.w3.toNat < a.w3.toNat then 1 else if a.w2.toNat < b.w2.toNat then -1 else if b.w2.toNat < a.w2.toNat then 1 else
 if a.w1.toNat < b.w1.toNat then -1 else if b.w1.toNat < a.w1.toNat then 1 else if a.w0.toNat < b.w0.toNat then -1 else if b.w0.toNat < a.w0.toNat then 1 else 0:=by
 simp only [cmW,cmpL,chainV,BitVec.ult,Bool.cond_decide]
theorem low_words (a0 a1 a2 a3 a4:BitVec 64):a0.toNat < 18446744073709551616 /\ a0.toNat+18446744073709551616*a1.toNat < 340282366920938463463374607431768211456 /\
 a0.toNat+18446744073709551616*a1.toNat+340282366920938463463374607431768211456*a2.toNat < 6277101735386680763835789423207666416102355444464034512896 /\
 a0.toNat+18446744073709551616*a1.toNat+340282366920938463463374607431768211456*a2.toNat+6277101735386680763835789423207666416102355444464034512896*a3.toNat < 115792089237316195423570985008687907853269984665640564039457584007913129639936 /\
 a0.toNat+18446744073709551616*a1.toNat+340282366920938463463374607431768211456*a2.toNat+6277101735386680763835789423207666416102355444464034512896*a3.toNat+115792089237316195423570985008687907853269984665640564039457584007913129639936*a4.toNat < 2135987035920910082395021706169552114602704522356652769947041607822219725780640550022962086936576:=by
 have g0:=a0.isLt;have g1:=a1.isLt;have g2:=a2.isLt;have g3:=a3.isLt;have g4:=a4.isLt
 refine ⟨?_,?_,?_,?_,?_⟩ <;> omega
theorem cmW_nat (a b:W6):cmW a b < 0 ↔ a.val < b.val:=by
 obtain ⟨f0,f1,f2,f3,f4⟩:=low_words a.w0 a.w1 a.w2 a.w3 a.w4
 obtain ⟨g0,g1,g2,g3,g4⟩:=low_words b.w0 b.w1 b.w2 b.w3 b.w4
 rw [cmW_ite]
 exact lex_step f4 g4 (lex_step f3 g3 (lex_step f2 g2 (lex_step f1 g1 (lex_step f0 g0 lex_first))))
theorem subs_lt (m:W6):(subs m primeW).2=decide (m.val < pN):=by
 have h1:=subs_nat m primeW
 rw [prime_val] at h1
 have hl:=(subs m primeW).1.val_lt
 have hm:=m.val_lt
 have hp:pN=4002409555221667393417789825735904156556882819939007885332058136124031650490837864442687629129015664037894272559787:=rfl
 rw [hp] at h1 ⊢
 cases hb:(subs m primeW).2 with
 | true =>
  rw [hb,show b2n true=1 from rfl] at h1
  exact (decide_eq_true (by omega)).symm
 | false =>
  rw [hb,show b2n false=0 from rfl] at h1
  exact (decide_eq_false (by omega)).symm
theorem less_cm (m:W6):(bif decide (cmW m primeW >= 0) then (rsubW m primeW).1 else m)=lessW m:=by
 unfold lessW
 rw [subs_lt,rsubW_eq]
 have h:=cmW_nat m primeW
 rw [prime_val] at h
 by_cases hm:m.val < pN
 . rw [decide_eq_true hm,decide_eq_false (by have:=h.2 hm;omega)];rfl
 . rw [decide_eq_false hm,decide_eq_true (by have:=mt h.1 hm;omega)];rfl
theorem belowI_nat (a:W6):belowI a=decide (a.val < pN):=by
 have h:=cmW_nat a primeW
 rw [prime_val] at h
 unfold belowI
 rw [show chainV (cmpL a primeW) 0=cmW a primeW from rfl]
 exact decide_eq_decide.2 h
theorem less_mod (m:W6) (h:m.val < 2*pN):(lessW m).val=m.val % pN:=by
 rw [lessW_nat m h]
 split
 . rename_i hl;exact (Nat.mod_eq_of_lt hl).symm
 . rename_i hn
   generalize pN=p at h hn ⊢
   rw [Nat.mod_eq_sub_mod (by omega),Nat.mod_eq_of_lt (by omega)]
theorem wide_mul {m x Q p R r:Nat} (hr:R*r % p=1) (h:R*m=x+Q*p):m % p=x*r % p:=by
 have h4:R*m % p=x % p:=by rw [h,Nat.add_mul_mod_self_right]
 have:m*(R*r) % p=m % p:=by rw [Nat.mul_mod,hr,Nat.mul_one,Nat.mod_mod]
 rw [<- this,show m*(R*r)=R*m*r by rw [<- Nat.mul_assoc,Nat.mul_comm m],Nat.mul_mod,h4,<- Nat.mul_mod]
theorem mont_less {R:W8} {f:W6} (h:R.2.1=0#64):(bif R.2.1 != bitW false then (rsubW R.1 f).1 else bif decide (cmW R.1 f >= 0) then (rsubW R.1 f).1 else R.1)=(bif decide (cmW R.1 f >= 0) then (rsubW R.1 f).1 else R.1):=by
 rw [h];rfl
theorem montW_nat (a b:W6) (hb:b.val < pN):(montW fastP a b).val=mulN a.val b.val:=by
 obtain ⟨h0,h1,Q,h2⟩:=mtRaw_nat a b hb
 have hm:montW fastP a b=lessW (mtRaw rowW fastP a b).1:=by
  unfold montW
  rw [show fastP.1=primeW from rfl,mont_less h0,less_cm]
 rw [hm,less_mod _ (Nat.lt_of_lt_of_le h1 (by rw [Nat.two_mul];exact Nat.add_le_add_right (Nat.le_of_lt hb) _))]
 unfold mulN
 exact wide_mul rinv_ok h2
theorem wide_twice:wideN*rinvN*rinvN % pN=1:=by decide +kernel
theorem mul_twice {a b r w p:Nat} (h:w*r*r % p=1):(a*b*r % p)*w*r % p=a*b % p:=by
 rw [Nat.mul_assoc,Nat.mul_mod,Nat.mod_mod,<- Nat.mul_mod,show a*b*r*(w*r)=a*b*(w*r*r) by simp only [Nat.mul_comm,Nat.mul_left_comm],Nat.mul_mod,h,Nat.mul_one,Nat.mod_mod]
theorem rmG_eq (M:Fa->W6->W6->W6) (f:Fa) (a b w:W6) (h:f.2.2=w):rmG M f a b=M f (M f a b) w:=by rw [<- h];rfl
theorem rmulW_two (a b:W6):rmulW fastP a b=montW fastP (montW fastP a b) wideW:=rmG_eq montW fastP a b wideW rfl
theorem rmulW_nat (a b:W6) (hb:b.val < pN):(rmulW fastP a b).val=a.val*b.val % pN:=by
 have h1:=montW_nat a b hb
 have h2:wideW.val < pN:=Nat.lt_of_le_of_lt (Nat.le_of_eq wide_val) wideN_lt
 have h3:=montW_nat (montW fastP a b) wideW h2
 rw [rmulW_two,h3,h1,wide_val]
 unfold mulN
 exact mul_twice wide_twice
theorem rfadd_eq (a b:W6):rfadd fastP a b=addW a b:=by
 unfold rfadd addW
 rw [show fastP.1=primeW from rfl,less_cm,raddW_eq]
theorem rfadd_nat {a b:W6} (ha:a.val < pN) (hb:b.val < pN):(rfadd fastP a b).val=(a.val+b.val) % pN:=by
 rw [rfadd_eq]
 exact (rep_add ⟨rfl,ha⟩ ⟨rfl,hb⟩).val
theorem rfneg_nat {a:W6} (ha:a.val < pN):(rfneg fastP a).val=(pN - a.val) % pN:=by
 have e:rfneg fastP a=bif eqW a zeroW then a else (rsubW primeW a).1:=rfl
 rw [e]
 cases hz:eqW a zeroW with
 | true =>
  have hz:=(eqW_iff a zeroW).1 hz
  subst hz
  rw [cond_true,zero_val,Nat.sub_zero,Nat.mod_self]
 | false =>
  rw [cond_false,rsubW_eq]
  have h1:=subs_nat primeW a
  rw [prime_val] at h1
  have hl:=(subs primeW a).1.val_lt
  have hb:=b2n_le (subs primeW a).2
  have h0:a.val ≠ 0:=by
   intro h
   have:a=zeroW:=W6.val_inj (by rw [h,zero_val])
   rw [(eqW_iff a zeroW).2 this] at hz
   cases hz
  have hp:pN=4002409555221667393417789825735904156556882819939007885332058136124031650490837864442687629129015664037894272559787:=rfl
  rw [hp] at h1 ha ⊢
  rw [Nat.mod_eq_of_lt (by omega)]
  generalize b2n (subs primeW a).2=c at *
  omega
theorem rfsub_nat {a b:W6} (ha:a.val < pN) (hb:b.val < pN):(rfsub fastP a b).val=(a.val+(pN - b.val) % pN) % pN:=by
 unfold rfsub
 have h:=rfneg_nat hb
 rw [rfadd_nat ha (by rw [h];exact Nat.mod_lt _ pN_pos),h]
end Go.Rq

namespace Go.Rq
open Go Go.Proofs
def radd2G (t:RO) (a b:D6):D6:=⟨t.ad t.fp a.a b.a,t.ad t.fp a.b b.b⟩
def rneg2G (t:RO) (a:D6):D6:=⟨t.ne t.fp a.a,t.ne t.fp a.b⟩
def rmul2G (t:RO) (a b:D6):D6:=⟨t.sb t.fp (t.mu t.fp a.a b.a) (t.mu t.fp a.b b.b),t.ad t.fp (t.mu t.fp a.a b.b) (t.mu t.fp a.b b.a)⟩
def rinv2G (t:RO) (a:D6):D6 :=
 let n:=t.iv t.fp (t.ad t.fp (t.mu t.fp a.a a.a) (t.mu t.fp a.b a.b))
 ⟨t.mu t.fp a.a n,t.ne t.fp (t.mu t.fp a.b n)⟩
set_option maxRecDepth 100000
def rsub2G (t:RO) (a b:D6):D6:=radd2G t a (rneg2G t b)
structure Th where
 x:D6
 y:D6
 z:D6
 one:Bool
def thmG (t:RO) (M2:D6->D6->D6) (p:Th) (a b:D6):D6:=bif p.one then ⟨t.mu t.fp a.a b.a,zeroW⟩ else M2 a b
def thmW:Th->D6->D6->D6:=thmG roO (rmul2G roO)
inductive Sm where | n2 | n3 | n4 | n8
def Sm.i:Sm->Int | .n2=>2 | .n3=>3 | .n4=>4 | .n8=>8
def Sm.n:Sm->Nat | .n2=>2 | .n3=>3 | .n4=>4 | .n8=>8
def timesA (A:D6->D6->D6) (a:D6):Nat->D6
 | 0=>⟨zeroW,zeroW⟩
 | k+1=>A (timesA A a k) a
def rtmW (a:D6) (s:Sm):D6:=timesA (radd2G roO) a s.n
structure TH where
 mu:Th->D6->D6->D6
 tm:D6->Sm->D6
 sb:D6->D6->D6
def thO:TH:=⟨thmW,rtmW,rsub2G roO⟩
def zeroD:D6:=⟨zeroW,zeroW⟩
def dblP (t:TH) (p:Th):Th :=
 let yy:=t.mu p p.y p.y
 let s:=t.tm (t.mu p p.x yy) .n4
 let m:=t.tm (t.mu p p.x p.x) .n3
 let x:=t.sb (t.mu p m m) (t.tm s .n2)
 ⟨x,t.sb (t.mu p m (t.sb s x)) (t.tm (t.mu p yy yy) .n8),t.tm (t.mu p p.y p.z) .n2,p.one⟩
def noneT (o:Bool):Th:=⟨zeroD,zeroD,zeroD,o⟩
def dblG (t:TH) (p:Th):Th:=bif eqD p.z zeroD then noneT p.one else bif eqD p.y zeroD then noneT p.one else dblP t p
def dblW:Th->Th:=dblG thO
def addP (t:TH) (_D:Th->Th) (p u:Th):Th :=
 let zz:=t.mu p p.z p.z
 let ux:=t.mu p u.x zz
 let uy:=t.mu p u.y (t.mu p zz p.z)
 let h:=t.sb ux p.x
 let k:=t.sb uy p.y
 let hh:=t.mu p h h
 let hhh:=t.mu p hh h
 let v:=t.mu p p.x hh
 let x:=t.sb (t.sb (t.mu p k k) hhh) (t.tm v .n2)
 ⟨x,t.sb (t.mu p k (t.sb v x)) (t.mu p p.y hhh),t.mu p p.z h,p.one⟩
def tAddH (t:TH) (p u:Th):D6:=t.sb (t.mu p u.x (t.mu p p.z p.z)) p.x
def tAddK (t:TH) (p u:Th):D6:=t.sb (t.mu p u.y (t.mu p (t.mu p p.z p.z) p.z)) p.y
def addG (t:TH) (D:Th->Th) (p u:Th):Th:=bif eqD p.z zeroD then u else bif eqD (tAddH t p u) zeroD then (bif eqD (tAddK t p u) zeroD then D p else noneT p.one) else addP t D p u
def taddW:Th->Th->Th:=addG thO dblW
end Go.Rq

namespace Go.Rq
open Go Go.Proofs
def twP (mu:Th->D6->D6->D6) (p:Th) (z:D6):D6 × D6 × Bool:=(mu p p.x (mu p z z),mu p p.y (mu p (mu p z z) z),true)
def twG (t:RO) (i2:D6->D6) (mu:Th->D6->D6->D6) (p:Th):D6 × D6 × Bool:=bif eqD p.z zeroD then (zeroD,zeroD,false) else bif p.one then twP mu p ⟨t.iv t.fp p.z.a,zeroW⟩ else twP mu p (i2 p.z)
def twW:Th->D6 × D6 × Bool:=twG roO (rinv2G roO) thmW
structure MO where
 dbl:Th->Th
 ad:Th->Th->Th
def moO:MO:=⟨dblW,taddW⟩
def multG (t:MO) (p:Th) (w:W6):Nat->Th->Th
 | 0,o=>o
 | k+1,o=>multG t p w k (bif w.bit k then t.ad (t.dbl o) p else t.dbl o)
def multW (p:Th) (w:W6) (len:Nat):Th:=multG moO p w (64*len) (noneT p.one)
set_option maxRecDepth 100000
end Go.Rq

namespace Go.Rq
open Go Go.Proofs
def wdK (ln:W6->Int) (n:W6):Int:=quo64 (IntKind.i64.wrap (ln n+63))
def wdL (ln:W6->Int) (n:W6):Nat:=(wdK ln n).toNat - 0
theorem wdK_eq (n:W6):wdK rlenI n=(rlenI n+63) / 64:=by
 have h:=rlenI_le n
 unfold wdK quo64
 rw [wrap_id (n:=rlenI n+63) (by omega) (by omega),Int.tdiv_eq_ediv_of_nonneg (by omega),wrap_id (by omega) (by omega)]
theorem wdL_le (n:W6):wdL rlenI n <= 6 /\ (rlenI n).toNat <= 64*wdL rlenI n:=by
 have h:=rlenI_le n
 unfold wdL
 rw [wdK_eq]
 omega
def thOf (p:Ap W6):Th:=⟨⟨p.x,zeroW⟩,⟨p.y,zeroW⟩,⟨numOne,zeroW⟩,true⟩
def manyG (tw:Th->D6 × D6 × Bool) (mu:Th->W6->Nat->Th) (p:Ap W6) (w:W6) (len:Nat):Ap W6 :=
 bif p.zero then p else bif !(tw (mu (thOf p) w len)).2.2 then ⟨zeroW,zeroW,true⟩ else ⟨(tw (mu (thOf p) w len)).1.a,(tw (mu (thOf p) w len)).2.1.a,false⟩
def manyW:Ap W6->W6->Nat->Ap W6:=manyG twW multW
def rmul1 (p:Ap W6) (n:W6):Ap W6:=manyW p n (wdL rlenI n)
def rin1G (ck:Ap W6->Bool) (od:W6) (ml:Ap W6->W6->Ap W6) (p:Ap W6):Bool:=bif ck p then (ml p od).zero else false
def rin1:Ap W6->Bool:=rin1G rcheck1 orderW rmul1
def noneP:Ap W6:=⟨zeroW,zeroW,false⟩
section
variable {K:Type} [Rg K] {iv:K->K} {e:K->K->Bool}
structure TRel (S:K->D6->Prop) (o:Bool) (e:K->K->Bool) (t:TH):Prop where
 mu:∀ {p:Th} {x y:K} {a b:D6},p.one=o->S x a->S y b->S (x*y) (t.mu p a b)
 tm:∀ {x:K} {a:D6} (s:Sm),S x a->S (tmK x s.n) (t.tm a s)
 sb:∀ {x y:K} {a b:D6},S x a->S y b->S (x - y) (t.sb a b)
 zero:S 0 zeroD
 eq:∀ {x y:K} {a b:D6},S x a->S y b->e x y=eqD a b
structure TJ (S:K->D6->Prop) (o:Bool) (p:Jp K) (q:Th):Prop where
 x:S p.x q.x
 y:S p.y q.y
 z:S p.z q.z
 one:q.one=o
variable {S:K->D6->Prop} {o:Bool} {t:TH}
theorem noneT_rel (h:TRel S o e t) {b:Bool} (hq:b=o):TJ S o noneJ (noneT b):=⟨h.zero,h.zero,h.zero,hq⟩
theorem dblF_rel (h:TRel S o e t) {p:Jp K} {q:Th} (hp:TJ S o p q):TJ S o (dblF p) (dblP t q):=by
 have yy:=h.mu hp.one hp.y hp.y
 have s:=h.tm .n4 (h.mu hp.one hp.x yy)
 have m:=h.tm .n3 (h.mu hp.one hp.x hp.x)
 have x:=h.sb (h.mu hp.one m m) (h.tm .n2 s)
 exact ⟨x,h.sb (h.mu hp.one m (h.sb s x)) (h.tm .n8 (h.mu hp.one yy yy)),h.tm .n2 (h.mu hp.one hp.y hp.z),hp.one⟩
theorem dbl_rel (h:TRel S o e t) {p:Jp K} {q:Th} (hp:TJ S o p q):TJ S o (dblK e p) (dblG t q):=by
 unfold dblK dblG
 rw [h.eq hp.z h.zero,h.eq hp.y h.zero]
 cases eqD q.z zeroD
 . cases eqD q.y zeroD
   . exact dblF_rel h hp
   . exact noneT_rel h hp.one
 . exact noneT_rel h hp.one
theorem hK_rel (h:TRel S o e t) {p u:Jp K} {q v:Th} (hp:TJ S o p q) (hu:TJ S o u v):S (hK p u) (tAddH t q v):=h.sb (h.mu hp.one hu.x (h.mu hp.one hp.z hp.z)) hp.x
theorem kK_rel (h:TRel S o e t) {p u:Jp K} {q v:Th} (hp:TJ S o p q) (hu:TJ S o u v):S (kK p u) (tAddK t q v):=h.sb (h.mu hp.one hu.y (h.mu hp.one (h.mu hp.one hp.z hp.z) hp.z)) hp.y
theorem addF_rel (h:TRel S o e t) {p u:Jp K} {q v:Th} (hp:TJ S o p q) (hu:TJ S o u v) (D:Th->Th):TJ S o (addF p u) (addP t D q v):=by
 have hh:=hK_rel h hp hu
 have k:=kK_rel h hp hu
 have h2:=h.mu hp.one hh hh
 have h3:=h.mu hp.one h2 hh
 have w:=h.mu hp.one hp.x h2
 have x:=h.sb (h.sb (h.mu hp.one k k) h3) (h.tm .n2 w)
 exact ⟨x,h.sb (h.mu hp.one k (h.sb w x)) (h.mu hp.one hp.y h3),h.mu hp.one hp.z hh,hp.one⟩
theorem add_rel (h:TRel S o e t) {p u:Jp K} {q v:Th} (hp:TJ S o p q) (hu:TJ S o u v):TJ S o (addK e p u) (addG t (dblG t) q v):=by
 unfold addK addG
 rw [h.eq hp.z h.zero,h.eq (hK_rel h hp hu) h.zero,h.eq (kK_rel h hp hu) h.zero]
 cases eqD q.z zeroD
 . cases eqD (tAddH t q v) zeroD
   . exact addF_rel h hp hu (dblG t)
   . cases eqD (tAddK t q v) zeroD
     . exact noneT_rel h hp.one
     . exact dbl_rel h hp
 . exact hu
theorem mult_rel (h:TRel S o e t) {p:Jp K} {q:Th} (hp:TJ S o p q) (w:W6):∀ (k:Nat) {u:Jp K} {v:Th},TJ S o u v->TJ S o (multK e w.bit p k u) (multG ⟨dblG t,addG t (dblG t)⟩ q w k v)
 | 0,u,v,hu=>hu
 | k+1,u,v,hu=>by
  simp only [multK,multG]
  apply mult_rel h hp w k
  cases w.bit k
  . exact dbl_rel h hu
  . exact add_rel h (dbl_rel h hu) hp
theorem two_rel (h:TRel S o e t) {r:RO} {i2:D6->D6} (hi:∀ {x:K} {a:D6},S x a->S (iv x) (bif o then ⟨r.iv r.fp a.a,zeroW⟩ else i2 a)) {p:Jp K} {q:Th} (hp:TJ S o p q) :
 (twG r i2 t.mu q).2.2=!(lowK iv e p).zero /\ S (lowK iv e p).x (twG r i2 t.mu q).1 /\ S (lowK iv e p).y (twG r i2 t.mu q).2.1:=by
 have low:∀ {d:D6},S (iv p.z) d->S (p.x*(iv p.z*iv p.z)) (twP t.mu q d).1 /\ S (p.y*((iv p.z*iv p.z)*iv p.z)) (twP t.mu q d).2.1:=fun {d} hd =>
  ⟨h.mu hp.one hp.x (h.mu hp.one hd hd),h.mu hp.one hp.y (h.mu hp.one (h.mu hp.one hd hd) hd)⟩
 unfold twG lowK
 rw [h.eq hp.z h.zero]
 cases eqD q.z zeroD
 . have hz:=hi hp.z
   rw [hp.one]
   cases ho:o
   . rw [ho,cond_false] at hz
     exact ⟨rfl,low hz⟩
   . rw [ho,cond_true] at hz
     exact ⟨rfl,low hz⟩
 . exact ⟨rfl,h.zero,h.zero⟩
end
theorem bit_out (n:W6) {i:Nat} (h:384 <= i):n.bit i=false:=by
 unfold W6.bit
 have:n.get (i / 64)=0#64:=by
  unfold W6.get
  rw [List.getD_eq_getElem?_getD,List.getElem?_eq_none (by simp;omega)]
  rfl
 rw [this,BitVec.zero_ushiftRight]
 rfl
theorem bitI_bit (n:W6) (i:Nat):(bitI n (i:Int) == 1)=n.bit i:=by
 unfold bitI
 rw [show decide ((i:Int) < 0)=false from decide_eq_false (by omega)]
 by_cases h:384 <= i
 . rw [show decide ((i:Int) >= 384)=true from decide_eq_true (by omega),bit_out n h];rfl
 . rw [show decide ((i:Int) >= 384)=false from decide_eq_false (by omega)]
   rw [show ((i:Int)).toNat=i from rfl]
   cases n.bit i <;> rfl
theorem rlenL_zero (B:W6->Int->Int) (n:W6):∀ (k i:Nat),i < k->chainV (rlenL B n k) 0 <= (i:Int)->(B n (i:Int) == 1)=false
 | 0,i,h,_=>by omega
 | k+1,i,h,hc=>by
  simp only [rlenL,chainV] at hc
  cases hb:B n (k:Int) == 1 with
  | true =>
   rw [hb,cond_true] at hc
   omega
  | false =>
   rw [hb,cond_false] at hc
   by_cases he:i=k
   . subst he;exact hb
   . exact rlenL_zero B n k i (by omega) hc
theorem rlen_bits (n:W6) {i:Nat} (h:(rlenI n).toNat <= i):n.bit i=false:=by
 by_cases hi:384 <= i
 . exact bit_out n hi
 . rw [<- bitI_bit]
   refine rlenL_zero bitI n 384 i (by omega) ?_
   have:=(rlenI_le n).1
   show rlenI n <= (i:Int)
   omega
theorem word_bit (w:BitVec 64) {j:Nat} (h:w.toNat < 2 ^ j):(((w >>> j) &&& 1#64) == 1#64)=false:=by
 have:w >>> j=0#64:=by
  apply BitVec.eq_of_toNat_eq
  rw [BitVec.toNat_ushiftRight,Nat.shiftRight_eq_div_pow,Nat.div_eq_of_lt h]
  rfl
 rw [this]
 rfl
theorem bl_bits {w:BitVec 64} {j:Nat} (h:bl w.toNat <= j):(((w >>> j) &&& 1#64) == 1#64)=false:=word_bit w (bl_spec.1 h)
theorem bl_le (x:BitVec 64):bl x.toNat <= 64:=bl_spec.2 x.isLt
theorem len_step {w:BitVec 64} {k:Int} {l:List (Bool × Int)} {i:Nat} (h0:0 <= k) (h1:k <= 320) (h:chainV ((w != 0#64,IntKind.i64.wrap (k+((bl w.toNat:Nat):Int))) :: l) 0 <= (i:Int)) :
 k+((bl w.toNat:Nat):Int) <= (i:Int) \/ (w=0#64 /\ chainV l 0 <= (i:Int)):=by
 have hb:=bl_le w
 simp only [chainV] at h
 cases hc:w != 0#64 with
 | true =>
  rw [hc,cond_true,wrap_id (by omega) (by omega)] at h
  exact .inl h
 | false =>
  rw [hc,cond_false] at h
  exact .inr ⟨by simpa using hc,h⟩
theorem len_bits (n:W6) {i:Nat} (h:(lenI n).toNat <= i):n.bit i=false:=by
 by_cases hi:384 <= i
 . exact bit_out n hi
 have h0:=(lenI_le n).1
 have h':lenI n <= (i:Int):=by omega
 have z:∀ j,(((0#64 >>> j) &&& 1#64) == 1#64)=false:=fun j=>word_bit 0#64 (by simp;exact Nat.two_pow_pos j)
 have hcases:i / 64=0 \/ i / 64=1 \/ i / 64=2 \/ i / 64=3 \/ i / 64=4 \/ i / 64=5:=by omega
 have gb:∀ {w:BitVec 64} {k:Nat},n.get (i / 64)=w->i / 64=k->64*(k:Int)+((bl w.toNat:Nat):Int) <= (i:Int)->n.bit i=false:=fun {w k} hw hk hl=>by
  unfold W6.bit
  rw [hw]
  exact bl_bits (by omega)
 have gz:n.get (i / 64)=0#64->n.bit i=false:=fun hw=>by
  unfold W6.bit
  rw [hw]
  exact z _
 have b0:=bl_le n.w0;have b1:=bl_le n.w1;have b2:=bl_le n.w2;have b3:=bl_le n.w3;have b4:=bl_le n.w4;have b5:=bl_le n.w5
 have up:∀ {m:Nat} {x:Nat},i / 64 < m->(64*m+x:Int) <= (i:Int)->False:=fun {m x} h1 h2=>by omega
 unfold lenI lenL at h'
 rcases len_step (by omega) (by omega) h' with h5 | ⟨z5,h'⟩
 . rcases hcases with c | c | c | c | c | c
   . exact (up (m:=5) (by omega) h5).elim
   . exact (up (m:=5) (by omega) h5).elim
   . exact (up (m:=5) (by omega) h5).elim
   . exact (up (m:=5) (by omega) h5).elim
   . exact (up (m:=5) (by omega) h5).elim
   . exact gb (by rw [c];rfl) c h5
 rcases len_step (by omega) (by omega) h' with h4 | ⟨z4,h'⟩
 . rcases hcases with c | c | c | c | c | c
   . exact (up (m:=4) (by omega) h4).elim
   . exact (up (m:=4) (by omega) h4).elim
   . exact (up (m:=4) (by omega) h4).elim
   . exact (up (m:=4) (by omega) h4).elim
   . exact gb (by rw [c];rfl) c h4
   . exact gz (by rw [c];exact z5)
 rcases len_step (by omega) (by omega) h' with h3 | ⟨z3,h'⟩
 . rcases hcases with c | c | c | c | c | c
   . exact (up (m:=3) (by omega) h3).elim
   . exact (up (m:=3) (by omega) h3).elim
   . exact (up (m:=3) (by omega) h3).elim
   . exact gb (by rw [c];rfl) c h3
   . exact gz (by rw [c];exact z4)
   . exact gz (by rw [c];exact z5)
 rcases len_step (by omega) (by omega) h' with h2 | ⟨z2,h'⟩
 . rcases hcases with c | c | c | c | c | c
   . exact (up (m:=2) (by omega) h2).elim
   . exact (up (m:=2) (by omega) h2).elim
   . exact gb (by rw [c];rfl) c h2
   . exact gz (by rw [c];exact z3)
   . exact gz (by rw [c];exact z4)
   . exact gz (by rw [c];exact z5)
 rcases len_step (by omega) (by omega) h' with h1 | ⟨z1,h'⟩
 . rcases hcases with c | c | c | c | c | c
   . exact (up (m:=1) (by omega) h1).elim
   . exact gb (by rw [c];rfl) c h1
   . exact gz (by rw [c];exact z2)
   . exact gz (by rw [c];exact z3)
   . exact gz (by rw [c];exact z4)
   . exact gz (by rw [c];exact z5)
 rcases len_step (by omega) (by omega) h' with h0 | ⟨z0,h'⟩
 . rcases hcases with c | c | c | c | c | c
   . exact gb (by rw [c];rfl) c h0
   . exact gz (by rw [c];exact z1)
   . exact gz (by rw [c];exact z2)
   . exact gz (by rw [c];exact z3)
   . exact gz (by rw [c];exact z4)
   . exact gz (by rw [c];exact z5)
 . rcases hcases with c | c | c | c | c | c
   . exact gz (by rw [c];exact z0)
   . exact gz (by rw [c];exact z1)
   . exact gz (by rw [c];exact z2)
   . exact gz (by rw [c];exact z3)
   . exact gz (by rw [c];exact z4)
   . exact gz (by rw [c];exact z5)
section
variable {K:Type} [Rg K] {iv:K->K} {e:K->K->Bool}
theorem times_run (f:Fl K) (p:Jp K) (n:W6):∀ (k:Nat) (u:Jp K),timesG (tOf (foK iv) e) f p n k u=runK iv e f n.bit p k u
 | 0,u=>rfl
 | k+1,u=>by
  show timesG (tOf (foK iv) e) f p n k (bif bitI n (k:Int) == 1 then sumE (foK iv) e f (twiceJ (foK iv) u) p else twiceJ (foK iv) u)=_
  rw [bitI_bit,times_run f p n k]
  rfl
def timesF (iv:K->K) (e:K->K->Bool) (f:Fl K) (p:Jp K) (n:W6):Jp K:=timesG (tOf (foK iv) e) f p n (lenI n).toNat ⟨f.one,f.one,0⟩
def gaF (iv:K->K) (e:K->K->Bool):GO K:=gOf (foK iv) e (timesF iv e)
theorem twice_none {u:Jp K} (hu:u.z=0):(twiceJ (foK iv) u).z=0:=by rw [twice_z,hu];exact rg [u.y]
theorem run_none (F:Fd K iv e) {f:Fl K} {b:Nat->Bool} {p:Jp K} (hp:p.z=0):∀ (k:Nat) {u:Jp K},u.z=0->(runK iv e f b p k u).z=0
 | 0,u,hu=>hu
 | k+1,u,hu=>by
  simp only [runK]
  apply run_none F hp k
  cases b k
  . exact twice_none hu
  . show (sumE (foK iv) e f (twiceJ (foK iv) u) p).z=0
    unfold sumE
    rw [show (foK iv).zero=(0:K) from rfl,F.eq.2 (twice_none hu)]
    exact hp
theorem low_none (F:Fd K iv e) {u:Jp K} (hu:u.z=0):lowerE (foK iv) e u=⟨0,0,true⟩:=by
 unfold lowerE
 rw [show (foK iv).zero=(0:K) from rfl,F.eq.2 hu]
 rfl
theorem sum_none (F:Fd K iv e) (f:Fl K) {u v:Jp K} (hu:u.z=0):sumE (foK iv) e f u v=v:=by
 unfold sumE
 rw [show (foK iv).zero=(0:K) from rfl,F.eq.2 hu]
 rfl
theorem times_low (F:Fd K iv e) {f:Fl K} (hf:f.one=1) {p:Ap K} (hp:p.zero=true->p=⟨0,0,true⟩) (n:W6) {l:Nat} (hl:(rlenI n).toNat <= l) :
 lowerE (foK iv) e (timesF iv e f (raiseJ (foK iv) f p) n)=bif p.zero then p else lowK iv e (multK e n.bit ⟨p.x,p.y,1⟩ l noneJ):=by
 unfold timesF
 rw [times_run]
 cases hz:p.zero with
 | true =>
  have hr:(raiseJ (foK iv) f p).z=0:=by unfold raiseJ;rw [hz];rfl
  rw [low_none F (run_none F hr _ rfl),cond_true]
  exact (hp hz).symm
 | false =>
  have hr:raiseJ (foK iv) f p=⟨p.x,p.y,1⟩:=by unfold raiseJ;rw [hz,hf];rfl
  rw [hr,cond_false]
  exact low_eq F (run_mult2 F rfl (fun i hi=>len_bits n hi) (fun i hi=>rlen_bits n (Nat.le_trans hl hi)) rfl rfl)
theorem ga1_low (F:Fd K iv e) {f:Fl K} (hf:f.one=1) {p:Ap K} (hp:p.zero=true->p=⟨0,0,true⟩) (hon:onE (foK iv) e f p=true) (n:W6) {l:Nat} (hl:(rlenI n).toNat <= l) :
 ga1 (gaF iv e) 0 f p n=(bif p.zero then p else lowK iv e (multK e n.bit ⟨p.x,p.y,1⟩ l noneJ),0):=by
 have h:ga1 (gaF iv e) 0 f p n=bif onE (foK iv) e f p then (lowerE (foK iv) e (sumE (foK iv) e f ⟨f.one,f.one,0⟩ (timesF iv e f (raiseJ (foK iv) f p) n)),0) else (⟨0,0,false⟩,5):=rfl
 rw [h,hon,cond_true,sum_none F f rfl,times_low F hf hp n hl]
theorem one_len:(lenI (ofW (bitW true))).toNat=1:=by decide +kernel
theorem one_bit:(ofW (bitW true)).bit 0=true:=by decide +kernel
theorem times_one (F:Fd K iv e) (f:Fl K) (p:Jp K):timesF iv e f p (ofW (bitW true))=p:=by
 unfold timesF
 rw [times_run,one_len]
 simp only [runK]
 rw [one_bit,cond_true,sum_none F f (twice_none rfl)]
theorem ga2_low (F:Fd K iv e) {f:Fl K} (hf:f.one=1) {p q:Ap K} (hp:p.zero=true->p=⟨0,0,true⟩) (hq:q.zero=true->q=⟨0,0,true⟩) (hon:onE (foK iv) e f p=true) (hoq:onE (foK iv) e f q=true) :
 ga2 (gaF iv e) 0 f (p,q) (ofW (bitW true),ofW (bitW true))=(sumA iv e p q,0):=by
 have h:ga2 (gaF iv e) 0 f (p,q) (ofW (bitW true),ofW (bitW true))=bif onE (foK iv) e f p then (bif onE (foK iv) e f q then (lowerE (foK iv) e (sumE (foK iv) e f (sumE (foK iv) e f ⟨f.one,f.one,0⟩ (timesF iv e f (raiseJ (foK iv) f p) (ofW (bitW true)))) (timesF iv e f (raiseJ (foK iv) f q) (ofW (bitW true)))),0) else (⟨0,0,false⟩,5)) else (⟨0,0,false⟩,5):=rfl
 have eqn:∀ {p:Ap K},onE (foK iv) e f p=true->p.zero=false->p.y*p.y=p.x*p.x*p.x+f.b:=fun {p} h1 h2=>by
  unfold onE at h1
  rw [h2,cond_false] at h1
  exact F.eq.1 h1
 rw [h,hon,hoq,cond_true,cond_true,times_one F,times_one F,sum_none F f (u:=⟨f.one,f.one,0⟩) rfl,sum_slope F hf hp hq (eqn hon) (eqn hoq)]
end
section
variable {K:Type} [Rg K] {iv:K->K} {e:K->K->Bool} {R:K->W6->Prop} {t:RO}
structure RRel (R:K->W6->Prop) (iv:K->K) (e:K->K->Bool) (t:RO):Prop where
 mu:∀ {x y:K} {a b:W6},R x a->R y b->R (x*y) (t.mu t.fp a b)
 ad:∀ {x y:K} {a b:W6},R x a->R y b->R (x+y) (t.ad t.fp a b)
 sb:∀ {x y:K} {a b:W6},R x a->R y b->R (x - y) (t.sb t.fp a b)
 ne:∀ {x:K} {a:W6},R x a->R (-x) (t.ne t.fp a)
 iv:∀ {x:K} {a:W6},R x a->R (iv x) (t.iv t.fp a)
 zero:R 0 zeroW
 one:R 1 numOne
 eq:∀ {x y:K} {a b:W6},R x a->R y b->e x y=eqW a b
 inj:∀ {x:K} {a b:W6},R x a->R x b->a=b
structure S1 (R:K->W6->Prop) (x:K) (d:D6):Prop where
 a:R x d.a
 b:d.b=zeroW
theorem RRel.cast {J:Type} {R:J->W6->Prop} {x y:J} {a:W6} (h:R x a) (e:x=y):R y a:=e ▸ h
theorem s1_add (h:RRel R iv e t) {x y:K} {a b:D6} (p:S1 R x a) (q:S1 R y b):S1 R (x+y) (radd2G t a b) :=
 ⟨h.ad p.a q.a,by
  show t.ad t.fp a.b b.b=zeroW
  rw [p.b,q.b]
  exact h.inj (RRel.cast (h.ad h.zero h.zero) (Rg.add_zero 0)) h.zero⟩
theorem s1_neg (h:RRel R iv e t) {x:K} {a:D6} (p:S1 R x a):S1 R (-x) (rneg2G t a) :=
 ⟨h.ne p.a,by
  show t.ne t.fp a.b=zeroW
  rw [p.b]
  exact h.inj (RRel.cast (h.ne h.zero) rg_neg_zero) h.zero⟩
theorem s1_sub (h:RRel R iv e t) {x y:K} {a b:D6} (p:S1 R x a) (q:S1 R y b):S1 R (x - y) (rsub2G t a b):=by
 have:=s1_add h p (s1_neg h q)
 rw [<- Rg.sub_eq x y] at this
 exact this
theorem s1_tm (h:RRel R iv e t) {x:K} {a:D6} (p:S1 R x a):∀ k:Nat,S1 R (tmK x k) (timesA (radd2G t) a k)
 | 0=>⟨h.zero,rfl⟩
 | k+1=>s1_add h (s1_tm h p k) p
def thG (t:RO):TH:=⟨thmG t (rmul2G t),fun a s=>timesA (radd2G t) a s.n,rsub2G t⟩
theorem trel1 (h:RRel R iv e t):TRel (S1 R) true e (thG t) where
 mu:=fun {p x y a b} ho ha hb=>by
  show S1 R (x*y) (bif p.one then ⟨t.mu t.fp a.a b.a,zeroW⟩ else rmul2G t a b)
  rw [ho]
  exact ⟨h.mu ha.a hb.a,rfl⟩
 tm s ha:=s1_tm h ha s.n
 sb ha hb:=s1_sub h ha hb
 zero:=⟨h.zero,rfl⟩
 eq:=fun {x y a b} ha hb=>by
  rw [eqW_D,ha.b,hb.b,h.eq ha.a hb.a,(eqW_iff zeroW zeroW).2 rfl]
  cases eqW a.a b.a <;> rfl
theorem lowK_zero {p:Jp K} (h:(lowK iv e p).zero=true):lowK iv e p=⟨0,0,true⟩:=by
 unfold lowK at h ⊢
 cases hz:e p.z 0 with
 | true=>rfl
 | false=>rw [hz] at h;cases h
def multOf (t:RO) (p:Th) (w:W6) (len:Nat):Th:=multG ⟨dblG (thG t),addG (thG t) (dblG (thG t))⟩ p w (64*len) (noneT p.one)
def manyOf (t:RO):Ap W6->W6->Nat->Ap W6:=manyG (twG t (rinv2G t) (thmG t (rmul2G t))) (multOf t)
theorem many_rel (h:RRel R iv e t) {P:Ap K} {p:Ap W6} (hp:RA R P p) (n:W6) (len:Nat):RA R (bif P.zero then P else lowK iv e (multK e n.bit ⟨P.x,P.y,1⟩ (64*len) noneJ)) (manyOf t p n len):=by
 have hT:=trel1 h
 unfold manyOf manyG
 rw [hp.z]
 cases hz:p.zero with
 | true=>exact hp
 | false =>
  rw [cond_false,cond_false]
  have hb:TJ (S1 R) true ⟨P.x,P.y,1⟩ (thOf p):=⟨⟨hp.x,rfl⟩,⟨hp.y,rfl⟩,⟨h.one,rfl⟩,rfl⟩
  have hm:=mult_rel hT hb n (64*len) (noneT_rel hT (b:=true) rfl)
  have hi:∀ {x:K} {a:D6},S1 R x a->S1 R (iv x) (bif true then ⟨t.iv t.fp a.a,zeroW⟩ else rinv2G t a):=fun hx=>⟨h.iv hx.a,rfl⟩
  obtain ⟨h1,h2,h3⟩:=two_rel hT (r:=t) hi hm
  have h1':(twG t (rinv2G t) (thmG t (rmul2G t)) (multOf t (thOf p) n len)).2.2=!(lowK iv e (multK e n.bit ⟨P.x,P.y,1⟩ (64*len) noneJ)).zero:=h1
  rw [h1',Bool.not_not]
  cases hl:(lowK iv e (multK e n.bit ⟨P.x,P.y,1⟩ (64*len) noneJ)).zero with
  | true =>
   rw [lowK_zero hl]
   exact ⟨h.zero,h.zero,rfl⟩
  | false=>exact ⟨h2.a,h3.a,hl⟩
theorem rcheck_rel (h:RRel R iv e t) {f:Fl K} (hf:R f.b (ofW 4#64)) {P:Ap K} {p:Ap W6} (hp:RA R P p) {bl:W6->Bool} (h1:bl p.x=true) (h2:bl p.y=true) :
 rcheckG t bl (rsideG t) p=onE (foK iv) e f P:=by
 have hs:eqW (t.mu t.fp p.y p.y) (rsideG t p.x)=e (P.y*P.y) (P.x*P.x*P.x+f.b):=(h.eq (h.mu hp.y hp.y) (h.ad (h.mu (h.mu hp.x hp.x) hp.x) hf)).symm
 unfold rcheckG onE
 rw [hp.z,h1,h2,foK_zero,<- h.eq hp.x h.zero,<- h.eq hp.y h.zero,hs]
 rfl
theorem eqP13_iff (a b:Ap W6):eqP13 a b=true ↔ a=b:=by
 obtain ⟨⟨a0,a1,a2,a3,a4,a5⟩,⟨a6,a7,a8,a9,a10,a11⟩,az⟩:=a
 obtain ⟨⟨b0,b1,b2,b3,b4,b5⟩,⟨b6,b7,b8,b9,b10,b11⟩,bz⟩:=b
 simp [eqP13,and_assoc]
theorem ra_eq (h:RRel R iv e t) {A B:Ap K} {a b:Ap W6} (ha:RA R A a) (hb:RA R B b):eqP13 a b=eqA e A B:=by
 rw [Bool.eq_iff_iff,eqP13_iff]
 unfold eqA
 rw [h.eq ha.x hb.x,h.eq ha.y hb.y,ha.z,hb.z]
 simp only [Bool.and_eq_true,eqW_iff,beq_iff_eq]
 obtain ⟨ax,ay,az⟩:=a
 obtain ⟨bx,bY,bz⟩:=b
 simp
theorem rneg_rel (h:RRel R iv e t) {A:Ap K} {a:Ap W6} (ha:RA R A a):RA R (negK A) (rneg1G t a):=⟨ha.x,h.ne ha.y,ha.z⟩
theorem rchord_rel (h:RRel R iv e t) {A B:Ap K} {a b:Ap W6} (ha:RA R A a) (hb:RA R B b) {m:K} {w:W6} (hm:R m w):RA R (chordK A B m) (rchord t a b w):=by
 have x:=h.sb (h.sb (h.mu hm hm) ha.x) hb.x
 exact ⟨x,h.sb (h.mu hm (h.sb ha.x x)) ha.y,rfl⟩
theorem radd_rel (h:RRel R iv e t) {A B:Ap K} {a b:Ap W6} (ha:RA R A a) (hb:RA R B b):RA R (sumA iv e A B) (radd1G t (rneg1G t) a b):=by
 unfold sumA radd1G
 rw [ha.z,hb.z,ra_eq h ha (rneg_rel h hb),ra_eq h ha hb]
 cases a.zero
 . cases b.zero
   . cases eqA e A (negK B)
     . cases eqA e A B
       . exact rchord_rel h ha hb (h.mu (h.sb hb.y ha.y) (h.iv (h.sb hb.x ha.x)))
       . have s:=h.mu ha.x ha.x
         exact rchord_rel h ha hb (h.mu (h.ad (h.ad s s) s) (h.iv (h.ad ha.y ha.y)))
     . exact ⟨h.zero,h.zero,rfl⟩
   . exact ha
 . exact hb
theorem ra_inj (h:RRel R iv e t) {A:Ap K} {a b:Ap W6} (ha:RA R A a) (hb:RA R A b):a=b:=by
 obtain ⟨ax,ay,az⟩:=a
 obtain ⟨bx,bY,bz⟩:=b
 have h1:=h.inj ha.x hb.x
 have h2:=h.inj ha.y hb.y
 have h3:=ha.z.symm.trans hb.z
 simp at h1 h2 h3
 rw [h1,h2,h3]
end
theorem on_none {K:Type} [Rg K] {iv:K->K} {e:K->K->Bool} (F:Fd K iv e) {f:Fl K} {p:Ap K} (h:onE (foK iv) e f p=true) (hz:p.zero=true):p=⟨0,0,true⟩:=by
 unfold onE at h
 rw [hz,cond_true,foK_zero] at h
 obtain ⟨x,y,z⟩:=p
 simp only at h hz
 cases h1:e x 0 with
 | false=>rw [h1] at h;cases h
 | true =>
  rw [h1,cond_true] at h
  rw [F.eq.1 h1,F.eq.1 h,hz]
structure Lk {K:Type} [Rg K] (iv:K->K) (e:K->K->Bool) (M P:K->W6->Prop) (f:Fl K):Prop where
 F:Fd K iv e
 rel:FRel M (foK iv) fW e eqW
 m1:M 1 oneW
 m0:M 0 zeroW
 to:∀ {x:K} {w:W6},P x w->M x (toW w)
 fr:∀ {x:K} {w:W6},M x w->P x (fromW w)
 of:∀ {w:W6},w.val < pN->∃ x,P x w
 ref:RRel P iv e roO
 f1:f.one=1
 fb:P f.b (ofW 4#64)
section
variable {K:Type} [Rg K] {iv:K->K} {e:K->K->Bool} {M P:K->W6->Prop} {f:Fl K}
theorem fl_of {J:Type} {Q M:J->W6->Prop} {t:W6->W6} (ht:∀ {x:J} {w:W6},Q x w->M x (t w)) {f:Fl J} {o w:W6} (h1:M f.one o) (hb:Q f.b w):RFl M f ⟨o,t w⟩:=⟨h1,ht hb⟩
theorem ra_of {J:Type} {Q M:J->W6->Prop} {t:W6->W6} (ht:∀ {x:J} {w:W6},Q x w->M x (t w)) {A:Ap J} {p:Ap W6} (h:RA Q A p):RA M A ⟨t p.x,t p.y,p.zero⟩:=⟨ht h.x,ht h.y,h.z⟩
theorem Lk.fl (L:Lk iv e M P f):RFl M f fld1:=by
 unfold fld1
 exact fl_of (Q:=P) (M:=M) (t:=toW) L.to (by rw [L.f1];exact L.m1) L.fb
theorem Lk.inn (L:Lk iv e M P f) {A:Ap K} {p:Ap W6} (h:RA P A p):RA M A (inP1 p):=by
 unfold inP1
 exact ra_of (Q:=P) (M:=M) (t:=toW) L.to h
theorem Lk.out (L:Lk iv e M P f) {A:Ap K} {p:Ap W6} (h:RA M A p):RA P A (outP1 p):=by
 unfold outP1
 exact ra_of (Q:=M) (M:=P) (t:=fromW) L.fr h
theorem Lk.times (L:Lk iv e M P f) {f:Fl K} {g:Fl W6} {p:Jp K} {q:Jp W6} (hf:RFl M f g) (hp:RJ M p q) (n:W6):RJ M (timesF iv e f p n) (timesW g q n):=by
 unfold timesF timesW
 exact times_rel L.rel hf hp n _ ⟨hf.one,hf.one,L.m0⟩
theorem Lk.ga (L:Lk iv e M P f):GRel M (gaF iv e) gaOW:=g_rel L.rel L.times
theorem Lk.below (L:Lk iv e M P f) {p:Ap W6} (h:belowP1 p=true):∃ A:Ap K,RA P A p:=by
 unfold belowP1 at h
 cases hx:belowI p.x with
 | false=>rw [hx] at h;cases h
 | true =>
  rw [hx,cond_true] at h
  rw [belowI_nat] at hx h
  obtain ⟨x,h1⟩:=L.of (of_decide_eq_true hx)
  obtain ⟨y,h2⟩:=L.of (of_decide_eq_true h)
  exact ⟨⟨x,y,p.zero⟩,h1,h2,rfl⟩
theorem zero_below:belowI zeroW=true:=by rw [belowI_nat];decide +kernel
theorem Lk.check (L:Lk iv e M P f) (p:Ap W6):checkP1 p=rcheck1 p:=by
 unfold checkP1
 cases hb:belowP1 p with
 | true =>
  obtain ⟨A,hP⟩:=L.below hb
  unfold belowP1 at hb
  have hx:belowI p.x=true:=by
   cases hx:belowI p.x with
   | false=>rw [hx] at hb;cases hb
   | true=>rfl
  rw [hx,cond_true] at hb
  rw [cond_true,<- on_rel L.rel L.fl (L.inn hP)]
  exact (rcheck_rel L.ref L.fb hP hx hb).symm
 | false =>
  rw [cond_false]
  unfold rcheck1 rcheckG
  unfold belowP1 at hb
  cases hz:p.zero with
  | true =>
   rw [cond_true]
   cases hx:eqW p.x zeroW with
   | false=>rfl
   | true =>
    cases hy:eqW p.y zeroW with
    | false=>rfl
    | true =>
     rw [(eqW_iff _ _).1 hx,(eqW_iff _ _).1 hy,zero_below] at hb
     cases hb
  | false =>
   rw [cond_false]
   cases hx:belowI p.x with
   | false=>rfl
   | true =>
    rw [hx,cond_true] at hb
    rw [hb];rfl
theorem Lk.point (L:Lk iv e M P f) {p:Ap W6} (h:rcheck1 p=true):belowP1 p=true /\ ∃ A:Ap K,RA P A p /\ onE (foK iv) e f A=true:=by
 rw [<- L.check] at h
 unfold checkP1 at h
 cases hb:belowP1 p with
 | false=>rw [hb] at h;cases h
 | true =>
  obtain ⟨A,hP⟩:=L.below hb
  rw [hb,cond_true,<- on_rel L.rel L.fl (L.inn hP)] at h
  exact ⟨rfl,A,hP,h⟩
theorem Lk.on (L:Lk iv e M P f) {p:Ap W6} (h:rcheck1 p=true):onE fW eqW fld1 (inP1 p)=true:=by
 obtain ⟨-,A,hP,hon⟩:=L.point h
 rw [<- on_rel L.rel L.fl (L.inn hP)]
 exact hon
theorem Lk.off (L:Lk iv e M P f) {p:Ap W6} (h:rcheck1 p=false) (hb:belowP1 p=true):onE fW eqW fld1 (inP1 p)=false:=by
 rw [<- L.check] at h
 unfold checkP1 at h
 rw [hb,cond_true] at h
 exact h
theorem Lk.rmul (L:Lk iv e M P f) {A:Ap K} {p:Ap W6} (hp:RA P A p) (n:W6):RA P (bif A.zero then A else lowK iv e (multK e n.bit ⟨A.x,A.y,1⟩ (64*wdL rlenI n) noneJ)) (rmul1 p n):=many_rel L.ref hp n (wdL rlenI n)
theorem Lk.n0 (L:Lk iv e M P f):fromW zeroW=zeroW:=L.ref.inj (L.fr L.m0) L.ref.zero
theorem Lk.nn (L:Lk iv e M P f):((outP1 ⟨zeroW,zeroW,false⟩,5):Ap W6 × Int)=(noneP,5):=by
 unfold outP1
 rw [L.n0]
 rfl
theorem sum1_def (p:Ap W6) (n:W6):sumP1W p n=bif belowP1 p then (outP1 (ga1 gaOW zeroW fld1 (inP1 p) n).1,(ga1 gaOW zeroW fld1 (inP1 p) n).2) else (noneP,5):=by unfold sumP1W sm1 suOW gath1W;rfl
theorem ga1_def (p:Ap W6) (n:W6) (h:onE fW eqW fld1 p=false):ga1 gaOW zeroW fld1 p n=(⟨zeroW,zeroW,false⟩,5):=by
 have hg:ga1 gaOW zeroW fld1 p n=bif onE fW eqW fld1 p then (gaOW.lo fld1 (gaOW.su fld1 ⟨fld1.one,fld1.one,zeroW⟩ (gaOW.ti fld1 (gaOW.ra fld1 p) n)),0) else (⟨zeroW,zeroW,false⟩,5):=rfl
 rw [hg,h];rfl
def unitN:W6 × W6:=(ofW (bitW true),ofW (bitW true))
theorem add1_def (p q:Ap W6):addP1 p q=bif belowP1 p then (bif belowP1 q then (outP1 (ga2 gaOW zeroW fld1 (inP1 p,inP1 q) unitN).1,(ga2 gaOW zeroW fld1 (inP1 p,inP1 q) unitN).2) else (noneP,5)) else (noneP,5):=by
 unfold addP1 sumP2W sm2 suOW gath2W;rfl
theorem ga2_defA (p q:Ap W6) (n:W6 × W6) (h:onE fW eqW fld1 p=false):ga2 gaOW zeroW fld1 (p,q) n=(⟨zeroW,zeroW,false⟩,5):=by
 have hg:ga2 gaOW zeroW fld1 (p,q) n=bif onE fW eqW fld1 p then (bif onE fW eqW fld1 q then
  (gaOW.lo fld1 (gaOW.su fld1 (gaOW.su fld1 ⟨fld1.one,fld1.one,zeroW⟩ (gaOW.ti fld1 (gaOW.ra fld1 p) n.1)) (gaOW.ti fld1 (gaOW.ra fld1 q) n.2)),0) else (⟨zeroW,zeroW,false⟩,5)) else (⟨zeroW,zeroW,false⟩,5):=rfl
 rw [hg,h];rfl
theorem ga2_defB (p q:Ap W6) (n:W6 × W6) (h:onE fW eqW fld1 q=false):ga2 gaOW zeroW fld1 (p,q) n=(⟨zeroW,zeroW,false⟩,5):=by
 have hg:ga2 gaOW zeroW fld1 (p,q) n=bif onE fW eqW fld1 p then (bif onE fW eqW fld1 q then
  (gaOW.lo fld1 (gaOW.su fld1 (gaOW.su fld1 ⟨fld1.one,fld1.one,zeroW⟩ (gaOW.ti fld1 (gaOW.ra fld1 p) n.1)) (gaOW.ti fld1 (gaOW.ra fld1 q) n.2)),0) else (⟨zeroW,zeroW,false⟩,5)) else (⟨zeroW,zeroW,false⟩,5):=rfl
 rw [hg,h]
 cases onE fW eqW fld1 p <;> rfl
theorem Lk.mul (L:Lk iv e M P f) (p:Ap W6) (n:W6):sumP1W p n=bif rcheck1 p then (rmul1 p n,0) else (noneP,5):=by
 rw [sum1_def]
 cases hc:rcheck1 p with
 | true =>
  obtain ⟨hb,A,hP,hon⟩:=L.point hc
  obtain ⟨h1,h2⟩:=ga1_rel L.ga L.m0 L.fl (L.inn hP) n
  have h3:=ga1_low L.F L.f1 (on_none L.F hon) hon n (wdL_le n).2
  rw [h3] at h1 h2
  rw [hb,cond_true,cond_true,<- h2,ra_inj L.ref (L.out h1) (L.rmul hP n)]
 | false =>
  rw [cond_false]
  cases hb:belowP1 p with
  | false=>rfl
  | true =>
   rw [cond_true,ga1_def _ n (L.off hc hb)]
   exact L.nn
theorem Lk.add (L:Lk iv e M P f) (p q:Ap W6):addP1 p q=bif rcheck1 p then (bif rcheck1 q then (radd1 p q,0) else (Go.Rq.noneP,5)) else (Go.Rq.noneP,5):=by
 rw [add1_def]
 cases hc:rcheck1 p with
 | false =>
  rw [cond_false]
  cases hb:belowP1 p with
  | false=>rfl
  | true =>
   cases hb2:belowP1 q with
   | false=>rfl
   | true =>
    rw [cond_true,cond_true,ga2_defA _ _ _ (L.off hc hb)]
    exact L.nn
 | true =>
  rw [cond_true,(L.point hc).1,cond_true]
  cases hd:rcheck1 q with
  | false =>
   rw [cond_false]
   cases hb2:belowP1 q with
   | false=>rfl
   | true =>
    rw [cond_true,ga2_defB _ _ _ (L.off hd hb2)]
    exact L.nn
  | true =>
   rw [cond_true,(L.point hd).1,cond_true]
   obtain ⟨-,A,hP,hon⟩:=L.point hc
   obtain ⟨-,B,hQ,hoq⟩:=L.point hd
   obtain ⟨h1,h2⟩:=ga2_rel L.ga L.m0 L.fl (x:=(A,B)) (y:=(inP1 p,inP1 q)) (L.inn hP) (L.inn hQ) unitN
   have h3:ga2 (gaF iv e) 0 f (A,B) unitN=(sumA iv e A B,0):=ga2_low L.F L.f1 (on_none L.F hon) (on_none L.F hoq) hon hoq
   rw [h3] at h1 h2
   have h4:RA P (sumA iv e A B) (radd1 p q):=radd_rel L.ref hP hQ
   rw [<- h2,ra_inj L.ref (L.out h1) h4]
theorem Lk.neg (L:Lk iv e M P f) (p:Ap W6):negP1 p=bif rcheck1 p then (rneg1G roO p,0) else (Go.Rq.noneP,5):=by
 unfold negP1
 rw [L.check]
 cases hc:rcheck1 p with
 | false=>rw [Bool.not_false,cond_true,cond_false];rfl
 | true =>
  obtain ⟨-,A,hP,-⟩:=L.point hc
  have h1:=L.out (neg_rel L.rel (L.inn hP))
  have h2:negE (foK iv) A=negK A:=by
   unfold negE negK
   rw [foK_zero,foK_sub]
   congr 1
   rw [Rg.sub_eq]
   exact rg_zero_add _
  rw [h2] at h1
  rw [ra_inj L.ref h1 (rneg_rel L.ref hP),Bool.not_true,cond_false,cond_true]
theorem rin1_def (p:Ap W6):rin1 p=bif rcheck1 p then (rmul1 p orderW).zero else false:=by unfold rin1 rin1G;rfl
theorem inGroup_def (p:Ap W6):inGroup1 p=bif belowP1 p then (bif onE fW eqW fld1 (inP1 p) then (lowerE fW eqW (timesW fld1 (raiseJ fW fld1 (inP1 p)) orderW)).zero else false) else false:=by
 unfold inGroup1 inEW inGW lowFW;rfl
theorem Lk.ing (L:Lk iv e M P f) (p:Ap W6):inGroup1 p=bif rcheck1 p then rin1 p else false:=by
 rw [inGroup_def,rin1_def]
 cases hc:rcheck1 p with
 | true =>
  obtain ⟨hb,A,hP,hon⟩:=L.point hc
  have h1:=lower_rel L.rel (L.times L.fl (raise_rel L.rel L.fl (L.inn hP)) orderW)
  rw [times_low L.F L.f1 (on_none L.F hon) orderW (wdL_le orderW).2] at h1
  rw [hb,cond_true,L.on hc,cond_true,cond_true,cond_true,<- h1.z,(L.rmul hP orderW).z]
 | false =>
  rw [cond_false]
  cases hb:belowP1 p with
  | false=>rfl
  | true =>
   rw [L.off hc hb];rfl
end
theorem pow_rel {K:Type} [Rg K] {R:K->W6->Prop} {t:PO} {f:Fa} {a e:W6} (hm:∀ {x y:K} {v w:W6},R x v->R y w->R (x*y) (t.mu f v w)) {x:K} (h:R x a) :
 ∀ (k:Nat) {y:K} {o:Option W6},R y (ovP o)->R (pwB (fun i=>t.bt e (i:Int) == 1) x k y) (ovP (powR t f a e k o))
 | 0,y,o,hy=>hy
 | k+1,y,o,hy=>by
  simp only [pwB,powR]
  apply pow_rel hm h k
  cases t.bt e (k:Int) == 1
  . exact hm hy hy
  . exact hm (hm hy hy) h
theorem rp_mul {x y:F1} {a b:W6} (h:RP x a) (k:RP y b):RP (x*y) (rmulW fastP a b):=rp_of_mul h k (rmulW_nat a b (rp_lt k))
theorem exp_eq:(rsubW primeW numTwo).1=expInv:=by decide +kernel
theorem exp_len:(rlenI expInv).toNat=381:=by decide +kernel
theorem exp_bitsI:bitsV (fun i=>bitI expInv (i:Int) == 1) 381=pN - 2:=by decide +kernel
theorem rpoO_mu:rpoO.mu=rmulW:=by simp only [rpoO]
theorem rpoO_bt:rpoO.bt=bitI:=by simp only [rpoO]
theorem roO_fp:roO.fp=fastP:=by simp only [roO]
theorem roO_mu:roO.mu=rmulW:=by simp only [roO]
theorem roO_ad:roO.ad=rfadd:=by simp only [roO]
theorem roO_sb:roO.sb=rfsub:=by simp only [roO]
theorem roO_ne:roO.ne=rfneg:=by simp only [roO]
theorem roO_iv:roO.iv=rinvW:=by simp only [roO]
theorem rinvW_pow (a:W6):rinvW fastP a=ovP (powR rpoO fastP a expInv 381 none):=by
 unfold rinvW rpowW rpowO
 rw [show fastP.1=primeW from rfl,exp_eq,exp_len]
theorem rp_inv {x:F1} {a:W6} (h:RP x a):RP (iv1 x) (rinvW fastP a):=by
 have h1:=pow_rel (K:=F1) (R:=RP) (t:=rpoO) (f:=fastP) (e:=expInv) (fun h k=>by rw [rpoO_mu];exact rp_mul h k) h 381 (y:=1) (o:=none) (rp_of_one (by decide +kernel))
 rw [rpoO_bt,pwB_one exp_bitsI] at h1
 rw [rinvW_pow,iv1_pow]
 exact h1
theorem rrel1:RRel RP iv1 eq1 roO where
 mu:=fun h k=>by rw [roO_mu,roO_fp];exact rp_mul h k
 ad:=fun {x y a b} h k=>by
  have hv:=rfadd_nat (rp_lt h) (rp_lt k)
  rw [roO_ad,roO_fp]
  generalize rfadd fastP a b=w at hv ⊢
  exact rp_of_add h k hv
 sb:=fun {x y a b} h k=>by
  have hv:=rfsub_nat (rp_lt h) (rp_lt k)
  rw [roO_sb,roO_fp]
  generalize rfsub fastP a b=w at hv ⊢
  exact rp_of_sub h k hv
 ne:=fun {x a} h=>by
  have hv:=rfneg_nat (rp_lt h)
  rw [roO_ne,roO_fp]
  generalize rfneg fastP a=w at hv ⊢
  exact rp_of_neg h hv
 iv:=fun h=>by rw [roO_iv,roO_fp];exact rp_inv h
 zero:=rp_zero
 one:=rp_of_one (by decide +kernel)
 eq:=fun h k=>rp_eq h k
 inj:=fun h k=>rp_inj h k
theorem four_lt:(ofW 4#64).val < pN:=by decide +kernel
abbrev Mo:Type:=W6 × BitVec 64 × W6
def afunP (P:Program) (E:Env) (sym:List Tmp) (lf f:Nat) (t:TypeId) (x:Mo) (args:List AV):Tree AV:=(afun P E sym (fun _=>none) lf f (.ptr 0 0 :: args) (oneAH cFa t x) 1).bind fun q=>.leaf q.1
theorem givesPh {P:Program} {E:Env} {sym:List Tmp} {lf f:Nat} {t:TypeId} {x:Mo} {args:List AV} {u:Tree AV} {v:Value} (e:(afunP P E sym lf f t x args).strict=u) (hu:u.holds (fun q=>flat q=some v)) :
 GivesH (afun P E sym (fun _=>none) lf f (.ptr 0 0 :: args) (oneAH cFa t x) 1) v:=⟨Tree.holds_bind (Tree.holds_strict (by rw [show ((afun P E sym (fun _=>none) lf f (.ptr 0 0 :: args) (oneAH cFa t x) 1).bind fun q=>Tree.leaf q.1).strict=u from e];exact hu))⟩
def moNone (m:Mo):Bool:=m.2.1 == 0#64
noncomputable def mnE:Env:=envH eqsT [] []
theorem mnE_ok:EnvOk PR mnE:=envH_ok eqsT_ok TabPOk.nil TabHOk.nil
theorem mn_run (m:Mo):(afunP PR mnE [] 10 122 163 m []).strict=.leaf (kBool.enc (moNone m)):=by kernel_rfl
theorem mn_ent:Enters PR 122:=entersB (by kernel_rfl)
theorem mn_ok:HeapOk PR 122 (rdp 163 cFa mc0 kBool (fun m _=>moNone m)) :=
 rdp_ok (E:=mnE) (sym:=[]) (lf:=10) mnE_ok mixed (fn:=Tryz.f122) (c:=bodyOf PR 122) (by kernel_rfl) (by kernel_rfl) (by kernel_rfl) (fun m z=>givesPh (mn_run m) (holds_leaf (kBool.h1 _)))
noncomputable def mlE0 (sb:W6->W6->W6 × Bool):Env:=envH eqsT [(106,fn2 c6.agg c6.agg kWB sb)] []
theorem ml_run (sb:W6->W6->W6 × Bool) (m:Mo) (x:W6):(afunP PR (mlE0 sb) [17] 10 124 163 m [c6.agg.enc x]).strict =
 .br (!(sb x m.1).2) (.leaf (c6.agg.enc (sb x m.1).1)) (.leaf (c6.agg.enc x)):=by kernel_rfl
def moLess (sb:W6->W6->W6 × Bool) (m:Mo) (x:W6):W6:=bif !(sb x m.1).2 then (sb x m.1).1 else x
def mcG (M:BitVec 64->BitVec 64->BitVec 64 × BitVec 64) (S:BitVec 64->BitVec 64->Bool->BitVec 64 × Bool) (a y u c:BitVec 64):BitVec 64 × BitVec 64 :=
 let p:=M a y;let s:=S p.2 u false;let h:=p.1+bitW s.2;let r:=S s.1 c false;(r.1,h+bitW r.2)
def moRound (M:BitVec 64->BitVec 64->BitVec 64 × BitVec 64) (S:BitVec 64->BitVec 64->Bool->BitVec 64 × Bool) (m:Mo) (b:W6) (x:BitVec 64) (t:W8):W8 :=
 let r0:=mcG M S x b.w0 t.1.w0 (bitW false)
 let r1:=mcG M S x b.w1 t.1.w1 r0.2
 let r2:=mcG M S x b.w2 t.1.w2 r1.2
 let r3:=mcG M S x b.w3 t.1.w3 r2.2
 let r4:=mcG M S x b.w4 t.1.w4 r3.2
 let r5:=mcG M S x b.w5 t.1.w5 r4.2
 let u6:=S t.2.1 r5.2 false
 let q:=r0.1*m.2.1
 let mm:=M q m.1.w0
 let s0:=S mm.2 r0.1 false
 let s1:=mcG M S q m.1.w1 r1.1 (mm.1+bitW s0.2)
 let s2:=mcG M S q m.1.w2 r2.1 s1.2
 let s3:=mcG M S q m.1.w3 r3.1 s2.2
 let s4:=mcG M S q m.1.w4 r4.1 s3.2
 let s5:=mcG M S q m.1.w5 r5.1 s4.2
 let s6:=S u6.1 s5.2 false
 (⟨s1.1,s2.1,s3.1,s4.1,s5.1,s6.1⟩,bitW u6.2+bitW s6.2,bitW u6.2)
def moRaw (M:BitVec 64->BitVec 64->BitVec 64 × BitVec 64) (S:BitVec 64->BitVec 64->Bool->BitVec 64 × Bool) (m:Mo) (a b:W6):W8 :=
 moRound M S m b a.w5 (moRound M S m b a.w4 (moRound M S m b a.w3 (moRound M S m b a.w2 (moRound M S m b a.w1 (moRound M S m b a.w0 zero8)))))
noncomputable def mmE0 (M:BitVec 64->BitVec 64->BitVec 64 × BitVec 64) (S:BitVec 64->BitVec 64->Bool->BitVec 64 × Bool) (L:Mo->W6->W6):Env:=envH eqsT (rowT M S) [(124,rdp 163 cFa (mc1 c6.agg) c6.agg L)]
set_option maxRecDepth 1000000 in
theorem mm_run (M:BitVec 64->BitVec 64->BitVec 64 × BitVec 64) (S:BitVec 64->BitVec 64->Bool->BitVec 64 × Bool) (L:Mo->W6->W6) (m:Mo) (a b:W6):(afunP PR (mmE0 M S L) [] 20 130 163 m [c6.agg.enc a,c6.agg.enc b]).strict =
 .leaf (c6.agg.enc (L m (moRaw M S m a b).1)):=by kernel_rfl
noncomputable def mrE0 (N:Mo->Bool) (cm:W6->W6->Int) (O:BitVec 64->W6) (T:Mo->W6->W6->W6):Env:=envH eqsT [(86,fn2 c6.agg c6.agg (kInt .i64) cm),(33,fn1 kU c6.agg O)]
 [(122,rdp 163 cFa mc0 kBool (fun m _=>N m)),(130,rdp 163 cFa (mc2 c6.agg c6.agg) c6.agg (fun m x=>T m x.1 x.2))]
theorem mred_run (N:Mo->Bool) (cm:W6->W6->Int) (O:BitVec 64->W6) (T:Mo->W6->W6->W6) (m:Mo) (a:W6):(afunP PR (mrE0 N cm O T) [6,14] 10 111 163 m [c6.agg.enc a]).strict =
 .br (N m) (.leaf (c6.agg.enc zeroW)) (.br (decide (cm a m.1 < 0)) (.leaf (c6.agg.enc a)) (.leaf (c6.agg.enc (T m (T m a m.2.2) (O (bitW true)))))):=by kernel_rfl
def wSubW (a b:W6):W6 × Bool:=((subs a b).1,(subs a b).2 == true)
def wSubT:PureTab:=[(167,fn3 kU kU kBit kUB sub64)]
theorem wSubT_ok:TabPOk PR wSubT:=TabPOk.cons sub64_ok TabPOk.nil
theorem wsub_ctx:Ctx PR (envOf eqsT wSubT) [] (fun _=>none) 40 106 :=
 ctxB (envOf_ok eqsT_ok wSubT_ok) mixed (by kernel_rfl)
set_option maxRecDepth 100000 in
theorem wsub_run (a b:W6):(afunR PR (envOf eqsT wSubT) [] (fun _=>none) 40 106 [c6.agg.enc a,c6.agg.enc b]).strict=.leaf (kWB.enc (wSubW a b)):=by kernel_rfl
theorem wsub_ok:CallOk PR 106 (fn2 c6.agg c6.agg kWB wSubW) :=
 .inl ⟨entersB (by kernel_rfl),pure2 wsub_ctx (fun a b=>leafVal (B:=kWB) (y:=wSubW a b) (wsub_run a b))⟩
def moLessW:Mo->W6->W6:=moLess wSubW
theorem ml_gives (sb:W6->W6->W6 × Bool) (m:Mo) (x:W6):GivesH (afun PR (mlE0 sb) [17] (fun _=>none) 10 124 (.ptr 0 0 :: [c6.agg.enc x]) (oneAH cFa 163 m) 1) (c6.agg.val (moLess sb m x)) :=
 givesPh (ml_run sb m x) (holds_br (B:=c6.agg) (holds_leaf (c6.agg.h1 _)) (holds_leaf (c6.agg.h1 _)))
theorem mlE0_ok:EnvOk PR (mlE0 wSubW):=envH_ok eqsT_ok (TabPOk.cons wsub_ok TabPOk.nil) TabHOk.nil
theorem ml_ent:Enters PR 124:=entersB (by kernel_rfl)
theorem ml_ok:HeapOk PR 124 (rdp 163 cFa (mc1 c6.agg) c6.agg moLessW) :=
 rdp_ok (E:=mlE0 wSubW) (sym:=[17]) (lf:=10) mlE0_ok mixed (fn:=Tryz.f124) (c:=bodyOf PR 124) (by kernel_rfl) (by kernel_rfl) (by kernel_rfl) (fun m z=>ml_gives wSubW m z)
def moMontW (m:Mo) (a b:W6):W6:=moLessW m (moRaw mul64 add64 m a b).1
theorem mmE0_ok:EnvOk PR (mmE0 mul64 add64 moLessW):=envH_ok eqsT_ok (TabPOk.cons mul64_ok (TabPOk.cons add64_ok TabPOk.nil)) (TabHOk.cons ml_ent ml_ok TabHOk.nil)
theorem mm_ent:Enters PR 130:=entersB (by kernel_rfl)
theorem mm_ok:HeapOk PR 130 (rdp 163 cFa (mc2 c6.agg c6.agg) c6.agg (fun m x=>moMontW m x.1 x.2)) :=
 rdp_ok (E:=mmE0 mul64 add64 moLessW) (sym:=[]) (lf:=20) mmE0_ok mixed (fn:=Tryz.f130) (c:=bodyOf PR 130) (by kernel_rfl) (by kernel_rfl) (by kernel_rfl) (fun m z=>givesPh (mm_run mul64 add64 moLessW m z.1 z.2) (holds_leaf (c6.agg.h1 _)))
def moRedG (N:Mo->Bool) (cm:W6->W6->Int) (O:BitVec 64->W6) (T:Mo->W6->W6->W6) (m:Mo) (a:W6):W6:=bif N m then zeroW else bif decide (cm a m.1 < 0) then a else T m (T m a m.2.2) (O (bitW true))
def moRedW:Mo->W6->W6:=moRedG moNone cmW ofW moMontW
theorem mred_gives (N:Mo->Bool) (cm:W6->W6->Int) (O:BitVec 64->W6) (T:Mo->W6->W6->W6) (m:Mo) (a:W6):GivesH (afun PR (mrE0 N cm O T) [6,14] (fun _=>none) 10 111 (.ptr 0 0 :: [c6.agg.enc a]) (oneAH cFa 163 m) 1) (c6.agg.val (moRedG N cm O T m a)) :=
 givesPh (mred_run N cm O T m a) (holds_br (B:=c6.agg) (holds_leaf (c6.agg.h1 _)) (holds_br (B:=c6.agg) (holds_leaf (c6.agg.h1 _)) (holds_leaf (c6.agg.h1 _))))
theorem mrE0_ok:EnvOk PR (mrE0 moNone cmW ofW moMontW):=envH_ok eqsT_ok (TabPOk.cons cmp_ok (TabPOk.cons of_ok TabPOk.nil)) (TabHOk.cons mn_ent mn_ok (TabHOk.cons mm_ent mm_ok TabHOk.nil))
theorem mred_ent:Enters PR 111:=entersB (by kernel_rfl)
theorem mred_ok:HeapOk PR 111 (rdp 163 cFa (mc1 c6.agg) c6.agg moRedW) :=
 rdp_ok (E:=mrE0 moNone cmW ofW moMontW) (sym:=[6,14]) (lf:=10) mrE0_ok mixed (fn:=Tryz.f111) (c:=bodyOf PR 111) (by kernel_rfl) (by kernel_rfl) (by kernel_rfl) (fun m z=>mred_gives moNone cmW ofW moMontW m z)
theorem order_val:orderW.val=rN:=by decide +kernel
theorem add_zero64 (r:BitVec 64):add64 0#64 r false=(r,false):=by
 have h:add64 0#64 r false=(0#64+r+bitW false,decide (18446744073709551616 <= (0#64).toNat+r.toNat+b2n false)):=rfl
 rw [h]
 have h1:0#64+r+bitW false=r:=by rw [BitVec.zero_add,show bitW false=0#64 from rfl,BitVec.add_zero]
 have h2:decide (18446744073709551616 <= (0#64).toNat+r.toNat+b2n false)=false:=by
  apply decide_eq_false
  have:=r.isLt
  rw [show (0#64).toNat=0 from rfl,show b2n false=0 from rfl]
  omega
 rw [h1,h2]
theorem mul_wide {a r w p:Nat} (h:w*r*r % p=1):(a*w*r % p)*1*r % p=a % p:=by
 rw [Nat.mul_one,Nat.mod_mul_mod,show a*w*r*r=a*(w*r*r) by simp only [Nat.mul_assoc],Nat.mul_mod,h,Nat.mul_one,Nat.mod_mod]
end Go.Rq

namespace Go.Rq.Cl
open Go Go.Proofs Go.Rq Go.Rq.Sm
structure Mg (m:Mo) (ri:Nat):Prop where
 low:∀ r:BitVec 64,(mul64 (r*m.2.1) m.1.w0).2+r+bitW false=0#64
 none:moNone m=false
 small:2*m.1.val <= 39402006196394479212279040100143613805079739270465446667948293404245721771497210611414266254884915640806627990306816
 pos:1 < m.1.val
 inv:39402006196394479212279040100143613805079739270465446667948293404245721771497210611414266254884915640806627990306816*ri % m.1.val=1
 wlt:m.2.2.val < m.1.val
 wide:m.2.2.val*ri*ri % m.1.val=1
theorem mg_sum {p0 t0 r0 c0 p1 t1 r1 c1 p2 t2 r2 c2 p3 t3 r3 c3 p4 t4 r4 c4 p5 t5 r5 c5 y0 y1 y2 y3 y4 y5 k0 k6 s6 s1 k1 s2 k2 s3 k3 s4 k4 s5 k5:Nat} (e0:r0+18446744073709551616*c0=p0+t0) (e1:r1+18446744073709551616*c1=p1+t1+c0) (e2:r2+18446744073709551616*c2=p2+t2+c1) (e3:r3+18446744073709551616*c3=p3+t3+c2) (e4:r4+18446744073709551616*c4=p4+t4+c3) (e5:r5+18446744073709551616*c5=p5+t5+c4) (f0:18446744073709551616*k0=y0+r0) (f1:s1+18446744073709551616*k1=y1+r1+k0) (f2:s2+18446744073709551616*k2=y2+r2+k1) (f3:s3+18446744073709551616*k3=y3+r3+k2) (f4:s4+18446744073709551616*k4=y4+r4+k3) (f5:s5+18446744073709551616*k5=y5+r5+k4) (f6:s6+18446744073709551616*k6=c5+k5) :
 18446744073709551616*(s1+18446744073709551616*s2+340282366920938463463374607431768211456*s3+6277101735386680763835789423207666416102355444464034512896*s4+115792089237316195423570985008687907853269984665640564039457584007913129639936*s5+2135987035920910082395021706169552114602704522356652769947041607822219725780640550022962086936576*s6)+726838724295606890549323807888004534353641360687318060281490199180639288113397923326191050713763565560762521606266177933534601628614656*k6=(p0+18446744073709551616*p1+340282366920938463463374607431768211456*p2+6277101735386680763835789423207666416102355444464034512896*p3+115792089237316195423570985008687907853269984665640564039457584007913129639936*p4+2135987035920910082395021706169552114602704522356652769947041607822219725780640550022962086936576*p5)+(t0+18446744073709551616*t1+340282366920938463463374607431768211456*t2+6277101735386680763835789423207666416102355444464034512896*t3+115792089237316195423570985008687907853269984665640564039457584007913129639936*t4+2135987035920910082395021706169552114602704522356652769947041607822219725780640550022962086936576*t5)+(y0+18446744073709551616*y1+340282366920938463463374607431768211456*y2+6277101735386680763835789423207666416102355444464034512896*y3+115792089237316195423570985008687907853269984665640564039457584007913129639936*y4+2135987035920910082395021706169552114602704522356652769947041607822219725780640550022962086936576*y5):=by
 omega
theorem mg_end {xA A T Y v k N:Nat} (hn:2*N <= 39402006196394479212279040100143613805079739270465446667948293404245721771497210611414266254884915640806627990306816) (ha:A < N) (ht:T < A+N) (hx:xA <= 18446744073709551615*A) (hy:Y <= 18446744073709551615*N) (hs:18446744073709551616*v+726838724295606890549323807888004534353641360687318060281490199180639288113397923326191050713763565560762521606266177933534601628614656*k=xA+T+Y):k=0 /\ v < A+N /\ 18446744073709551616*v=xA+T+Y:=by
 have hk:k=0:=by omega
 subst hk
 omega
theorem mg_carry {y0 r m1 m2:Nat} {c:Nat} (hc:c <= 1) (hy:y0 <= 18446744073709551615*18446744073709551615) (hm:m2+18446744073709551616*m1=y0) (hs:18446744073709551616*c=m2+r):m1+c < 18446744073709551616 /\ 18446744073709551616*(m1+c)=y0+r:=by
 omega
theorem mul_le64 (a b:BitVec 64):a.toNat*b.toNat <= 18446744073709551615*18446744073709551615 :=
 Nat.mul_le_mul (Nat.le_of_lt_succ a.isLt) (Nat.le_of_lt_succ b.isLt)
theorem mgRound_eq {m:Mo} {a:W6} {x:BitVec 64} {t:W8} {r0 r1 r2 r3 r4 r5 s1 s2 s3 s4 s5 mm:BitVec 64 × BitVec 64} {s0 s6 u6:BitVec 64 × Bool} {q k0:BitVec 64}
 (hr0:mac x a.w0 t.1.w0 (bitW false)=r0) (hr1:mac x a.w1 t.1.w1 r0.2=r1) (hr2:mac x a.w2 t.1.w2 r1.2=r2) (hr3:mac x a.w3 t.1.w3 r2.2=r3) (hr4:mac x a.w4 t.1.w4 r3.2=r4) (hr5:mac x a.w5 t.1.w5 r4.2=r5)
 (hu:add64 t.2.1 r5.2 false=u6) (hq:r0.1*m.2.1=q) (hm:mul64 q m.1.w0=mm) (hs0:add64 mm.2 r0.1 false=s0) (hk:mm.1+bitW s0.2=k0)
 (hs1:mac q m.1.w1 r1.1 k0=s1) (hs2:mac q m.1.w2 r2.1 s1.2=s2) (hs3:mac q m.1.w3 r3.1 s2.2=s3) (hs4:mac q m.1.w4 r4.1 s3.2=s4) (hs5:mac q m.1.w5 r5.1 s4.2=s5) (hs6:add64 u6.1 s5.2 false=s6) :
 moRound mul64 add64 m a x t=(⟨s1.1,s2.1,s3.1,s4.1,s5.1,s6.1⟩,bitW u6.2+bitW s6.2,bitW u6.2):=by
 subst hr0 hr1 hr2 hr3 hr4 hr5 hu hq hm hs0 hk hs1 hs2 hs3 hs4 hs5 hs6
 rfl
theorem mg_round {m:Mo} {ri:Nat} (M:Mg m ri) (a:W6) (x:BitVec 64) (t:W8) (hw:t.2.1=0#64) (ha:a.val < m.1.val) (ht:t.1.val < a.val+m.1.val) :
 ∃ q:Nat,(moRound mul64 add64 m a x t).2.1=0#64 /\ (moRound mul64 add64 m a x t).1.val < a.val+m.1.val /\ 18446744073709551616*(moRound mul64 add64 m a x t).1.val=x.toNat*a.val+t.1.val+q*m.1.val:=by
 obtain ⟨r0,hr0⟩:∃ r,mac x a.w0 t.1.w0 (bitW false)=r:=⟨_,rfl⟩
 obtain ⟨r1,hr1⟩:∃ r,mac x a.w1 t.1.w1 r0.2=r:=⟨_,rfl⟩
 obtain ⟨r2,hr2⟩:∃ r,mac x a.w2 t.1.w2 r1.2=r:=⟨_,rfl⟩
 obtain ⟨r3,hr3⟩:∃ r,mac x a.w3 t.1.w3 r2.2=r:=⟨_,rfl⟩
 obtain ⟨r4,hr4⟩:∃ r,mac x a.w4 t.1.w4 r3.2=r:=⟨_,rfl⟩
 obtain ⟨r5,hr5⟩:∃ r,mac x a.w5 t.1.w5 r4.2=r:=⟨_,rfl⟩
 obtain ⟨q,hq⟩:∃ q,r0.1*m.2.1=q:=⟨_,rfl⟩
 obtain ⟨mm,hm⟩:∃ mm,mul64 q m.1.w0=mm:=⟨_,rfl⟩
 obtain ⟨s0,hs0⟩:∃ s,add64 mm.2 r0.1 false=s:=⟨_,rfl⟩
 obtain ⟨k0,hk⟩:∃ k,mm.1+bitW s0.2=k:=⟨_,rfl⟩
 obtain ⟨s1,hs1⟩:∃ s,mac q m.1.w1 r1.1 k0=s:=⟨_,rfl⟩
 obtain ⟨s2,hs2⟩:∃ s,mac q m.1.w2 r2.1 s1.2=s:=⟨_,rfl⟩
 obtain ⟨s3,hs3⟩:∃ s,mac q m.1.w3 r3.1 s2.2=s:=⟨_,rfl⟩
 obtain ⟨s4,hs4⟩:∃ s,mac q m.1.w4 r4.1 s3.2=s:=⟨_,rfl⟩
 obtain ⟨s5,hs5⟩:∃ s,mac q m.1.w5 r5.1 s4.2=s:=⟨_,rfl⟩
 have hu:add64 t.2.1 r5.2 false=(r5.2,false):=by rw [hw];exact add_zero64 _
 obtain ⟨s6,hs6⟩:∃ s,add64 r5.2 s5.2 false=s:=⟨_,rfl⟩
 have hres:=mgRound_eq hr0 hr1 hr2 hr3 hr4 hr5 hu hq hm hs0 hk hs1 hs2 hs3 hs4 hs5 hs6
 have e0:=mac_nat x a.w0 t.1.w0 (bitW false)
 rw [hr0,show (bitW false).toNat=0 from rfl,Nat.add_zero] at e0
 have e1:=mac_nat x a.w1 t.1.w1 r0.2
 rw [hr1] at e1
 have e2:=mac_nat x a.w2 t.1.w2 r1.2
 rw [hr2] at e2
 have e3:=mac_nat x a.w3 t.1.w3 r2.2
 rw [hr3] at e3
 have e4:=mac_nat x a.w4 t.1.w4 r3.2
 rw [hr4] at e4
 have e5:=mac_nat x a.w5 t.1.w5 r4.2
 rw [hr5] at e5
 have lz:=M.low r0.1
 rw [hq,hm] at lz
 have m0:=mul64_nat q m.1.w0
 rw [hm] at m0
 have z0:=add64_nat mm.2 r0.1 false
 rw [show (add64 mm.2 r0.1 false).1=0#64 from lz,hs0,show b2n false=0 from rfl,show (0#64).toNat=0 from rfl,Nat.add_zero,Nat.zero_add] at z0
 obtain ⟨c1,c2⟩:=mg_carry (b2n_le s0.2) (mul_le64 q m.1.w0) m0 z0
 have hk0:k0.toNat=mm.1.toNat+b2n s0.2:=by
  rw [<- hk,BitVec.toNat_add,bitW_nat]
  exact Nat.mod_eq_of_lt c1
 rw [<- hk0] at c2
 have f1:=mac_nat q m.1.w1 r1.1 k0
 rw [hs1] at f1
 have f2:=mac_nat q m.1.w2 r2.1 s1.2
 rw [hs2] at f2
 have f3:=mac_nat q m.1.w3 r3.1 s2.2
 rw [hs3] at f3
 have f4:=mac_nat q m.1.w4 r4.1 s3.2
 rw [hs4] at f4
 have f5:=mac_nat q m.1.w5 r5.1 s4.2
 rw [hs5] at f5
 have f6:=add64_nat r5.2 s5.2 false
 rw [hs6,show b2n false=0 from rfl,Nat.add_zero] at f6
 have sum:=mg_sum e0 e1 e2 e3 e4 e5 c2 f1 f2 f3 f4 f5 f6
 have xA:x.toNat*a.val <= 18446744073709551615*a.val:=Nat.mul_le_mul_right _ (Nat.le_of_lt_succ x.isLt)
 have qY:q.toNat*m.1.val <= 18446744073709551615*m.1.val:=Nat.mul_le_mul_right _ (Nat.le_of_lt_succ q.isLt)
 rw [<- val_mul x.toNat a,<- val_mul q.toNat m.1] at sum
 obtain ⟨n1,n2,n3⟩:=mg_end (v:=(W6.mk s1.1 s2.1 s3.1 s4.1 s5.1 s6.1).val) (T:=t.1.val) M.small ha ht xA qY sum
 refine ⟨q.toNat,?_,?_,?_⟩
 . rw [hres]
   show bitW false+bitW s6.2=0#64
   cases hh:s6.2 with
   | false=>rfl
   | true=>rw [hh] at n1;cases n1
 . rw [hres];exact n2
 . rw [hres];exact n3
theorem mg_raw_sum {x1 q1 v1 x2 q2 v2 x3 q3 v3 x4 q4 v4 x5 q5 v5 x6 q6 v6:Nat} (h1:18446744073709551616*v1=x1+q1) (h2:18446744073709551616*v2=x2+v1+q2) (h3:18446744073709551616*v3=x3+v2+q3) (h4:18446744073709551616*v4=x4+v3+q4) (h5:18446744073709551616*v5=x5+v4+q5) (h6:18446744073709551616*v6=x6+v5+q6) :
 39402006196394479212279040100143613805079739270465446667948293404245721771497210611414266254884915640806627990306816*v6=(x1+18446744073709551616*x2+340282366920938463463374607431768211456*x3+6277101735386680763835789423207666416102355444464034512896*x4+115792089237316195423570985008687907853269984665640564039457584007913129639936*x5+2135987035920910082395021706169552114602704522356652769947041607822219725780640550022962086936576*x6)+(q1+18446744073709551616*q2+340282366920938463463374607431768211456*q3+6277101735386680763835789423207666416102355444464034512896*q4+115792089237316195423570985008687907853269984665640564039457584007913129639936*q5+2135987035920910082395021706169552114602704522356652769947041607822219725780640550022962086936576*q6):=by
 omega
theorem mul_sum6 (q1 q2 q3 q4 q5 q6 N:Nat):(q1*N+18446744073709551616*(q2*N)+340282366920938463463374607431768211456*(q3*N)+6277101735386680763835789423207666416102355444464034512896*(q4*N)+115792089237316195423570985008687907853269984665640564039457584007913129639936*(q5*N)+2135987035920910082395021706169552114602704522356652769947041607822219725780640550022962086936576*(q6*N))=(q1+18446744073709551616*q2+340282366920938463463374607431768211456*q3+6277101735386680763835789423207666416102355444464034512896*q4+115792089237316195423570985008687907853269984665640564039457584007913129639936*q5+2135987035920910082395021706169552114602704522356652769947041607822219725780640550022962086936576*q6)*N:=by
 simp only [Nat.add_mul,Nat.mul_assoc]
theorem mg_raw {m:Mo} {ri:Nat} (M:Mg m ri) (a b:W6) (hb:b.val < m.1.val):(moRaw mul64 add64 m a b).1.val < b.val+m.1.val /\ ∃ Q,39402006196394479212279040100143613805079739270465446667948293404245721771497210611414266254884915640806627990306816*(moRaw mul64 add64 m a b).1.val=a.val*b.val+Q*m.1.val:=by
 have zv:zero8.1.val=0:=rfl
 have hp:=M.pos
 unfold moRaw
 obtain ⟨q1,w1,l1,h1⟩:=mg_round M b a.w0 zero8 rfl hb (by rw [zv];omega)
 generalize moRound mul64 add64 m b a.w0 zero8=t1 at w1 l1 h1 ⊢
 obtain ⟨q2,w2,l2,h2⟩:=mg_round M b a.w1 t1 w1 hb l1
 generalize moRound mul64 add64 m b a.w1 t1=t2 at w2 l2 h2 ⊢
 obtain ⟨q3,w3,l3,h3⟩:=mg_round M b a.w2 t2 w2 hb l2
 generalize moRound mul64 add64 m b a.w2 t2=t3 at w3 l3 h3 ⊢
 obtain ⟨q4,w4,l4,h4⟩:=mg_round M b a.w3 t3 w3 hb l3
 generalize moRound mul64 add64 m b a.w3 t3=t4 at w4 l4 h4 ⊢
 obtain ⟨q5,w5,l5,h5⟩:=mg_round M b a.w4 t4 w4 hb l4
 generalize moRound mul64 add64 m b a.w4 t4=t5 at w5 l5 h5 ⊢
 obtain ⟨q6,w6,l6,h6⟩:=mg_round M b a.w5 t5 w5 hb l5
 generalize moRound mul64 add64 m b a.w5 t5=t6 at w6 l6 h6 ⊢
 refine ⟨l6,q1+18446744073709551616*q2+340282366920938463463374607431768211456*q3+6277101735386680763835789423207666416102355444464034512896*q4+115792089237316195423570985008687907853269984665640564039457584007913129639936*q5+2135987035920910082395021706169552114602704522356652769947041607822219725780640550022962086936576*q6,?_⟩
 rw [zv,Nat.add_zero] at h1
 rw [<- mul_sum6]
 have hb:a.val*b.val=(a.w0.toNat*b.val)+18446744073709551616*(a.w1.toNat*b.val)+340282366920938463463374607431768211456*(a.w2.toNat*b.val)+6277101735386680763835789423207666416102355444464034512896*(a.w3.toNat*b.val)+115792089237316195423570985008687907853269984665640564039457584007913129639936*(a.w4.toNat*b.val)+2135987035920910082395021706169552114602704522356652769947041607822219725780640550022962086936576*(a.w5.toNat*b.val):=by
  rw [Nat.mul_comm,val_mul]
  simp only [Nat.mul_comm b.val]
 rw [hb]
 exact mg_raw_sum h1 h2 h3 h4 h5 h6
theorem mg_less (m:Mo) {x:W6} (h:x.val < 2*m.1.val):(moLessW m x).val=x.val % m.1.val:=by
 have h1:=subs_nat x m.1
 have hl:=(subs x m.1).1.val_lt
 have e:moLessW m x=bif !((subs x m.1).2 == true) then (subs x m.1).1 else x:=rfl
 rw [e]
 generalize m.1.val=N at h h1 ⊢
 cases hb:(subs x m.1).2 with
 | true =>
  rw [hb,show b2n true=1 from rfl] at h1
  show x.val=_
  rw [Nat.mod_eq_of_lt (by omega)]
 | false =>
  rw [hb,show b2n false=0 from rfl] at h1
  show (subs x m.1).1.val=_
  rw [Nat.mod_eq_sub_mod (by omega),Nat.mod_eq_of_lt (by omega)]
  omega
theorem mg_mont {m:Mo} {ri:Nat} (M:Mg m ri) (a b:W6) (hb:b.val < m.1.val):(moMontW m a b).val=a.val*b.val*ri % m.1.val:=by
 obtain ⟨h1,Q,h2⟩:=mg_raw M a b hb
 have e:moMontW m a b=moLessW m (moRaw mul64 add64 m a b).1:=rfl
 rw [e,mg_less m (by omega)]
 exact wide_mul M.inv h2
theorem cmq_nat (a b:W6):cmW a b < 0 ↔ a.val < b.val:=Go.Rq.cmW_nat a b
theorem mg_red {m:Mo} {ri:Nat} (M:Mg m ri) (a:W6):(moRedW m a).val=a.val % m.1.val:=by
 have e:moRedW m a=bif moNone m then zeroW else bif decide (cmW a m.1 < 0) then a else moMontW m (moMontW m a m.2.2) (ofW (bitW true)):=rfl
 rw [e,M.none,cond_false]
 have hc:=cmq_nat a m.1
 by_cases h:a.val < m.1.val
 . rw [decide_eq_true (hc.2 h),cond_true,Nat.mod_eq_of_lt h]
 . rw [decide_eq_false (fun h'=>h (hc.1 h')),cond_false]
   have h1:(ofW (bitW true)).val=1:=by decide +kernel
   rw [mg_mont M _ _ (by rw [h1];exact M.pos),mg_mont M a m.2.2 M.wlt,h1]
   exact mul_wide M.wide
theorem mqO_no:mqO.no=moNone:=by simp only [mqO]
theorem mqO_mm:mqO.mm=moMontW:=by simp only [mqO]
theorem mqO_ls:mqO.ls=moLessW:=by simp only [mqO]
theorem mqO_rd:mqO.rd=moRedW:=by simp only [mqO]
theorem mqO_ad:mqO.ad=wAddW:=by simp only [mqO]
theorem mqO_sb:mqO.sb=wSubW:=by simp only [mqO]
theorem mg_wide {a b w r p:Nat} (h:w*r*r % p=1):(a*w*r % p)*b*r % p=a*b % p:=by
 rw [Nat.mul_assoc,Nat.mod_mul_mod,show a*w*r*(b*r)=a*b*(w*r*r) by
  simp only [Nat.mul_comm,Nat.mul_left_comm],Nat.mul_mod,h,Nat.mul_one,Nat.mod_mod]
theorem mg_mul {m:Mo} {ri:Nat} (M:Mg m ri) (a b:W6) (hb:b.val < m.1.val):(qmulW m a b).val=a.val*b.val % m.1.val:=by
 have e:qmulW m a b=bif mqO.no m then zeroW else mqO.mm m (mqO.mm m a m.2.2) b:=rfl
 rw [e,mqO_no,mqO_mm,M.none,cond_false,mg_mont M _ _ hb,mg_mont M a m.2.2 M.wlt]
 exact mg_wide M.wide
theorem wAdd_val (a b:W6) (h:a.val+b.val < 39402006196394479212279040100143613805079739270465446667948293404245721771497210611414266254884915640806627990306816):(wAddW a b).1.val=a.val+b.val:=by
 have h1:=adds_nat a b
 have e:(wAddW a b).1=(adds a b).1:=rfl
 rw [e]
 cases hb:(adds a b).2 with
 | true=>rw [hb,show b2n true=1 from rfl] at h1;omega
 | false=>rw [hb,show b2n false=0 from rfl] at h1;omega
theorem wSub_val (a b:W6):(b.val <= a.val->(wSubW a b).2=false /\ (wSubW a b).1.val=a.val - b.val) /\ (a.val < b.val->(wSubW a b).2=true /\ (wSubW a b).1.val+b.val=a.val+39402006196394479212279040100143613805079739270465446667948293404245721771497210611414266254884915640806627990306816):=by
 have h1:=subs_nat a b
 have hl:=(subs a b).1.val_lt
 have hb:=b.val_lt
 have e1:(wSubW a b).1=(subs a b).1:=rfl
 have e2:(wSubW a b).2=((subs a b).2 == true):=rfl
 rw [e1,e2]
 cases hs:(subs a b).2 with
 | true =>
  rw [hs,show b2n true=1 from rfl] at h1
  exact ⟨fun h=>by omega,fun h=>⟨rfl,by omega⟩⟩
 | false =>
  rw [hs,show b2n false=0 from rfl] at h1
  exact ⟨fun h=>⟨rfl,by omega⟩,fun h=>by omega⟩
theorem mg_add {m:Mo} {ri:Nat} (M:Mg m ri) (a b:W6):(qaddW m a b).val=(a.val+b.val) % m.1.val:=by
 have e:qaddW m a b=bif mqO.no m then zeroW else mqO.ls m (mqO.ad (mqO.rd m a) (mqO.rd m b)).1:=rfl
 have hp:=M.pos
 have hs:=M.small
 have h1:(moRedW m a).val < m.1.val:=by rw [mg_red M];exact Nat.mod_lt _ (by omega)
 have h2:(moRedW m b).val < m.1.val:=by rw [mg_red M];exact Nat.mod_lt _ (by omega)
 have h3:(wAddW (moRedW m a) (moRedW m b)).1.val=(moRedW m a).val+(moRedW m b).val:=wAdd_val _ _ (by omega)
 rw [e,mqO_no,mqO_ls,mqO_ad,mqO_rd,M.none,cond_false,mg_less m (by rw [h3];omega),h3,mg_red M,mg_red M,<- Nat.add_mod]
theorem sub_case {x y n k s:Nat} (hy:y < n) (hlt:x < y) (h:s+y=x+k):s+n=x+(n - y)+k /\ x+(n - y) < n:=by omega
theorem mg_sub {m:Mo} {ri:Nat} (M:Mg m ri) (a b:W6):(qsubW m a b).val=(a.val % m.1.val+(m.1.val - b.val % m.1.val)) % m.1.val:=by
 have e:qsubW m a b=bif mqO.no m then zeroW else bif (mqO.sb (mqO.rd m a) (mqO.rd m b)).2 then (mqO.ad (mqO.sb (mqO.rd m a) (mqO.rd m b)).1 m.1).1 else (mqO.sb (mqO.rd m a) (mqO.rd m b)).1:=rfl
 have hp:=M.pos
 have hs:=M.small
 have e1:=mg_red M a
 have e2:=mg_red M b
 have h1:a.val % m.1.val < m.1.val:=Nat.mod_lt _ (by omega)
 have h2:b.val % m.1.val < m.1.val:=Nat.mod_lt _ (by omega)
 obtain ⟨k1,k2⟩:=wSub_val (moRedW m a) (moRedW m b)
 rw [e1,e2] at k1 k2
 rw [e,mqO_no,mqO_sb,mqO_ad,mqO_rd,M.none,cond_false]
 by_cases hle:b.val % m.1.val <= a.val % m.1.val
 . obtain ⟨c1,c2⟩:=k1 hle
   rw [c1,cond_false,c2]
   generalize a.val % m.1.val=x at *
   generalize b.val % m.1.val=y at *
   rw [show x+(m.1.val - y)=(x - y)+m.1.val by omega,Nat.add_mod_right,Nat.mod_eq_of_lt (by omega)]
 . have hlt:a.val % m.1.val < b.val % m.1.val:=by omega
   obtain ⟨c1,c2⟩:=k2 hlt
   rw [c1,cond_true]
   obtain ⟨d1,d2⟩:=sub_case h2 hlt c2
   have h4:=adds_nat (wSubW (moRedW m a) (moRedW m b)).1 m.1
   have hl:=(adds (wSubW (moRedW m a) (moRedW m b)).1 m.1).1.val_lt
   rw [d1] at h4
   rw [Nat.mod_eq_of_lt d2]
   show (adds (wSubW (moRedW m a) (moRedW m b)).1 m.1).1.val=_
   generalize (adds (wSubW (moRedW m a) (moRedW m b)).1 m.1).1.val=z at h4 hl ⊢
   cases hb:(adds (wSubW (moRedW m a) (moRedW m b)).1 m.1).2 with
   | true=>rw [hb,show b2n true=1 from rfl] at h4;omega
   | false=>rw [hb,show b2n false=0 from rfl] at h4;omega
def mdRi:Md->Nat
 | .pl=>236029
 | .pm=>89654010150814296
 | .rl=>18736
 | .rm=>28583854955383276
 | .ro=>3355780196830291892987310667864784896352702591869607001429614921875678373541
 | .pb=>3231460744492646417066832100176244795738767926513225105051837195607029917124509527734802654356338138714468589979680
theorem md_low (m:Md):mdLow m*(mdB m).w0=18446744073709551615#64:=by cases m <;> decide +kernel
theorem low_of {l n:BitVec 64} (h:l*n=18446744073709551615#64) (r:BitVec 64):(mul64 (r*l) n).2+r+bitW false=0#64:=by
 apply BitVec.eq_of_toNat_eq
 show (r*l*n+r+bitW false).toNat=0
 have hr:=r.isLt
 rw [BitVec.mul_assoc,h,BitVec.toNat_add,BitVec.toNat_add,BitVec.toNat_mul,bitW_nat]
 show ((r.toNat*18446744073709551615 % 18446744073709551616+r.toNat) % 18446744073709551616+0) % 18446744073709551616=0
 omega
theorem mg_md (m:Md):Mg (modS m) (mdRi m) where
 low r:=low_of (md_low m) r
 none:=by cases m <;> decide +kernel
 small:=by cases m <;> decide +kernel
 pos:=by cases m <;> decide +kernel
 inv:=by cases m <;> decide +kernel
 wlt:=by cases m <;> decide +kernel
 wide:=by cases m <;> decide +kernel
theorem modS_val (m:Md):(modS m).1.val=mdN m:=mdB_nat m
end Go.Rq.Cl
