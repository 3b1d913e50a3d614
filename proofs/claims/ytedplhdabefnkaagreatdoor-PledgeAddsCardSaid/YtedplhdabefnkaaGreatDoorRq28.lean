import Derived.Test.YtedplhdabefnkaaGreatDoorRq04
import Derived.Test.YtedplhdabefnkaaGreatDoorRq26
import Derived.Test.YtedplhdabefnkaaGreatDoorRq27
import Derived.Test.YtedplhdabefnkaaGreatDoorRq16
import Derived.Test.YtedplhdabefnkaaGreatDoorRq20
import Derived.Test.YtedplhdabefnkaaGreatDoorRq06
import Derived.Test.YtedplhdabefnkaaGreatDoorRq05
import Derived.Test.YtedplhdabefnkaaGreatDoorRq19
import Derived.Test.YtedplhdabefnkaaGreatDoorRq09
import Derived.Test.YtedplhdabefnkaaGreatDoorRq21
import Derived.Test.YtedplhdabefnkaaGreatDoorRows
import Derived.Test.YtedplhdabefnkaaGreatDoorRq15
import Derived.OpenShut
import Derived.MakeChecks
import Derived.ChangeArms
namespace Go.Rq.Cl
open Go Go.Proofs Go.Rq Go.Rq.Sm
theorem dsum_ent:Enters PR 113:=entersB (by kernel_rfl)
theorem dsum_gives (s:SA) (c1:Nat) (t:TypeId) (l:List Int) (hs:shS s=true) (hl:l.length=s.len):GivesH (afun PR (sdE shaF) [] (fun _=>none) 10 113 [s.at 0 c1] (hpS 0 s t (encL (cInt .u8) l)) 1) ((cBy 32).agg.val (shaG shaF l)):=by
 cases s with
 | nil=>cases hs
 | slc n=>cases hs
 | own es n =>
  unfold shS at hs
  obtain ⟨h1,h2⟩:=and_parts hs
  obtain rfl:=Nat.eq_of_beq_eq_true h1
  have hm:n ∈ lensS:=memN_spec.1 h2
  have hn:l.length=n:=hl
  rw [lstB_of l]
  generalize (fun i=>l.getD i 0)=b
  rw [hn]
  simp only [lensS,List.mem_cons,List.not_mem_nil,or_false] at hm
  rcases hm with rfl
  . exact givesH (dg_run15 shaF b t) (holds_leaf ((cBy 32).agg.h1 _))
theorem dsum_ok:HeapOk PR 113 sumV:=by
 rw [sumV_eq]
 exact s1V_ok (E:=fun _=>sdE shaF) (sym:=[]) (lf:=10) (fun _=>sdE_ok) mixed (fn:=Tryz.f113) (c:=bodyOf PR 113) (by kernel_rfl) (by kernel_rfl) (fun _=>sd_cod) dsum_gives
end Go.Rq.Cl

namespace Go.Rq
open Go Go.Proofs
def modP:Mo:=(primeW,9940570264628428797#64,⟨0xf4df1f341c341746#64,0xa76e6a609d104f1#64,0x8de5476c4c95b6d5#64,0x67eb88a9939d83c0#64,0x9a793e85b519952d#64,0x11988fe592cae3aa#64⟩)
theorem mp_sum {p0 t0 r0 c0 p1 t1 r1 c1 p2 t2 r2 c2 p3 t3 r3 c3 p4 t4 r4 c4 p5 t5 r5 c5 q k0 k6 s6 s1 k1 s2 k2 s3 k3 s4 k4 s5 k5:Nat} (e0:r0+18446744073709551616*c0=p0+t0) (e1:r1+18446744073709551616*c1=p1+t1+c0) (e2:r2+18446744073709551616*c2=p2+t2+c1) (e3:r3+18446744073709551616*c3=p3+t3+c2) (e4:r4+18446744073709551616*c4=p4+t4+c3) (e5:r5+18446744073709551616*c5=p5+t5+c4) (f0:18446744073709551616*k0=q*13402431016077863595+r0) (f1:s1+18446744073709551616*k1=q*2210141511517208575+r1+k0) (f2:s2+18446744073709551616*k2=q*7435674573564081700+r2+k1) (f3:s3+18446744073709551616*k3=q*7239337960414712511+r3+k2) (f4:s4+18446744073709551616*k4=q*5412103778470702295+r4+k3) (f5:s5+18446744073709551616*k5=q*1873798617647539866+r5+k4) (f6:s6+18446744073709551616*k6=c5+k5) :
 18446744073709551616*(s1+18446744073709551616*s2+340282366920938463463374607431768211456*s3+6277101735386680763835789423207666416102355444464034512896*s4+115792089237316195423570985008687907853269984665640564039457584007913129639936*s5+2135987035920910082395021706169552114602704522356652769947041607822219725780640550022962086936576*s6)+726838724295606890549323807888004534353641360687318060281490199180639288113397923326191050713763565560762521606266177933534601628614656*k6=(p0+18446744073709551616*p1+340282366920938463463374607431768211456*p2+6277101735386680763835789423207666416102355444464034512896*p3+115792089237316195423570985008687907853269984665640564039457584007913129639936*p4+2135987035920910082395021706169552114602704522356652769947041607822219725780640550022962086936576*p5)+(t0+18446744073709551616*t1+340282366920938463463374607431768211456*t2+6277101735386680763835789423207666416102355444464034512896*t3+115792089237316195423570985008687907853269984665640564039457584007913129639936*t4+2135987035920910082395021706169552114602704522356652769947041607822219725780640550022962086936576*t5)+q*4002409555221667393417789825735904156556882819939007885332058136124031650490837864442687629129015664037894272559787:=by
 omega
theorem mp_inv (r:BitVec 64):(r*9940570264628428797#64*primeW.w0).toNat=(r.toNat*18446744073709551615) % 18446744073709551616:=by
 rw [BitVec.mul_assoc,BitVec.toNat_mul]
 rfl
theorem mp_low (r:BitVec 64):(mul64 (r*9940570264628428797#64) primeW.w0).2+r+bitW false=0#64:=by
 apply BitVec.eq_of_toNat_eq
 show (r*9940570264628428797#64*primeW.w0+r+bitW false).toNat=0
 have hr:=r.isLt
 rw [BitVec.toNat_add,BitVec.toNat_add,mp_inv,bitW_nat]
 show ((r.toNat*18446744073709551615 % 18446744073709551616+r.toNat) % 18446744073709551616+0) % 18446744073709551616=0
 omega
theorem q_words:primeW.w0.toNat=13402431016077863595 /\ primeW.w1.toNat=2210141511517208575 /\ primeW.w2.toNat=7435674573564081700 /\ primeW.w3.toNat=7239337960414712511 /\ primeW.w4.toNat=5412103778470702295 /\ primeW.w5.toNat=1873798617647539866:=by decide +kernel
theorem mp_end {xA A T q v k:Nat} (ha:A < 4002409555221667393417789825735904156556882819939007885332058136124031650490837864442687629129015664037894272559787) (ht:T < A+4002409555221667393417789825735904156556882819939007885332058136124031650490837864442687629129015664037894272559787) (hx:xA <= 18446744073709551615*A) (hq:q < 18446744073709551616) (hs:18446744073709551616*v+726838724295606890549323807888004534353641360687318060281490199180639288113397923326191050713763565560762521606266177933534601628614656*k=xA+T+q*4002409555221667393417789825735904156556882819939007885332058136124031650490837864442687629129015664037894272559787):k=0 /\ v < A+4002409555221667393417789825735904156556882819939007885332058136124031650490837864442687629129015664037894272559787 /\ 18446744073709551616*v=xA+T+q*4002409555221667393417789825735904156556882819939007885332058136124031650490837864442687629129015664037894272559787:=by
 have hk:k=0:=by omega
 subst hk
 omega
theorem mp_carry {q r m1 m2:Nat} {c:Nat} (hc:c <= 1) (hq:q < 18446744073709551616) (hm:m2+18446744073709551616*m1=q*13402431016077863595) (hs:18446744073709551616*c=m2+r):m1+c < 18446744073709551616 /\ 18446744073709551616*(m1+c)=q*13402431016077863595+r:=by
 omega
theorem mpRound_eq {a:W6} {x:BitVec 64} {t:W8} {r0 r1 r2 r3 r4 r5 s1 s2 s3 s4 s5 m:BitVec 64 × BitVec 64} {s0 s6 u6:BitVec 64 × Bool} {q k0:BitVec 64}
 (hr0:mac x a.w0 t.1.w0 (bitW false)=r0) (hr1:mac x a.w1 t.1.w1 r0.2=r1) (hr2:mac x a.w2 t.1.w2 r1.2=r2) (hr3:mac x a.w3 t.1.w3 r2.2=r3) (hr4:mac x a.w4 t.1.w4 r3.2=r4) (hr5:mac x a.w5 t.1.w5 r4.2=r5)
 (hu:add64 t.2.1 r5.2 false=u6) (hq:r0.1*9940570264628428797#64=q) (hm:mul64 q primeW.w0=m) (hs0:add64 m.2 r0.1 false=s0) (hk:m.1+bitW s0.2=k0)
 (hs1:mac q primeW.w1 r1.1 k0=s1) (hs2:mac q primeW.w2 r2.1 s1.2=s2) (hs3:mac q primeW.w3 r3.1 s2.2=s3) (hs4:mac q primeW.w4 r4.1 s3.2=s4) (hs5:mac q primeW.w5 r5.1 s4.2=s5) (hs6:add64 u6.1 s5.2 false=s6) :
 moRound mul64 add64 modP a x t=(⟨s1.1,s2.1,s3.1,s4.1,s5.1,s6.1⟩,bitW u6.2+bitW s6.2,bitW u6.2):=by
 subst hr0 hr1 hr2 hr3 hr4 hr5 hu hq hm hs0 hk hs1 hs2 hs3 hs4 hs5 hs6
 rfl
theorem mp_round (a:W6) (x:BitVec 64) (t:W8) (hw:t.2.1=0#64) (ha:a.val < pN) (ht:t.1.val < a.val+pN) :
 ∃ q:Nat,(moRound mul64 add64 modP a x t).2.1=0#64 /\ (moRound mul64 add64 modP a x t).1.val < a.val+pN /\ 18446744073709551616*(moRound mul64 add64 modP a x t).1.val=x.toNat*a.val+t.1.val+q*pN:=by
 obtain ⟨g0,g1,g2,g3,g4,g5⟩:=q_words
 obtain ⟨r0,hr0⟩:∃ r,mac x a.w0 t.1.w0 (bitW false)=r:=⟨_,rfl⟩
 obtain ⟨r1,hr1⟩:∃ r,mac x a.w1 t.1.w1 r0.2=r:=⟨_,rfl⟩
 obtain ⟨r2,hr2⟩:∃ r,mac x a.w2 t.1.w2 r1.2=r:=⟨_,rfl⟩
 obtain ⟨r3,hr3⟩:∃ r,mac x a.w3 t.1.w3 r2.2=r:=⟨_,rfl⟩
 obtain ⟨r4,hr4⟩:∃ r,mac x a.w4 t.1.w4 r3.2=r:=⟨_,rfl⟩
 obtain ⟨r5,hr5⟩:∃ r,mac x a.w5 t.1.w5 r4.2=r:=⟨_,rfl⟩
 obtain ⟨q,hq⟩:∃ q,r0.1*9940570264628428797#64=q:=⟨_,rfl⟩
 obtain ⟨m,hm⟩:∃ m,mul64 q primeW.w0=m:=⟨_,rfl⟩
 obtain ⟨s0,hs0⟩:∃ s,add64 m.2 r0.1 false=s:=⟨_,rfl⟩
 obtain ⟨k0,hk⟩:∃ k,m.1+bitW s0.2=k:=⟨_,rfl⟩
 obtain ⟨s1,hs1⟩:∃ s,mac q primeW.w1 r1.1 k0=s:=⟨_,rfl⟩
 obtain ⟨s2,hs2⟩:∃ s,mac q primeW.w2 r2.1 s1.2=s:=⟨_,rfl⟩
 obtain ⟨s3,hs3⟩:∃ s,mac q primeW.w3 r3.1 s2.2=s:=⟨_,rfl⟩
 obtain ⟨s4,hs4⟩:∃ s,mac q primeW.w4 r4.1 s3.2=s:=⟨_,rfl⟩
 obtain ⟨s5,hs5⟩:∃ s,mac q primeW.w5 r5.1 s4.2=s:=⟨_,rfl⟩
 have hu:add64 t.2.1 r5.2 false=(r5.2,false):=by rw [hw];exact add_zero64 _
 obtain ⟨s6,hs6⟩:∃ s,add64 r5.2 s5.2 false=s:=⟨_,rfl⟩
 have hres:=mpRound_eq hr0 hr1 hr2 hr3 hr4 hr5 hu hq hm hs0 hk hs1 hs2 hs3 hs4 hs5 hs6
 have e0:=mac_nat x a.w0 t.1.w0 (bitW false)
 rw [hr0,show (bitW false).toNat=0 from rfl,Nat.add_zero] at e0
 have e1:=mac_nat x a.w1 t.1.w1 r0.2
 rw [hr1] at e1
 have e2:=mac_nat x a.w2 t.1.w2 r1.2
 rw [hr2] at e2
 have e3:=mac_nat x a.w3 t.1.w3 r2.2
 rw [hr3] at e3
 have e4:=mac_nat x a.w4 t.1.w4 r3.2
 rw [hr4] at e4
 have e5:=mac_nat x a.w5 t.1.w5 r4.2
 rw [hr5] at e5
 have lz:=mp_low r0.1
 rw [hq,hm] at lz
 have m0:=mul64_nat q primeW.w0
 rw [hm,g0] at m0
 have z0:=add64_nat m.2 r0.1 false
 rw [show (add64 m.2 r0.1 false).1=0#64 from lz,hs0,show b2n false=0 from rfl,show (0#64).toNat=0 from rfl,Nat.add_zero,Nat.zero_add] at z0
 obtain ⟨c1,c2⟩:=mp_carry (b2n_le s0.2) q.isLt m0 z0
 have hk0:k0.toNat=m.1.toNat+b2n s0.2:=by
  rw [<- hk,BitVec.toNat_add,bitW_nat]
  exact Nat.mod_eq_of_lt c1
 rw [<- hk0] at c2
 have f1:=mac_nat q primeW.w1 r1.1 k0
 rw [hs1,g1] at f1
 have f2:=mac_nat q primeW.w2 r2.1 s1.2
 rw [hs2,g2] at f2
 have f3:=mac_nat q primeW.w3 r3.1 s2.2
 rw [hs3,g3] at f3
 have f4:=mac_nat q primeW.w4 r4.1 s3.2
 rw [hs4,g4] at f4
 have f5:=mac_nat q primeW.w5 r5.1 s4.2
 rw [hs5,g5] at f5
 have f6:=add64_nat r5.2 s5.2 false
 rw [hs6,show b2n false=0 from rfl,Nat.add_zero] at f6
 have sum:=mp_sum e0 e1 e2 e3 e4 e5 c2 f1 f2 f3 f4 f5 f6
 have xA:x.toNat*a.val <= 18446744073709551615*a.val:=Nat.mul_le_mul_right _ (Nat.le_of_lt_succ x.isLt)
 rw [<- val_mul x.toNat a] at sum
 obtain ⟨n1,n2,n3⟩:=mp_end (v:=(W6.mk s1.1 s2.1 s3.1 s4.1 s5.1 s6.1).val) (T:=t.1.val) ha ht xA q.isLt sum
 refine ⟨q.toNat,?_,?_,?_⟩
 . rw [hres]
   show bitW false+bitW s6.2=0#64
   cases hh:s6.2 with
   | false=>rfl
   | true=>rw [hh] at n1;cases n1
 . rw [hres];exact n2
 . rw [hres];exact n3
theorem mp_raw_sum {x1 q1 v1 x2 q2 v2 x3 q3 v3 x4 q4 v4 x5 q5 v5 x6 q6 v6:Nat} (h1:18446744073709551616*v1=x1+q1*4002409555221667393417789825735904156556882819939007885332058136124031650490837864442687629129015664037894272559787) (h2:18446744073709551616*v2=x2+v1+q2*4002409555221667393417789825735904156556882819939007885332058136124031650490837864442687629129015664037894272559787) (h3:18446744073709551616*v3=x3+v2+q3*4002409555221667393417789825735904156556882819939007885332058136124031650490837864442687629129015664037894272559787) (h4:18446744073709551616*v4=x4+v3+q4*4002409555221667393417789825735904156556882819939007885332058136124031650490837864442687629129015664037894272559787) (h5:18446744073709551616*v5=x5+v4+q5*4002409555221667393417789825735904156556882819939007885332058136124031650490837864442687629129015664037894272559787) (h6:18446744073709551616*v6=x6+v5+q6*4002409555221667393417789825735904156556882819939007885332058136124031650490837864442687629129015664037894272559787) :
 39402006196394479212279040100143613805079739270465446667948293404245721771497210611414266254884915640806627990306816*v6=(x1+18446744073709551616*x2+340282366920938463463374607431768211456*x3+6277101735386680763835789423207666416102355444464034512896*x4+115792089237316195423570985008687907853269984665640564039457584007913129639936*x5+2135987035920910082395021706169552114602704522356652769947041607822219725780640550022962086936576*x6)+(q1+18446744073709551616*q2+340282366920938463463374607431768211456*q3+6277101735386680763835789423207666416102355444464034512896*q4+115792089237316195423570985008687907853269984665640564039457584007913129639936*q5+2135987035920910082395021706169552114602704522356652769947041607822219725780640550022962086936576*q6)*4002409555221667393417789825735904156556882819939007885332058136124031650490837864442687629129015664037894272559787:=by
 omega
def rinvP:Nat:=3231460744492646417066832100176244795738767926513225105051837195607029917124509527734802654356338138714468589979680
theorem rinvP_ok:39402006196394479212279040100143613805079739270465446667948293404245721771497210611414266254884915640806627990306816*rinvP % pN=1:=by decide +kernel
theorem mpRaw_nat (a b:W6) (hb:b.val < pN):(moRaw mul64 add64 modP a b).1.val < b.val+pN /\ ∃ Q,39402006196394479212279040100143613805079739270465446667948293404245721771497210611414266254884915640806627990306816*(moRaw mul64 add64 modP a b).1.val=a.val*b.val+Q*pN:=by
 have zv:zero8.1.val=0:=rfl
 have hp:pN=4002409555221667393417789825735904156556882819939007885332058136124031650490837864442687629129015664037894272559787:=rfl
 unfold moRaw
 obtain ⟨q1,w1,l1,h1⟩:=mp_round b a.w0 zero8 rfl hb (by rw [zv];exact Nat.lt_of_lt_of_le (by decide +kernel:0 < pN) (Nat.le_add_left _ _))
 generalize moRound mul64 add64 modP b a.w0 zero8=t1 at w1 l1 h1 ⊢
 obtain ⟨q2,w2,l2,h2⟩:=mp_round b a.w1 t1 w1 hb l1
 generalize moRound mul64 add64 modP b a.w1 t1=t2 at w2 l2 h2 ⊢
 obtain ⟨q3,w3,l3,h3⟩:=mp_round b a.w2 t2 w2 hb l2
 generalize moRound mul64 add64 modP b a.w2 t2=t3 at w3 l3 h3 ⊢
 obtain ⟨q4,w4,l4,h4⟩:=mp_round b a.w3 t3 w3 hb l3
 generalize moRound mul64 add64 modP b a.w3 t3=t4 at w4 l4 h4 ⊢
 obtain ⟨q5,w5,l5,h5⟩:=mp_round b a.w4 t4 w4 hb l4
 generalize moRound mul64 add64 modP b a.w4 t4=t5 at w5 l5 h5 ⊢
 obtain ⟨q6,w6,l6,h6⟩:=mp_round b a.w5 t5 w5 hb l5
 generalize moRound mul64 add64 modP b a.w5 t5=t6 at w6 l6 h6 ⊢
 refine ⟨l6,q1+18446744073709551616*q2+340282366920938463463374607431768211456*q3+6277101735386680763835789423207666416102355444464034512896*q4+115792089237316195423570985008687907853269984665640564039457584007913129639936*q5+2135987035920910082395021706169552114602704522356652769947041607822219725780640550022962086936576*q6,?_⟩
 rw [zv,Nat.add_zero] at h1
 rw [hp] at h1 h2 h3 h4 h5 h6 ⊢
 have hb:a.val*b.val=(a.w0.toNat*b.val)+18446744073709551616*(a.w1.toNat*b.val)+340282366920938463463374607431768211456*(a.w2.toNat*b.val)+6277101735386680763835789423207666416102355444464034512896*(a.w3.toNat*b.val)+115792089237316195423570985008687907853269984665640564039457584007913129639936*(a.w4.toNat*b.val)+2135987035920910082395021706169552114602704522356652769947041607822219725780640550022962086936576*(a.w5.toNat*b.val):=by
  rw [Nat.mul_comm,val_mul]
  simp only [Nat.mul_comm b.val]
 rw [hb]
 exact mp_raw_sum h1 h2 h3 h4 h5 h6
theorem mpLess_nat (x:W6) (h:x.val < 2*pN):(moLessW modP x).val=x.val % pN:=by
 have h1:=subs_nat x primeW
 rw [prime_val] at h1
 have hl:=(subs x primeW).1.val_lt
 have e:moLessW modP x=bif !((subs x primeW).2 == true) then (subs x primeW).1 else x:=rfl
 rw [e]
 have hp:pN=4002409555221667393417789825735904156556882819939007885332058136124031650490837864442687629129015664037894272559787:=rfl
 rw [hp] at h h1 ⊢
 cases hb:(subs x primeW).2 with
 | true =>
  rw [hb,show b2n true=1 from rfl] at h1
  show x.val=_
  rw [Nat.mod_eq_of_lt (by omega)]
 | false =>
  rw [hb,show b2n false=0 from rfl] at h1
  show (subs x primeW).1.val=_
  rw [Nat.mod_eq_sub_mod (by omega),Nat.mod_eq_of_lt (by omega)]
  omega
theorem mpMont_nat (a b:W6) (hb:b.val < pN):(moMontW modP a b).val=a.val*b.val*rinvP % pN:=by
 obtain ⟨h1,Q,h2⟩:=mpRaw_nat a b hb
 have e:moMontW modP a b=moLessW modP (moRaw mul64 add64 modP a b).1:=rfl
 rw [e,mpLess_nat _ (Nat.lt_of_lt_of_le h1 (by rw [Nat.two_mul];exact Nat.add_le_add_right (Nat.le_of_lt hb) _))]
 exact wide_mul rinvP_ok h2
def wideP:Nat:=2708263910654730174793787626328176511836455197166317677006154293982164122222515399004018013397331347120527951271750
theorem wideP_val:modP.2.2.val=wideP:=by decide +kernel
def eqMo (a b:Mo):Bool:=bif eqW a.1 b.1 then (bif a.2.1 == b.2.1 then eqW a.2.2 b.2.2 else false) else false
theorem eqMo_ok (a b:Mo) (h:eqMo a b=true):a=b:=by
 obtain ⟨a1,a2,a3⟩:=a
 obtain ⟨b1,b2,b3⟩:=b
 unfold eqMo at h
 dsimp only at h
 cases h1:eqW a1 b1 with
 | false=>rw [h1] at h;cases h
 | true =>
  cases h2:(a2 == b2) with
  | false=>rw [h1,h2] at h;cases h
  | true =>
   rw [h1,h2] at h
   have h2:a2=b2:=by simpa using h2
   rw [(eqW_iff _ _).1 h1,h2,(eqW_iff _ _).1 h]
def cMP:CC Unit:=ccIs cFa modP eqMo (fun x h=>eqMo_ok x modP h)
structure PQ where
 mm:Mo->W6->W6->W6
 ln:W6->Int
 bt:W6->Int->Int
def pqT (t:PQ):PureTab:=[(33,fn1 kU c6.agg ofW),(103,fn1 c6.agg (kInt .i64) t.ln),(105,fn2 c6.agg (kInt .i64) (kInt .i64) t.bt)]
noncomputable def pqE (t:PQ):Env:=envA eqsT (pqT t) [(122,rdp 163 cFa mc0 kBool (fun m _=>moNone m)),(130,rdp 163 cFa (mc2 c6.agg c6.agg) c6.agg (fun m x=>t.mm m x.1 x.2))]
 [] [] [] [] true [122,130]
def pqK:Keep:=⟨[0,5,6,7,8,9],[0,2,3,20,21],28⟩
@[irreducible] noncomputable def pqX (t:PQ) (a e:W6):XS:=entryOf PR (pqE t) [31,41] (fun _=>none) 10 222 [.ptr 0 0,c6.agg.enc a,c6.agg.enc e] (oneAH cMP 163 ()) 1 0 pqK
@[irreducible] noncomputable def pqI (t:PQ) (a e:W6) (d:Int × W6):XS:=((pqX t a e).setT 9 (.v (.int .i64 d.1))).setB 21 (c6.enc d.2)
@[irreducible] noncomputable def pqC:Code:=roundOf PR 222 0
def pqA (t:PQ) (a:W6):W6:=t.mm modP a modP.2.2
def pq1 (t:PQ):W6:=t.mm modP (ofW (bitW true)) modP.2.2
set_option maxRecDepth 1000000 in
theorem pq_round (t:PQ) (a e:W6) (z:Int) (out:W6):(roundT PR (pqE t) [31,41] (fun _=>none) 10 pqK pqK pqK pqC (pqI t a e (z,out))).strict =
 .br (decide (z >= 0))
  (.br (t.bt e z == 1)
   (.leaf (.normal,pqI t a e (IntKind.i64.wrap (z - 1),t.mm modP (t.mm modP out out) (pqA t a))))
   (.leaf (.normal,pqI t a e (IntKind.i64.wrap (z - 1),t.mm modP out out))))
  (.leaf (.exit 0,pqI t a e (z,out))):=by kernel_rfl
set_option maxRecDepth 1000000 in
theorem pq_head (t:PQ) (a e:W6):pqX t a e=pqI t a e (IntKind.i64.wrap (t.ln e - 1),pq1 t):=by kernel_rfl
theorem pq_blk:blkAll 0 (bodyOf PR 222)=[.loop pqC]:=by kernel_rfl
@[irreducible] noncomputable def pqB (t:PQ) (a e:W6) (r:W6):BEnt:=⟨pqK.tm,pqK.ids,pqK.n,pqX t a e,.leaf (.normal,pqI t a e (-1,r))⟩
theorem pqB_n (t:PQ) (a e r:W6):(pqB t a e r).n=28 /\ (pqB t a e r).pre=pqX t a e /\ (pqB t a e r).post=.leaf (.normal,pqI t a e (-1,r)):=by
 unfold pqB
 exact ⟨rfl,rfl,rfl⟩
set_option maxRecDepth 1000000 in
theorem pq_run (t:PQ) (a e r:W6):((afun PR (pqE t) [31,41] (tabOf [(0,pqB t a e r)]) 10 222 [.ptr 0 0,c6.agg.enc a,c6.agg.enc e] (oneAH cMP 163 ()) 1).bind fun q=>.leaf q.1).strict =
 .same (pqX t a e) (pqX t a e) (.leaf (c6.agg.enc (t.mm modP r (ofW (bitW true))))):=by kernel_rfl
def pqO:PQ:=⟨moMontW,lenI,bitI⟩
theorem pqT_eq:[(33,fn1 kU c6.agg ofW),(103,fn1 c6.agg (kInt .i64) lenI),(105,fn2 c6.agg (kInt .i64) (kInt .i64) bitI)]=pqT pqO:=by kernel_rfl
theorem pqT_ok:TabPOk PR (pqT pqO):=Eq.subst (motive:=TabPOk PR) pqT_eq (TabPOk.cons of_ok (TabPOk.cons len_ok (TabPOk.cons bit_ok TabPOk.nil)))
theorem pqE_ok:EnvOk PR (pqE pqO):=envA_ok eqsT_ok pqT_ok (TabHOk.cons mn_ent mn_ok (TabHOk.cons mm_ent mm_ok TabHOk.nil)) TabLOk.nil TabAOk.nil
theorem pq_codeOk:codeOk (pqE pqO) pqC=true:=by kernel_rfl
def pqG (t:PQ) (a e:W6) (k:Nat) (u:W6):W6:=sqG (fun u=>t.mm modP u u) (fun u=>t.mm modP u (pqA t a)) (t.bt e) k u
def pqR (a e:W6):W6:=pqG pqO a e (lenI e).toNat (pq1 pqO)
theorem pq_start (a e:W6):∀ d:Int × W6,d=(IntKind.i64.wrap (pqO.ln e - 1),pq1 pqO)->-1 <= d.1 /\ d.1 <= 383 /\ pqG pqO a e (d.1+1).toNat d.2=pqR a e:=by
 rintro d rfl
 have hl:=lenI_le e
 have hw:IntKind.i64.wrap (pqO.ln e - 1)=lenI e - 1:=wrap_id (n:=lenI e - 1) (by omega) (by omega)
 rw [hw]
 refine ⟨?_,?_,?_⟩
 . show -1 <= lenI e - 1
   omega
 . show lenI e - 1 <= 383
   omega
 . show pqG pqO a e (lenI e - 1+1).toNat _=pqG pqO a e (lenI e).toNat _
   rw [show lenI e - 1+1=lenI e by omega]
theorem pq_loop (a e:W6) {Fr0:Fr} {ds:List Deferred} {Q:AExit->XS->Prop} (hK:Q .normal (pqI pqO a e (-1,pqR a e))) :
 Tri PR Fr0 ds 1 (.block 0 (.loop pqC)) (pqX pqO a e) Q :=
 Eq.subst (motive:=fun y=>Tri PR Fr0 ds 1 (.block 0 (.loop pqC)) y Q) (pq_head pqO a e).symm <| blockLoop (m:=1) pqE_ok mixed (sym:=[31,41]) (tab:=fun _=>none) (lf:=10) (k:=pqK) (kx:=pqK) (kr:=pqK) (by decide) (by decide) (by decide) pq_codeOk (tabOk_none _)
  (pqI pqO a e) (fun d=>-1 <= d.1 /\ d.1 <= 383 /\ pqG pqO a e (d.1+1).toNat d.2=pqR a e) (fun d=>(d.1+1).toNat) _ (pq_start a e _ rfl)
  (sq_law (fun u=>pqO.mm modP u u) (fun u=>pqO.mm modP u (pqA pqO a)) (pqO.bt e) _ (pqI pqO a e) (pq_round pqO a e) hK)
def powP (a e:W6):W6:=pqO.mm modP (pqR a e) (ofW (bitW true))
theorem pow_ent:Enters PR 222:=entersB (by kernel_rfl)
theorem sameH {t:Tree (AV × AH)} {x:XS} {B:Cod W6} {y:W6} (h:(t.bind fun q=>.leaf q.1).strict=.same x x (.leaf (B.enc y))):GivesH t (B.val y) :=
 ⟨Tree.holds_bind (K:=fun q:AV=>flat q=some (B.val y)) (g:=fun q:AV × AH=>Tree.leaf q.1) (Tree.holds_strict (by rw [h];exact ⟨rfl,B.h1 y⟩))⟩
theorem pow_gives (t:PQ) (x:W6 × W6) (r:W6):GivesH (afun PR (pqE t) [31,41] (tabOf [(0,pqB t x.1 x.2 r)]) 10 222 (.ptr 0 0 :: (mc2 c6.agg c6.agg).enc x) (oneAH cMP 163 ()) 1) (c6.agg.val (t.mm modP r (ofW (bitW true)))) :=
 sameH (pq_run t x.1 x.2 r)
theorem pow_giv (x:W6 × W6):GivesH (afun PR (pqE pqO) [31,41] (tabOf [(0,pqB pqO x.1 x.2 (pqR x.1 x.2))]) 10 222 (.ptr 0 0 :: (mc2 c6.agg c6.agg).enc x) (oneAH cMP 163 ()) 1) (c6.agg.val (powP x.1 x.2)):=by
 unfold powP
 exact pow_gives pqO x (pqR x.1 x.2)
theorem pow_tab (x:W6 × W6):TabOk PR 1 (tabOf [(0,pqB pqO x.1 x.2 (pqR x.1 x.2))]) (bodyOf PR 222) :=
 tabOk_one (by rw [(pqB_n pqO x.1 x.2 (pqR x.1 x.2)).1];decide) pq_blk fun Fr0 ds Q h=>by
  obtain ⟨-,h2,h3⟩:=pqB_n pqO x.1 x.2 (pqR x.1 x.2)
  rw [h3] at h
  rw [h2]
  exact pq_loop x.1 x.2 h
noncomputable def pqTab (_:Unit) (x:W6 × W6):BTab:=tabOf [(0,pqB pqO x.1 x.2 (pqR x.1 x.2))]
def powF (_:Unit) (x:W6 × W6):W6:=powP x.1 x.2
theorem pow_tab2 (u:Unit) (x:W6 × W6):TabOk PR 1 (pqTab u x) (bodyOf PR 222):=by
 unfold pqTab
 exact pow_tab x
theorem pow_giv2 (u:Unit) (x:W6 × W6):GivesH (afun PR (pqE pqO) [31,41] (pqTab u x) 10 222 (.ptr 0 0 :: (mc2 c6.agg c6.agg).enc x) (oneAH cMP 163 u) 1) (c6.agg.val (powF u x)):=by
 unfold pqTab powF
 cases u
 exact pow_giv x
theorem pow_code:codeOk (pqE pqO) (bodyOf PR 222)=true:=by kernel_rfl
theorem pow_body:(Tryz.f222).body=some (bodyOf PR 222):=by kernel_rfl
theorem pow_fn:PR.funcs.toList[222]?=some Tryz.f222:=by kernel_rfl
theorem pow_okH:HeapOk PR 222 (rdp 163 cMP (mc2 c6.agg c6.agg) c6.agg powF) :=
 rdpT_ok (E:=pqE pqO) (sym:=[31,41]) (lf:=10) (tab:=pqTab) pqE_ok mixed pow_fn pow_body pow_code pow_tab2 pow_giv2
def gE:W6:=⟨0xee7fbfffffffeaab#64,0x7aaffffac54ffff#64,0xd9cc34a83dac3d89#64,0xd91dd2e13ce144af#64,0x92c6e9ed90d2eb35#64,0x680447a8e5ff9a6#64⟩
def tabF {α β:Type} (e:α->α->Bool) (tab:List (α × β)) (F:α->β) (z:α):β:=match lookT e tab z with
 | some y=>y
 | none=>F z
theorem tabF_eq {α β:Type} {e:α->α->Bool} (he:∀ x y,e x y=true->x=y) {tab:List (α × β)} {F:α->β} (ht:∀ p ∈ tab,F p.1=p.2):tabF e tab F=F:=by
 funext z
 unfold tabF
 split
 . rename_i y hy
   exact (ht _ (lookT_mem he hy)).symm
 . rfl
def eqW2:W6 × W6->W6 × W6->Bool:=pairB eqW eqW
theorem eqW2_ok (x y:W6 × W6) (h:eqW2 x y=true):x=y:=pairB_eq eqW_ok eqW_ok x y h
def sqN (p r A:Nat) (bt:Nat->Bool):Nat->Nat->Nat
 | 0,u=>u
 | k+1,u=>forceN (bif bt k then (u*u*r % p)*A*r % p else u*u*r % p) fun v=>sqN p r A bt k v
theorem sq_nat {p r:Nat} {mm:W6->W6->W6} (hp:0 < p) (hm:∀ a b,b.val < p->(mm a b).val=a.val*b.val*r % p) {x:W6} (hx:x.val < p) (bt:Int->Int):∀ (k:Nat) (u:W6),u.val < p ->
 (sqG (fun u=>mm u u) (fun u=>mm u x) bt k u).val=sqN p r x.val (fun i=>bt (i:Int) == 1) k u.val
 | 0,u,h=>rfl
 | k+1,u,h=>by
  have h1:=hm u u h
  have h2:=hm (mm u u) x hx
  simp only [sqG,sqN,forceN_eq]
  cases bt (k:Int) == 1
  . simp only [cond_false]
    rw [sq_nat hp hm hx bt k (mm u u) (by rw [h1];exact Nat.mod_lt _ hp),h1]
  . simp only [cond_true]
    rw [sq_nat hp hm hx bt k (mm (mm u u) x) (by rw [h2];exact Nat.mod_lt _ hp),h2,h1]
theorem wide_lt:modP.2.2.val < pN:=by rw [wideP_val];decide +kernel
theorem oneV_val:(ofW (bitW true)).val=1:=by decide +kernel
theorem oneV_lt:(ofW (bitW true)).val < pN:=by rw [oneV_val];decide +kernel
theorem pqO_mm:pqO.mm=moMontW:=by simp only [pqO]
theorem pqO_bt:pqO.bt=bitI:=by simp only [pqO]
theorem pow_def (a e:W6):powF () (a,e)=moMontW modP (sqG (fun u=>moMontW modP u u) (fun u=>moMontW modP u (moMontW modP a modP.2.2)) (bitI e) (lenI e).toNat (moMontW modP (ofW (bitW true)) modP.2.2)) (ofW (bitW true)):=by
 unfold powF powP pqR pqG pqA pq1
 rw [pqO_mm,pqO_bt]
theorem pow_is {a e c:W6} (h:sqN pN rinvP (a.val*wideP*rinvP % pN) (fun i=>bitI e (i:Int) == 1) (lenI e).toNat (1*wideP*rinvP % pN)*1*rinvP % pN=c.val):powF () (a,e)=c:=by
 apply W6.val_inj
 have h1:=mpMont_nat a modP.2.2 wide_lt
 have h2:=mpMont_nat (ofW (bitW true)) modP.2.2 wide_lt
 rw [wideP_val] at h1 h2
 rw [oneV_val] at h2
 have l1:(moMontW modP a modP.2.2).val < pN:=by rw [h1];exact Nat.mod_lt _ pN_pos
 have l2:(moMontW modP (ofW (bitW true)) modP.2.2).val < pN:=by rw [h2];exact Nat.mod_lt _ pN_pos
 have h3:=sq_nat pN_pos (mm:=moMontW modP) (r:=rinvP) (fun a b hb=>mpMont_nat a b hb) l1 (bitI e) (lenI e).toNat (moMontW modP (ofW (bitW true)) modP.2.2) l2
 rw [pow_def,mpMont_nat _ _ oneV_lt,h3,h1,h2,oneV_val,h]
end Go.Rq

namespace Go.Rq.Cl
open Go Go.Proofs Go.Rq Go.Rq.Sm
def nrV0:W6:=⟨0xdca0e43cc01c1e97#64,0xa1a5e02e458402e4#64,0x84656a77e7c62938#64,0x45e2382030e3402b#64,0x7234e007ccedeefa#64,0x1176d0d1c11ed36e#64⟩
def nrC0:W6:=⟨0x9109cadcbb1bbc14#64,0x863fd8352297f092#64,0xa6604aca6cc998f3#64,0x10efbb585ff32357#64,0x6da14a3f2ef76bbe#64,0x14fdaa5380b56d0b#64⟩
def nrV1:W6:=⟨0xa43d4c6d8c64d12b#64,0x9cb42c735420fa79#64,0x88e1f21efe7f135b#64,0xb7865d2aab4b91d0#64,0x3a3a7d3ba4304659#64,0x146084488fdbd3f5#64⟩
def nrC1:W6:=⟨0x5050efb955cde0b3#64,0xe9829c35b4c5581c#64,0x3a2338513d782a2f#64,0xdd2afbd21797a725#64,0xddf88391cb1a844e#64,0x187fb1562b36f404#64⟩
def nrV2:W6:=⟨0xc42d209c142901d6#64,0x10a791d60ef40afe#64,0x79609c505ca0af25#64,0xaf2e3347adfa4928#64,0x64eb0ad68db0a1e8#64,0xb2a3eadbdbc0e8b#64⟩
def nrC2:W6:=⟨0xba284cc319c259bf#64,0x2d89588636e772a7#64,0x7a44750a03b2673f#64,0x980783b9c058071b#64,0xaeb01a99a828cf19#64,0xe4c405cab0cec16#64⟩
def nrX:W6:=⟨0xebb811ff9f3f1505#64,0xce26d9844ab30427#64,0xdaee19bcdc9498ad#64,0x9de6edf03b239a52#64,0x60aa5141a4b02c73#64,0xafb34c781f07cfa#64⟩
def nrY:W6:=⟨0xffd6b33ce63d50ec#64,0xf122a7787a6c8d57#64,0xecec5d96f2fe8ee4#64,0xcc6fc7cb332d0ba3#64,0x9c6b8d1c9b22ddbd#64,0xbb4d18d8e72fa83#64⟩
def hgX:W6:=⟨0x6ef6877fbe80a20c#64,0xe10ef31965744147#64,0x8c9038d73d035c33#64,0x9b3751129adffc3c#64,0x9a5a1b3ec3cdd113#64,0x1d19945a1b04f33#64⟩
def hgY:W6:=⟨0xcdb086122f8bea55#64,0xd1f592919dea7dcc#64,0xe76ee0b8f62541d7#64,0xfb6b5857fd3754fe#64,0x421576e6c6e88629#64,0x93f62d2455ad78c#64⟩
def nrP:Ap W6:=⟨nrX,nrY,false⟩
def hgP:Ap W6:=⟨hgX,hgY,false⟩
def clN:W6:=⟨0x8c00aaab0000aaab#64,0x396c8c005555e156#64,0x0#64,0x0#64,0x0#64,0x0#64⟩
def tPowB:List ((W6 × W6) × W6):=[((nrV0,gE),nrC0),((nrV1,gE),nrC1),((nrV2,gE),nrC2)]
theorem tPowB_ok:∀ p ∈ tPowB,powF () p.1=p.2:=fun p hp=>by
 simp only [tPowB,List.mem_cons,List.not_mem_nil,or_false] at hp
 rcases hp with rfl | rfl | rfl <;> exact pow_is (by decide +kernel)
noncomputable def nrPw:List AV->AH->Option (Bool × AV × AH):=rdp 163 cMP (mc2 c6.agg c6.agg) c6.agg (fun u=>tabF eqW2 tPowB (powF u))
theorem nrPw_ok:HeapOk PR 222 nrPw:=by
 have e:(fun u=>tabF eqW2 tPowB (powF u))=powF:=by
  funext u
  cases u
  exact tabF_eq eqW2_ok tPowB_ok
 unfold nrPw
 rw [e]
 exact pow_okH
set_option maxRecDepth 1000000 in
theorem below_nr:belowP1 nrP=true:=by kernel_rfl
set_option maxRecDepth 1000000 in
theorem mul_nr:sumP1W nrP clN=(hgP,0):=mul1_of below_nr (by kernel_rfl)
def tMulB:List ((Ap W6 × W6) × (Ap W6 × Int)):=[((nrP,clN),(hgP,0))]
theorem tMulB_ok:∀ p ∈ tMulB,sumP1W p.1.1 p.1.2=p.2:=fun p hp=>by
 simp only [tMulB,List.mem_cons,List.not_mem_nil,or_false] at hp
 rw [hp]
 exact mul_nr
noncomputable def nrMu:List AV->Option (Bool × AV):=fnT2 aW.agg c6.agg kPW eqAp eqW tMulB
theorem nrMu_ok:CallOk PR 73 nrMu:=callT2 eqAp_ok eqW_ok tMulB_ok mulp1_ok
def clS:ByteArray:=⟨#[51,57,54,99,56,99,48,48,53,53,53,53,101,49,53,54,56,99,48,48,97,97,97,98,48,48,48,48,97,97,97,98]⟩
set_option maxRecDepth 1000000 in
theorem cl_parse:(afunR PR (envOf eqsT parseT) [] (fun _=>none) 110 168 [kStr.enc clS]).strict=.leaf (kNE.enc (clN,0)):=by kernel_rfl
def tParse:List (ByteArray × (W6 × Int)):=[(clS,(clN,0))]
noncomputable def nrPa:List AV->Option (Bool × AV):=fnT1 kStr kNE eqStr tParse
theorem nrPa_ok:CallOk PR 168 nrPa :=
 .inl ⟨entersB (by kernel_rfl),tabT1 (B:=kNE) parse_ctx eqStr_ok (fun p hp=>by
  simp only [tParse,List.mem_cons,List.not_mem_nil,or_false] at hp
  rw [hp]
  exact leafVal (B:=kNE) cl_parse)⟩
def hG:Kz:=(0,(hgX,hgY,false),zLx)
set_option maxRecDepth 1000000 in
theorem in_hg:inGroup1 hgP=true:=by
 rw [in1_of];kernel_rfl
end Go.Rq.Cl

namespace Go.Rq.Ch
open Go Go.Proofs Go.Rq Go.Rq.Sm Go.Rq.Cl
noncomputable def e108:Env:=envD eqsT [] [] [] [] [] false []
theorem e108_ok:EnvOk PR e108:=envD_ok eqsT_ok TabPOk.nil TabHOk.nil TabLOk.nil TabDOk.nil
theorem cx108:Ctx PR e108 [] (fun _=>none) 2000 108:=ctxB e108_ok mixed (by kernel_rfl)
theorem n108:Enters PR 108:=entersB (by kernel_rfl)
noncomputable def g108:List AV->Option (Bool × AV):=(inlineC PR e108 4 2000 108)
theorem g108_ok:CallOk PR 108 g108:=(.inl ⟨n108,inlineC_ok cx108 rfl rfl⟩)
noncomputable def e59:Env:=envD eqsT [(108,g108)] [] [] [] [] false []
theorem e59_ok:EnvOk PR e59:=envD_ok eqsT_ok (TabPOk.cons g108_ok TabPOk.nil) TabHOk.nil TabLOk.nil TabDOk.nil
theorem cx59:Ctx PR e59 [] (fun _=>none) 2000 59:=ctxB e59_ok mixed (by kernel_rfl)
theorem n59:Enters PR 59:=entersB (by kernel_rfl)
noncomputable def g59:List AV->Option (Bool × AV):=(inlineC PR e59 4 2000 59)
theorem g59_ok:CallOk PR 59 g59:=(.inl ⟨n59,inlineC_ok cx59 rfl rfl⟩)
noncomputable def e30:Env:=envD eqsT [(59,g59)] [] [] [] [] false []
theorem e30_ok:EnvOk PR e30:=envD_ok eqsT_ok (TabPOk.cons g59_ok TabPOk.nil) TabHOk.nil TabLOk.nil TabDOk.nil
theorem cx30:Ctx PR e30 [] (fun _=>none) 2000 30:=ctxB e30_ok mixed (by kernel_rfl)
theorem n30:Enters PR 30:=entersB (by kernel_rfl)
noncomputable def g30:List AV->Option (Bool × AV):=(inlineC PR e30 5 2000 30)
theorem g30_ok:CallOk PR 30 g30:=(.inl ⟨n30,inlineC_ok cx30 rfl rfl⟩)
noncomputable def e60:Env:=envD eqsT [] [] [] [] [] false []
theorem e60_ok:EnvOk PR e60:=envD_ok eqsT_ok TabPOk.nil TabHOk.nil TabLOk.nil TabDOk.nil
theorem cx60:Ctx PR e60 [] (fun _=>none) 2000 60:=ctxB e60_ok mixed (by kernel_rfl)
theorem n60:Enters PR 60:=entersB (by kernel_rfl)
noncomputable def g60:List AV->Option (Bool × AV):=(inlineC PR e60 4 2000 60)
theorem g60_ok:CallOk PR 60 g60:=(.inl ⟨n60,inlineC_ok cx60 rfl rfl⟩)
noncomputable def e109:Env:=envD eqsT [] [] [] [] [] false []
theorem e109_ok:EnvOk PR e109:=envD_ok eqsT_ok TabPOk.nil TabHOk.nil TabLOk.nil TabDOk.nil
theorem cx109:Ctx PR e109 [] (fun _=>none) 2000 109:=ctxB e109_ok mixed (by kernel_rfl)
theorem n109:Enters PR 109:=entersB (by kernel_rfl)
noncomputable def g109:List AV->AH->Nat->Option (Bool × AV × AH):=deepC PR e109 4 2000 109 4096 true
theorem g109_ok:ActOk PR 4096 109 g109:=deepC_ok cx109 rfl rfl
noncomputable def e61:Env:=envD eqsT [] [] [] [(109,g109)] [] false [109]
theorem e61_ok:EnvOk PR e61:=envD_ok eqsT_ok TabPOk.nil TabHOk.nil TabLOk.nil (TabDOk.cons n109 g109_ok TabDOk.nil)
theorem cx61:Ctx PR e61 [] (fun _=>none) 2000 61:=ctxB e61_ok mixed (by kernel_rfl)
theorem n61:Enters PR 61:=entersB (by kernel_rfl)
noncomputable def g61:List AV->AH->Nat->Option (Bool × AV × AH):=deepC PR e61 5 2000 61 4096 true
theorem g61_ok:ActOk PR 4096 61 g61:=deepC_ok cx61 rfl rfl
noncomputable def e117:Env:=envD eqsT [] [] [] [] [] false []
theorem e117_ok:EnvOk PR e117:=envD_ok eqsT_ok TabPOk.nil TabHOk.nil TabLOk.nil TabDOk.nil
theorem cx117:Ctx PR e117 [] (fun _=>none) 2000 117:=ctxB e117_ok mixed (by kernel_rfl)
theorem n117:Enters PR 117:=entersB (by kernel_rfl)
noncomputable def g117:List AV->Option (Bool × AV):=(inlineC PR e117 1 2000 117)
theorem g117_ok:CallOk PR 117 g117:=(.inl ⟨n117,inlineC_ok cx117 rfl rfl⟩)
noncomputable def e110:Env:=envD eqsT [(117,g117)] [] [(115,(layP kMd 163 cFa 0 modS))] [] [] false []
theorem e110_ok:EnvOk PR e110:=envD_ok eqsT_ok (TabPOk.cons g117_ok TabPOk.nil) TabHOk.nil (TabLOk.cons nw_ent newS_okL TabLOk.nil) TabDOk.nil
theorem cx110:Ctx PR e110 [] (fun _=>none) 2000 110:=ctxB e110_ok mixed (by kernel_rfl)
theorem n110:Enters PR 110:=entersB (by kernel_rfl)
noncomputable def g110:List AV->AH->Nat->Option (Bool × AV × AH):=deepC PR e110 4 2000 110 4096 true
theorem g110_ok:ActOk PR 4096 110 g110:=deepC_ok cx110 rfl rfl
noncomputable def e104:Env:=envD eqsT [] [] [] [] [] false []
theorem e104_ok:EnvOk PR e104:=envD_ok eqsT_ok TabPOk.nil TabHOk.nil TabLOk.nil TabDOk.nil
theorem cx104:Ctx PR e104 [] (fun _=>none) 2000 104:=ctxB e104_ok mixed (by kernel_rfl)
theorem n104:Enters PR 104:=entersB (by kernel_rfl)
noncomputable def g104:List AV->Option (Bool × AV):=(inlineC PR e104 7 2000 104)
theorem g104_ok:CallOk PR 104 g104:=(.inl ⟨n104,inlineC_ok cx104 rfl rfl⟩)
noncomputable def e169:Env:=envD eqsT [(33,(fn1 kU c6.agg ofW)),(86,(fn2 c6.agg c6.agg (kInt .i64) fun a b=>chainV (cmpL a b) 0)),(104,g104),(123,(fn2 c6.agg c6.agg kWB wAddW))] [(69,(rdp 163 cFa (mc1 c6.agg) c6.agg (fun m x=>qsubW m zeroW x))),(82,(rdp 163 cFa (mc2 c6.agg c6.agg) c6.agg (fun m x=>qmulW m x.1 x.2))),(111,(rdp 163 cFa (mc1 c6.agg) c6.agg moRedW)),(122,(rdp 163 cFa mc0 kBool (fun m _=>moNone m))),(222,nrPw)] [] [] [] false [69,82,111,122,222]
theorem e169_ok:EnvOk PR e169:=envD_ok eqsT_ok (TabPOk.cons of_ok (TabPOk.cons cmp_ok (TabPOk.cons g104_ok (TabPOk.cons wadd_ok TabPOk.nil)))) (TabHOk.cons qneg_ent qneg_ok (TabHOk.cons qmul_ent qmul_ok (TabHOk.cons mred_ent mred_ok (TabHOk.cons mn_ent mn_ok (TabHOk.cons pow_ent nrPw_ok TabHOk.nil))))) TabLOk.nil TabDOk.nil
theorem cx169:Ctx PR e169 [] (fun _=>none) 2000 169:=ctxB e169_ok mixed (by kernel_rfl)
theorem n169:Enters PR 169:=entersB (by kernel_rfl)
noncomputable def g169:List AV->AH->Nat->Option (Bool × AV × AH):=deepC PR e169 6 2000 169 4096 true
theorem g169_ok:ActOk PR 4096 169 g169:=deepC_ok cx169 rfl rfl
noncomputable def e112:Env:=envD eqsT [(33,(fn1 kU c6.agg ofW))] [(71,(rdp 163 cFa (mc2 c6.agg c6.agg) c6.agg (fun m x=>qaddW m x.1 x.2))),(82,(rdp 163 cFa (mc2 c6.agg c6.agg) c6.agg (fun m x=>qmulW m x.1 x.2)))] [] [(110,g110),(169,g169)] [] false [110,169,71,82]
theorem e112_ok:EnvOk PR e112:=envD_ok eqsT_ok (TabPOk.cons of_ok TabPOk.nil) (TabHOk.cons qadd_ent qadd_ok (TabHOk.cons qmul_ent qmul_ok TabHOk.nil)) TabLOk.nil (TabDOk.cons n110 g110_ok (TabDOk.cons n169 g169_ok TabDOk.nil))
theorem cx112:Ctx PR e112 [] (fun _=>none) 2000 112:=ctxB e112_ok mixed (by kernel_rfl)
theorem n112:Enters PR 112:=entersB (by kernel_rfl)
noncomputable def g112:List AV->Option (Bool × AV):=(inlineC PR e112 5 2000 112)
theorem g112_ok:CallOk PR 112 g112:=(.inl ⟨n112,inlineC_ok cx112 rfl rfl⟩)
noncomputable def e62:Env:=envD eqsT [(33,(fn1 kU c6.agg ofW)),(112,g112)] [(71,(rdp 163 cFa (mc2 c6.agg c6.agg) c6.agg (fun m x=>qaddW m x.1 x.2))),(111,(rdp 163 cFa (mc1 c6.agg) c6.agg moRedW))] [] [(110,g110)] [] false [110,71,111]
theorem e62_ok:EnvOk PR e62:=envD_ok eqsT_ok (TabPOk.cons of_ok (TabPOk.cons g112_ok TabPOk.nil)) (TabHOk.cons qadd_ent qadd_ok (TabHOk.cons mred_ent mred_ok TabHOk.nil)) TabLOk.nil (TabDOk.cons n110 g110_ok TabDOk.nil)
theorem cx62:Ctx PR e62 [] (fun _=>none) 2000 62:=ctxB e62_ok mixed (by kernel_rfl)
theorem n62:Enters PR 62:=entersB (by kernel_rfl)
noncomputable def g62:List AV->Option (Bool × AV):=(inlineC PR e62 5 2000 62)
theorem g62_ok:CallOk PR 62 g62:=(.inl ⟨n62,inlineC_ok cx62 rfl rfl⟩)
noncomputable def e114:Env:=envD eqsT [] [] [] [] [] false []
theorem e114_ok:EnvOk PR e114:=envD_ok eqsT_ok TabPOk.nil TabHOk.nil TabLOk.nil TabDOk.nil
theorem cx114:Ctx PR e114 [] (fun _=>none) 2000 114:=ctxB e114_ok mixed (by kernel_rfl)
theorem n114:Enters PR 114:=entersB (by kernel_rfl)
noncomputable def g114:List AV->AH->Nat->Option (Bool × AV × AH):=deepC PR e114 6 2000 114 4096 true
theorem g114_ok:ActOk PR 4096 114 g114:=deepC_ok cx114 rfl rfl
noncomputable def e116:Env:=envD eqsT [] [(71,(rdp 163 cFa (mc2 c6.agg c6.agg) c6.agg (fun m x=>qaddW m x.1 x.2))),(122,(rdp 163 cFa mc0 kBool (fun m _=>moNone m))),(130,(rdp 163 cFa (mc2 c6.agg c6.agg) c6.agg (fun m x=>moMontW m x.1 x.2)))] [] [] [] false [71,122,130]
theorem e116_ok:EnvOk PR e116:=envD_ok eqsT_ok TabPOk.nil (TabHOk.cons qadd_ent qadd_ok (TabHOk.cons mn_ent mn_ok (TabHOk.cons mm_ent mm_ok TabHOk.nil))) TabLOk.nil TabDOk.nil
theorem cx116:Ctx PR e116 [] (fun _=>none) 2000 116:=ctxB e116_ok mixed (by kernel_rfl)
theorem n116:Enters PR 116:=entersB (by kernel_rfl)
noncomputable def g116:List AV->AH->Nat->Option (Bool × AV × AH):=deepC PR e116 5 2000 116 4096 true
theorem g116_ok:ActOk PR 4096 116 g116:=deepC_ok cx116 rfl rfl
noncomputable def e63:Env:=envD eqsT [] [(113,sumV)] [(115,(layP kMd 163 cFa 0 modS))] [(114,g114),(116,g116)] [] false [114,116,113]
theorem e63_ok:EnvOk PR e63:=envD_ok eqsT_ok TabPOk.nil (TabHOk.cons dsum_ent dsum_ok TabHOk.nil) (TabLOk.cons nw_ent newS_okL TabLOk.nil) (TabDOk.cons n114 g114_ok (TabDOk.cons n116 g116_ok TabDOk.nil))
theorem cx63:Ctx PR e63 [] (fun _=>none) 2000 63:=ctxB e63_ok mixed (by kernel_rfl)
theorem n63:Enters PR 63:=entersB (by kernel_rfl)
noncomputable def g63:List AV->AH->Nat->Option (Bool × AV × AH):=deepC PR e63 6 2000 63 4096 true
theorem g63_ok:ActOk PR 4096 63 g63:=deepC_ok cx63 rfl rfl
noncomputable def e118:Env:=envD eqsT [(108,g108)] [] [] [] [] false []
theorem e118_ok:EnvOk PR e118:=envD_ok eqsT_ok (TabPOk.cons g108_ok TabPOk.nil) TabHOk.nil TabLOk.nil TabDOk.nil
theorem cx118:Ctx PR e118 [] (fun _=>none) 2000 118:=ctxB e118_ok mixed (by kernel_rfl)
theorem n118:Enters PR 118:=entersB (by kernel_rfl)
noncomputable def g118:List AV->Option (Bool × AV):=(inlineC PR e118 4 2000 118)
theorem g118_ok:CallOk PR 118 g118:=(.inl ⟨n118,inlineC_ok cx118 rfl rfl⟩)
noncomputable def e64:Env:=envD eqsT [(33,(fn1 kU c6.agg ofW)),(117,g117),(118,g118)] [] [] [] [] false []
theorem e64_ok:EnvOk PR e64:=envD_ok eqsT_ok (TabPOk.cons of_ok (TabPOk.cons g117_ok (TabPOk.cons g118_ok TabPOk.nil))) TabHOk.nil TabLOk.nil TabDOk.nil
theorem cx64:Ctx PR e64 [] (fun _=>none) 2000 64:=ctxB e64_ok mixed (by kernel_rfl)
theorem n64:Enters PR 64:=entersB (by kernel_rfl)
noncomputable def g64:List AV->Option (Bool × AV):=(inlineC PR e64 4 2000 64)
theorem g64_ok:CallOk PR 64 g64:=(.inl ⟨n64,inlineC_ok cx64 rfl rfl⟩)
noncomputable def e119:Env:=envD eqsT [(168,nrPa)] [] [] [] [] false []
theorem e119_ok:EnvOk PR e119:=envD_ok eqsT_ok (TabPOk.cons nrPa_ok TabPOk.nil) TabHOk.nil TabLOk.nil TabDOk.nil
theorem cx119:Ctx PR e119 [] (fun _=>none) 2000 119:=ctxB e119_ok mixed (by kernel_rfl)
theorem n119:Enters PR 119:=entersB (by kernel_rfl)
noncomputable def g119:List AV->AH->Nat->Option (Bool × AV × AH):=deepC PR e119 4 2000 119 4096 true
theorem g119_ok:ActOk PR 4096 119 g119:=deepC_ok cx119 rfl rfl
noncomputable def e65:Env:=envD eqsT [(73,nrMu)] [] [] [(119,g119)] [] false [119]
theorem e65_ok:EnvOk PR e65:=envD_ok eqsT_ok (TabPOk.cons nrMu_ok TabPOk.nil) TabHOk.nil TabLOk.nil (TabDOk.cons n119 g119_ok TabDOk.nil)
theorem cx65:Ctx PR e65 [] (fun _=>none) 2000 65:=ctxB e65_ok mixed (by kernel_rfl)
theorem n65:Enters PR 65:=entersB (by kernel_rfl)
noncomputable def g65:List AV->Option (Bool × AV):=(inlineC PR e65 4 2000 65)
theorem g65_ok:CallOk PR 65 g65:=(.inl ⟨n65,inlineC_ok cx65 rfl rfl⟩)
noncomputable def e126:Env:=envD eqsT [(108,g108),(181,(fn2 kCv cLp.agg kBool onF))] [] [] [] [] false []
theorem e126_ok:EnvOk PR e126:=envD_ok eqsT_ok (TabPOk.cons g108_ok (TabPOk.cons lo_ok TabPOk.nil)) TabHOk.nil TabLOk.nil TabDOk.nil
theorem cx126:Ctx PR e126 [] (fun _=>none) 2000 126:=ctxB e126_ok mixed (by kernel_rfl)
theorem n126:Enters PR 126:=entersB (by kernel_rfl)
noncomputable def g126:List AV->AH->Nat->Option (Bool × AV × AH):=deepC PR e126 5 2000 126 4096 true
theorem g126_ok:ActOk PR 4096 126 g126:=deepC_ok cx126 rfl rfl
noncomputable def e120:Env:=envD eqsT [(173,(fn3 kCv kU kU kU lPow)),(174,(fn2 kCv kU kU lrF)),(175,(fn3 kCv kU kU kU lMul)),(176,(fn3 kCv kU kU kU lSub)),(177,(fn3 kCv kU kU kU lAdd))] [] [] [(126,g126)] [] false [126]
theorem e120_ok:EnvOk PR e120:=envD_ok eqsT_ok (TabPOk.cons pw_ok (TabPOk.cons lr_ok (TabPOk.cons lm_ok (TabPOk.cons ls_ok (TabPOk.cons la_ok TabPOk.nil))))) TabHOk.nil TabLOk.nil (TabDOk.cons n126 g126_ok TabDOk.nil)
theorem cx120:Ctx PR e120 [] (fun _=>none) 2000 120:=ctxB e120_ok mixed (by kernel_rfl)
theorem n120:Enters PR 120:=entersB (by kernel_rfl)
noncomputable def g120:List AV->Option (Bool × AV):=nrmG (inlineC PR e120 6 2000 120)
theorem g120_ok:CallOk PR 120 g120:=nrmG_ok (.inl ⟨n120,inlineC_ok cx120 rfl rfl⟩)
noncomputable def e121:Env:=envD eqsT [(127,(fn3 kCv cLp.agg kU cLp.agg lTimes))] [] [] [(126,g126)] [] false [126]
theorem e121_ok:EnvOk PR e121:=envD_ok eqsT_ok (TabPOk.cons tm_ok TabPOk.nil) TabHOk.nil TabLOk.nil (TabDOk.cons n126 g126_ok TabDOk.nil)
theorem cx121:Ctx PR e121 [] (fun _=>none) 2000 121:=ctxB e121_ok mixed (by kernel_rfl)
theorem n121:Enters PR 121:=entersB (by kernel_rfl)
noncomputable def g121:List AV->Option (Bool × AV):=(inlineC PR e121 5 2000 121)
theorem g121_ok:CallOk PR 121 g121:=(.inl ⟨n121,inlineC_ok cx121 rfl rfl⟩)
noncomputable def e66:Env:=envD eqsT [(64,g64),(120,g120),(121,g121)] [] [] [(63,g63)] [] false [63]
theorem e66_ok:EnvOk PR e66:=envD_ok eqsT_ok (TabPOk.cons g64_ok (TabPOk.cons g120_ok (TabPOk.cons g121_ok TabPOk.nil))) TabHOk.nil TabLOk.nil (TabDOk.cons n63 g63_ok TabDOk.nil)
theorem cx66:Ctx PR e66 [] (fun _=>none) 2000 66:=ctxB e66_ok mixed (by kernel_rfl)
theorem n66:Enters PR 66:=entersB (by kernel_rfl)
noncomputable def g66:List AV->AH->Nat->Option (Bool × AV × AH):=deepC PR e66 5 2000 66 4096 true
theorem g66_ok:ActOk PR 4096 66 g66:=deepC_ok cx66 rfl rfl
noncomputable def e31:Env:=envD eqsT [(60,g60),(62,g62),(64,g64),(65,g65)] [] [] [(61,g61),(63,g63),(66,g66)] [] false [61,63,66]
theorem e31_ok:EnvOk PR e31:=envD_ok eqsT_ok (TabPOk.cons g60_ok (TabPOk.cons g62_ok (TabPOk.cons g64_ok (TabPOk.cons g65_ok TabPOk.nil)))) TabHOk.nil TabLOk.nil (TabDOk.cons n61 g61_ok (TabDOk.cons n63 g63_ok (TabDOk.cons n66 g66_ok TabDOk.nil)))
theorem cx31:Ctx PR e31 [] (fun _=>none) 2000 31:=ctxB e31_ok mixed (by kernel_rfl)
theorem n31:Enters PR 31:=entersB (by kernel_rfl)
noncomputable def g31:List AV->Option (Bool × AV):=(inlineC PR e31 6 2000 31)
theorem g31_ok:CallOk PR 31 g31:=(.inl ⟨n31,inlineC_ok cx31 rfl rfl⟩)
noncomputable def e91:Env:=envD eqsT [(108,g108),(148,(fn2 kCv cLp.agg kBool inF))] [] [] [] [] false []
theorem e91_ok:EnvOk PR e91:=envD_ok eqsT_ok (TabPOk.cons g108_ok (TabPOk.cons lin_ok TabPOk.nil)) TabHOk.nil TabLOk.nil TabDOk.nil
theorem cx91:Ctx PR e91 [] (fun _=>none) 2000 91:=ctxB e91_ok mixed (by kernel_rfl)
theorem n91:Enters PR 91:=entersB (by kernel_rfl)
noncomputable def g91:List AV->Option (Bool × AV):=(inlineC PR e91 5 2000 91)
theorem g91_ok:CallOk PR 91 g91:=(.inl ⟨n91,inlineC_ok cx91 rfl rfl⟩)
noncomputable def e48:Env:=envD eqsT [(91,g91)] [] [] [] [] false []
theorem e48_ok:EnvOk PR e48:=envD_ok eqsT_ok (TabPOk.cons g91_ok TabPOk.nil) TabHOk.nil TabLOk.nil TabDOk.nil
theorem cx48:Ctx PR e48 [] (fun _=>none) 2000 48:=ctxB e48_ok mixed (by kernel_rfl)
theorem n48:Enters PR 48:=entersB (by kernel_rfl)
noncomputable def g48:List AV->Option (Bool × AV):=(inlineC PR e48 5 2000 48)
theorem g48_ok:CallOk PR 48 g48:=(.inl ⟨n48,inlineC_ok cx48 rfl rfl⟩)
noncomputable def e137:Env:=envD eqsT [(108,g108)] [] [] [] [] false []
theorem e137_ok:EnvOk PR e137:=envD_ok eqsT_ok (TabPOk.cons g108_ok TabPOk.nil) TabHOk.nil TabLOk.nil TabDOk.nil
theorem cx137:Ctx PR e137 [] (fun _=>none) 2000 137:=ctxB e137_ok mixed (by kernel_rfl)
theorem n137:Enters PR 137:=entersB (by kernel_rfl)
noncomputable def g137:List AV->Option (Bool × AV):=(inlineC PR e137 4 2000 137)
theorem g137_ok:CallOk PR 137 g137:=(.inl ⟨n137,inlineC_ok cx137 rfl rfl⟩)
noncomputable def e87:Env:=envD eqsT [(33,(fn1 kU c6.agg ofW)),(137,g137)] [] [] [] [] false []
theorem e87_ok:EnvOk PR e87:=envD_ok eqsT_ok (TabPOk.cons of_ok (TabPOk.cons g137_ok TabPOk.nil)) TabHOk.nil TabLOk.nil TabDOk.nil
theorem cx87:Ctx PR e87 [] (fun _=>none) 2000 87:=ctxB e87_ok mixed (by kernel_rfl)
theorem n87:Enters PR 87:=entersB (by kernel_rfl)
noncomputable def g87:List AV->Option (Bool × AV):=(inlineC PR e87 4 2000 87)
theorem g87_ok:CallOk PR 87 g87:=(.inl ⟨n87,inlineC_ok cx87 rfl rfl⟩)
noncomputable def e72:Env:=envD eqsT [(48,g48),(86,(fn2 c6.agg c6.agg (kInt .i64) fun a b=>chainV (cmpL a b) 0)),(87,g87)] [] [] [] [] false []
theorem e72_ok:EnvOk PR e72:=envD_ok eqsT_ok (TabPOk.cons g48_ok (TabPOk.cons cmp_ok (TabPOk.cons g87_ok TabPOk.nil))) TabHOk.nil TabLOk.nil TabDOk.nil
theorem cx72:Ctx PR e72 [] (fun _=>none) 2000 72:=ctxB e72_ok mixed (by kernel_rfl)
theorem n72:Enters PR 72:=entersB (by kernel_rfl)
noncomputable def g72:List AV->AH->Nat->Option (Bool × AV × AH):=deepC PR e72 6 2000 72 4096 true
theorem g72_ok:ActOk PR 4096 72 g72:=deepC_ok cx72 rfl rfl
noncomputable def e74:Env:=envD eqsT [(127,(fn3 kCv cLp.agg kU cLp.agg lTimes))] [] [] [(126,g126)] [] false [126]
theorem e74_ok:EnvOk PR e74:=envD_ok eqsT_ok (TabPOk.cons tm_ok TabPOk.nil) TabHOk.nil TabLOk.nil (TabDOk.cons n126 g126_ok TabDOk.nil)
theorem cx74:Ctx PR e74 [] (fun _=>none) 2000 74:=ctxB e74_ok mixed (by kernel_rfl)
theorem n74:Enters PR 74:=entersB (by kernel_rfl)
noncomputable def g74:List AV->Option (Bool × AV):=(inlineC PR e74 5 2000 74)
theorem g74_ok:CallOk PR 74 g74:=(.inl ⟨n74,inlineC_ok cx74 rfl rfl⟩)
noncomputable def e35:Env:=envD eqsT [(73,nrMu),(74,g74)] [] [] [(72,g72)] [] false [72]
theorem e35_ok:EnvOk PR e35:=envD_ok eqsT_ok (TabPOk.cons nrMu_ok (TabPOk.cons g74_ok TabPOk.nil)) TabHOk.nil TabLOk.nil (TabDOk.cons n72 g72_ok TabDOk.nil)
theorem cx35:Ctx PR e35 [] (fun _=>none) 2000 35:=ctxB e35_ok mixed (by kernel_rfl)
theorem n35:Enters PR 35:=entersB (by kernel_rfl)
noncomputable def g35:List AV->Option (Bool × AV):=(inlineC PR e35 6 2000 35)
theorem g35_ok:CallOk PR 35 g35:=(.inl ⟨n35,inlineC_ok cx35 rfl rfl⟩)
noncomputable def e76:Env:=envD eqsT [(128,(fn3 kCv cLp.agg cLp.agg cLp.agg lSum))] [] [] [(126,g126)] [] false [126]
theorem e76_ok:EnvOk PR e76:=envD_ok eqsT_ok (TabPOk.cons lsm_ok TabPOk.nil) TabHOk.nil TabLOk.nil (TabDOk.cons n126 g126_ok TabDOk.nil)
theorem cx76:Ctx PR e76 [] (fun _=>none) 2000 76:=ctxB e76_ok mixed (by kernel_rfl)
theorem n76:Enters PR 76:=entersB (by kernel_rfl)
noncomputable def g76:List AV->Option (Bool × AV):=(inlineC PR e76 5 2000 76)
theorem g76_ok:CallOk PR 76 g76:=(.inl ⟨n76,inlineC_ok cx76 rfl rfl⟩)
noncomputable def e36:Env:=envD eqsT [(76,g76)] [] [] [(72,g72)] [] false [72]
theorem e36_ok:EnvOk PR e36:=envD_ok eqsT_ok (TabPOk.cons g76_ok TabPOk.nil) TabHOk.nil TabLOk.nil (TabDOk.cons n72 g72_ok TabDOk.nil)
theorem cx36:Ctx PR e36 [] (fun _=>none) 2000 36:=ctxB e36_ok mixed (by kernel_rfl)
theorem n36:Enters PR 36:=entersB (by kernel_rfl)
noncomputable def g36:List AV->Option (Bool × AV):=(inlineC PR e36 6 2000 36)
theorem g36_ok:CallOk PR 36 g36:=(.inl ⟨n36,inlineC_ok cx36 rfl rfl⟩)
noncomputable def e43:Env:=envD eqsT [(60,g60),(87,g87)] [] [] [] [] false []
theorem e43_ok:EnvOk PR e43:=envD_ok eqsT_ok (TabPOk.cons g60_ok (TabPOk.cons g87_ok TabPOk.nil)) TabHOk.nil TabLOk.nil TabDOk.nil
theorem cx43:Ctx PR e43 [] (fun _=>none) 2000 43:=ctxB e43_ok mixed (by kernel_rfl)
theorem n43:Enters PR 43:=entersB (by kernel_rfl)
noncomputable def g43:List AV->Option (Bool × AV):=(inlineC PR e43 4 2000 43)
theorem g43_ok:CallOk PR 43 g43:=(.inl ⟨n43,inlineC_ok cx43 rfl rfl⟩)
noncomputable def e41:Env:=envD eqsT [(30,g30),(31,g31),(35,g35),(36,g36),(43,g43),(86,(fn2 c6.agg c6.agg (kInt .i64) fun a b=>chainV (cmpL a b) 0))] [] [] [] [] false []
theorem e41_ok:EnvOk PR e41:=envD_ok eqsT_ok (TabPOk.cons g30_ok (TabPOk.cons g31_ok (TabPOk.cons g35_ok (TabPOk.cons g36_ok (TabPOk.cons g43_ok (TabPOk.cons cmp_ok TabPOk.nil)))))) TabHOk.nil TabLOk.nil TabDOk.nil
theorem cx41:Ctx PR e41 [] (fun _=>none) 2000 41:=ctxB e41_ok mixed (by kernel_rfl)
theorem n41:Enters PR 41:=entersB (by kernel_rfl)
noncomputable def g41:List AV->Option (Bool × AV):=(inlineC PR e41 7 2000 41)
theorem g41_ok:CallOk PR 41 g41:=(.inl ⟨n41,inlineC_ok cx41 rfl rfl⟩)
noncomputable def e10:Env:=envD eqsT [(41,g41),(43,g43)] [] [] [] [] false []
theorem e10_ok:EnvOk PR e10:=envD_ok eqsT_ok (TabPOk.cons g41_ok (TabPOk.cons g43_ok TabPOk.nil)) TabHOk.nil TabLOk.nil TabDOk.nil
theorem cx10:Ctx PR e10 [] (fun _=>none) 2000 10:=ctxB e10_ok mixed (by kernel_rfl)
theorem n10:Enters PR 10:=entersB (by kernel_rfl)
noncomputable def g10:List AV->AH->Nat->Option (Bool × AV × AH):=deepC PR e10 7 2000 10 4096 true
theorem g10_ok:ActOk PR 4096 10 g10:=deepC_ok cx10 rfl rfl
noncomputable def e20:Env:=envD eqsT [(48,g48)] [] [] [] [] false []
theorem e20_ok:EnvOk PR e20:=envD_ok eqsT_ok (TabPOk.cons g48_ok TabPOk.nil) TabHOk.nil TabLOk.nil TabDOk.nil
theorem cx20:Ctx PR e20 [] (fun _=>none) 2000 20:=ctxB e20_ok mixed (by kernel_rfl)
theorem n20:Enters PR 20:=entersB (by kernel_rfl)
noncomputable def g20:List AV->AH->Nat->Option (Bool × AV × AH):=deepC PR e20 6 2000 20 4096 true
theorem g20_ok:ActOk PR 4096 20 g20:=deepC_ok cx20 rfl rfl
noncomputable def e47:Env:=envD eqsT [(33,(fn1 kU c6.agg ofW)),(35,g35),(36,g36)] [] [] [] [] false []
theorem e47_ok:EnvOk PR e47:=envD_ok eqsT_ok (TabPOk.cons of_ok (TabPOk.cons g35_ok (TabPOk.cons g36_ok TabPOk.nil))) TabHOk.nil TabLOk.nil TabDOk.nil
theorem cx47:Ctx PR e47 [] (fun _=>none) 2000 47:=ctxB e47_ok mixed (by kernel_rfl)
theorem n47:Enters PR 47:=entersB (by kernel_rfl)
noncomputable def g47:List AV->AH->Nat->Option (Bool × AV × AH):=deepC PR e47 6 2000 47 4096 true
theorem g47_ok:ActOk PR 4096 47 g47:=deepC_ok cx47 rfl rfl
noncomputable def e18:Env:=envD eqsT [] [] [] [(20,g20),(47,g47)] [] false [20,47]
theorem e18_ok:EnvOk PR e18:=envD_ok eqsT_ok TabPOk.nil TabHOk.nil TabLOk.nil (TabDOk.cons n20 g20_ok (TabDOk.cons n47 g47_ok TabDOk.nil))
theorem cx18:Ctx PR e18 [] (fun _=>none) 2000 18:=ctxB e18_ok mixed (by kernel_rfl)
theorem n18:Enters PR 18:=entersB (by kernel_rfl)
noncomputable def g18:List AV->AH->Nat->Option (Bool × AV × AH):=deepC PR e18 5 2000 18 4096 true
theorem g18_ok:ActOk PR 4096 18 g18:=deepC_ok cx18 rfl rfl
noncomputable def e19:Env:=envD eqsT [(41,g41)] [] [] [(18,g18)] [] false [18]
theorem e19_ok:EnvOk PR e19:=envD_ok eqsT_ok (TabPOk.cons g41_ok TabPOk.nil) TabHOk.nil TabLOk.nil (TabDOk.cons n18 g18_ok TabDOk.nil)
theorem cx19:Ctx PR e19 [] (fun _=>none) 2000 19:=ctxB e19_ok mixed (by kernel_rfl)
theorem n19:Enters PR 19:=entersB (by kernel_rfl)
noncomputable def g19:List AV->AH->Nat->Option (Bool × AV × AH):=deepC PR e19 6 2000 19 4096 true
theorem g19_ok:ActOk PR 4096 19 g19:=deepC_ok cx19 rfl rfl
noncomputable def e56:Env:=envD eqsT [(33,(fn1 kU c6.agg ofW))] [] [] [] [] false []
theorem e56_ok:EnvOk PR e56:=envD_ok eqsT_ok (TabPOk.cons of_ok TabPOk.nil) TabHOk.nil TabLOk.nil TabDOk.nil
theorem cx56:Ctx PR e56 [] (fun _=>none) 2000 56:=ctxB e56_ok mixed (by kernel_rfl)
theorem n56:Enters PR 56:=entersB (by kernel_rfl)
noncomputable def g56:List AV->AH->Nat->Option (Bool × AV × AH):=deepC PR e56 4 2000 56 4096 true
theorem g56_ok:ActOk PR 4096 56 g56:=deepC_ok cx56 rfl rfl
noncomputable def e27:Env:=envD eqsT [(33,(fn1 kU c6.agg ofW))] [] [] [(10,g10),(19,g19),(56,g56)] [] false [10,19,56]
theorem e27_ok:EnvOk PR e27:=envD_ok eqsT_ok (TabPOk.cons of_ok TabPOk.nil) TabHOk.nil TabLOk.nil (TabDOk.cons n10 g10_ok (TabDOk.cons n19 g19_ok (TabDOk.cons n56 g56_ok TabDOk.nil)))
theorem cx27:Ctx PR e27 [] (fun _=>none) 2000 27:=ctxB e27_ok mixed (by kernel_rfl)
theorem n27:Enters PR 27:=entersB (by kernel_rfl)
noncomputable def g27:List AV->Option (Bool × AV):=(inlineC PR e27 6 2000 27)
theorem g27_ok:CallOk PR 27 g27:=(.inl ⟨n27,inlineC_ok cx27 rfl rfl⟩)
theorem call_true {P:Program} {f:FuncId} {g:List AV->Option (Bool × AV)} (hg:CallOk P f g) (h:g []=some (true,kBool.enc true)):CallOk P f (fn0 kBool true):=by
 refine hg.weaken fun args r hx=>?_
 cases args with
 | nil =>
  have h2:r=kBool.enc true:=by
   have:=Option.some.inj hx
   simp only [Prod.mk.injEq,true_and] at this
   exact this.symm
  rw [h2];exact h
 | cons a t=>cases hx
theorem intOf_is {k:IntKind} {a:AV} {n:Int} (h:intOf k a=some n):a=.v (.int k n):=by
 unfold intOf at h
 split at h
 . rename_i k' m
   split at h
   . rename_i hk
     have hk:=of_decide_eq_true hk
     simp only [Option.some.injEq] at h
     rw [hk,h]
   . cases h
 . cases h
def ansO:Option (Bool × AV)->Option Value
 | some (true,r)=>flat r
 | _=>none
theorem ansO_is {o:Option (Bool × AV)} {v:Value} (h:ansO o=some v):∃ r,o=some (true,r) /\ flat r=some v:=by
 unfold ansO at h
 split at h
 . rename_i r
   exact ⟨r,rfl,h⟩
 . cases h
theorem pure_at {P:Program} {f:Nat} {g:List AV->Option (Bool × AV)} (hg:PureOk P f g) {β:Type} {B:Cod β} {q:Int->Bool} {F:Int->β} (h:∀ j,q j=true->ansO (g [(kInt .i64).enc j])=some (B.val (F j))) :
 PureOk P f (fnQ1 (kInt .i64) B q F):=by
 intro ρ args xs r' hr hx w hw
 unfold fnQ1 at hr
 split at hr
 . rename_i a
   split at hr
   . rename_i j hj
     simp only [Option.some.injEq,Prod.mk.injEq] at hr
     obtain ⟨h1,rfl⟩:=hr
     obtain ⟨r,h2,h3⟩:=ansO_is (h j h1)
     have ha:a=(kInt .i64).enc j:=intOf_is hj
     subst ha
     refine Calls.mono (hg ρ _ xs r h2 hx w hw) ?_
     rintro e w' ⟨v,rfl,hv,hb⟩
     have e:=hv.flat_eq h3
     exact ⟨v,rfl,by rw [e];exact .of_flat (B.h1 _),hb⟩
   . cases hr
 . cases hr
theorem aw_run:g27 []=some (true,kBool.enc true):=by kernel_rfl
theorem aw_ok:CallOk PR 27 (fn0 kBool true):=call_true g27_ok aw_run
def hLi:Kz:=(1,zPx,(680769#64,739834#64,false))
def hMi:Kz:=(2,zPx,(275425563242282422#64,1019764028308248193#64,false))
def bqA (i:Int):Bool:=bif decide (i=0) then true else bif decide (i=1) then true else decide (i=2)
def hA (i:Int):Kz:=bif decide (i=0) then hG else bif decide (i=1) then hLi else hMi
def bA (i:Int):Kz × Int:=(hA i,0)
theorem b0_run:ansO (g31 [(kInt .i64).enc 0])=some (kKzE.val (hG,0)):=by kernel_rfl
theorem b1_run:ansO (g31 [(kInt .i64).enc 1])=some (kKzE.val (hLi,0)):=by kernel_rfl
theorem b2_run:ansO (g31 [(kInt .i64).enc 2])=some (kKzE.val (hMi,0)):=by kernel_rfl
theorem bq_cases {j:Int} (h:bqA j=true):j=0 \/ j=1 \/ j=2:=by
 unfold bqA at h
 by_cases h0:j=0
 . exact .inl h0
 . rw [decide_eq_false h0,cond_false] at h
   by_cases h1:j=1
   . exact .inr (.inl h1)
   . rw [decide_eq_false h1,cond_false] at h
     exact .inr (.inr (of_decide_eq_true h))
theorem bA_ok:CallOk PR 31 (fnQ1 (kInt .i64) kKzE bqA bA) :=
 .inl ⟨n31,pure_at (inlineC_ok cx31 rfl rfl) fun j h=>by
  rcases bq_cases h with rfl | rfl | rfl
  . exact b0_run
  . exact b1_run
  . exact b2_run⟩
set_option maxRecDepth 100000 in
theorem hLi_may:KZ hLi=true:=by kernel_rfl
set_option maxRecDepth 100000 in
theorem hMi_may:KZ hMi=true:=by kernel_rfl
theorem kch_gr (I:Px->Bool) (p:Px):kchX I (toKx (0,p,zLx))=I p:=by kernel_rfl
theorem hG_is:KZ hG=inGroup1 hgP:=by
 have e:KZ hG=Sm.inX (hgX,hgY,false):=kch_gr Sm.inX (hgX,hgY,false)
 rw [e]
 unfold Sm.inX
 exact congrArg inGroup1 (show toAp (hgX,hgY,false)=hgP from rfl)
theorem hA_may {s:Int} (h:bqA s=true):KZ (hA s)=true /\ (hA s).1=s:=by
 rcases bq_cases h with rfl | rfl | rfl
 . exact ⟨hG_is.trans in_hg,rfl⟩
 . exact ⟨hLi_may,rfl⟩
 . exact ⟨hMi_may,rfl⟩
end Go.Rq.Ch

namespace Go.Rq.Cl
open Go Go.Proofs Go.Rq Go.Rq.Sm
section
variable {K:Kz->Bool} {O:Int->W6 × Int} {M:ZM} {A:ZZ} {N:Kz->Kz × Int} {s:Int} {r:Nat} {Q:Q3} {P:Int->W6->Bool} {AD SB ML:S3} {IV:Int->W6->W6 × Int}
variable {G:Type} {g:Gm G} {ι:G->Kz}
end
def Suit (s:Int):Prop :=
 Pr (suRi s) /\ Ar OZ q2Z q1Z adZ sbZ mlZ ivZ s (suRi s) /\ ∃ (G:Type) (g:Gm G) (ι:G->Kz),Sg KZ MZ AZ NZ s (suRi s) g ι /\ ∃ γ,ι γ=(GZ s).1 /\ γ ≠ g.zero
theorem gen_of {s:Int} {r:Nat} {G:Type} {g:Gm G} {ι:G->Kz} (hr:Pr r) (h:Sg KZ MZ AZ NZ s r g ι) (k:SuRk r KZ OZ cmpX MZ AZ NZ GZ divF s):∃ γ,ι γ=(GZ s).1 /\ γ ≠ g.zero:=by
 obtain ⟨φ,h1,h2,-⟩:=k
 obtain ⟨γ,hγ⟩:=h.all (φ 1) (h1.sui 1) (h1.chk 1)
 have h1r:1 < r:=hr.1
 refine ⟨γ,hγ.trans h2.symm,fun hz=>?_⟩
 have z0:zW6.val < r:=by rw [zW6_val];omega
 have e1:=h1.mul 1 zW6 z0
 rw [<- hγ,h.mul γ zW6 z0,zW6_val] at e1
 have e2:ι g.zero=φ (1*0):=(Prod.mk.inj e1).1
 rw [<- hz,hγ,h1.inj] at e2
 rw [Nat.mul_zero,Nat.zero_mod,Nat.mod_eq_of_lt h1r] at e2
 cases e2
theorem suit_gr:Suit 0:=by
 have a:Ar OZ q2Z q1Z adZ sbZ mlZ ivZ 0 (mdN .ro):=ar_su (m:=.ro) rfl rfl
 have e:mdN .ro=suRi 0:=by decide +kernel
 rw [e] at a
 have s:Sg KZ MZ AZ NZ 0 (suRi 0) (gzG gz_ex) gzI:=sg_gr gz_ex
 have p:Pr (suRi 0):=pr_r
 exact ⟨p,a,_,_,_,s,gen_of p s (su_allR 0 (by decide) (by decide))⟩
theorem suit_li:Suit 1:=by
 have a:Ar OZ q2Z q1Z adZ sbZ mlZ ivZ 1 (suRi 1):=ar_su (m:=.rl) rfl rfl
 have s:Sg KZ MZ AZ NZ 1 (suRi 1) (glG .lit) (glI .lit):=sg_lit .lit Sm.inX Sm.adX Sm.muX Sm.neX
 have p:Pr (suRi 1):=pr_suR .lit
 exact ⟨p,a,_,_,_,s,gen_of p s (su_allR 1 (by decide) (by decide))⟩
theorem suit_mi:Suit 2:=by
 have a:Ar OZ q2Z q1Z adZ sbZ mlZ ivZ 2 (suRi 2):=ar_su (m:=.rm) rfl rfl
 have s:Sg KZ MZ AZ NZ 2 (suRi 2) (glG .mid) (glI .mid):=sg_lit .mid Sm.inX Sm.adX Sm.muX Sm.neX
 have p:Pr (suRi 2):=pr_suR .mid
 exact ⟨p,a,_,_,_,s,gen_of p s (su_allR 2 (by decide) (by decide))⟩
theorem suit_all (s:Int) (h0:0 <= s) (h2:s <= 2):Suit s:=by
 have h:s=0 \/ s=1 \/ s=2:=by omega
 rcases h with rfl | rfl | rfl
 . exact suit_gr
 . exact suit_li
 . exact suit_mi
section
variable {s:Int} {b:Kz}
theorem val_all (h:Suit s) {x:W6} (hx:x.val < suRi s) (l:List W6) (e:∀ c ∈ l,c.val < suRi s):(valK adZ mlZ s x l).val < suRi s:=by
 obtain ⟨p,a,-⟩:=h
 exact valK_lt a (by have:=p.1;omega) hx l e
theorem holds_all (h:Suit s) (hb:b.1=s) (hk:KZ b=true) {x:W6} (hx:x.val < suRi s) {l:List (W6 × W6)} (hl:l ≠ []) (e:∀ p ∈ l,p.1.val < suRi s /\ p.2.val < suRi s) :
 AZ (MZ (GZ s).1 (valK adZ mlZ s x (l.map (·.1)))).1 (MZ b (valK adZ mlZ s x (l.map (·.2)))).1=(atK MZ AZ x (comK MZ AZ (GZ s).1 b l),0):=by
 obtain ⟨p,a,G,g,ι,sg,γ,hγ,-⟩:=h
 obtain ⟨η,rfl⟩:=sg.all b hb hk
 rw [<- hγ]
 exact holds_is sg a (by have:=p.1;omega) γ η hx hl e
theorem sum_all (h:Suit s) (hb:b.1=s) (hk:KZ b=true) {u v w z:W6} (hu:u.val < suRi s) (hv:v.val < suRi s) (hw:w.val < suRi s) (hz:z.val < suRi s) :
 AZ (AZ (MZ (GZ s).1 u).1 (MZ b v).1).1 (AZ (MZ (GZ s).1 w).1 (MZ b z).1).1=AZ (MZ (GZ s).1 (adZ s u w).1).1 (MZ b (adZ s v z).1).1:=by
 obtain ⟨p,a,G,g,ι,sg,γ,hγ,-⟩:=h
 obtain ⟨η,rfl⟩:=sg.all b hb hk
 rw [<- hγ]
 exact sum_is sg a (by have:=p.1;omega) γ η hu hv hw hz
theorem one_may (h:Suit s) (hb:b.1=s) (hk:KZ b=true) {u v:W6} (hu:u.val < suRi s) (hv:v.val < suRi s) :
 KZ (AZ (MZ (GZ s).1 u).1 (MZ b v).1).1=true /\ (AZ (MZ (GZ s).1 u).1 (MZ b v).1).1.1=s /\ (AZ (MZ (GZ s).1 u).1 (MZ b v).1).2=0:=by
 obtain ⟨-,-,G,g,ι,sg,γ,hγ,-⟩:=h
 obtain ⟨η,rfl⟩:=sg.all b hb hk
 rw [<- hγ,one_is sg γ η hu hv]
 exact ⟨sg.may _,sg.sui _,rfl⟩
theorem com_may (h:Suit s) (hb:b.1=s) (hk:KZ b=true):∀ l:List (W6 × W6),(∀ p ∈ l,p.1.val < suRi s /\ p.2.val < suRi s)->∀ c ∈ comK MZ AZ (GZ s).1 b l,KZ c=true /\ c.1=s
 | [],_,c,hc=>by cases hc
 | p :: t,e,c,hc=>by
  obtain ⟨h1,h2⟩:=e p (List.mem_cons_self ..)
  rcases List.mem_cons.1 hc with rfl | hc
  . obtain ⟨k1,k2,-⟩:=one_may h hb hk h1 h2
    exact ⟨k1,k2⟩
  . exact com_may h hb hk t (fun q hq=>e q (List.mem_cons_of_mem _ hq)) c hc
end
end Go.Rq.Cl

namespace Go.Rq.Cl
open Go Go.Proofs Go.Rq Go.Rq.Sm Go.Rq.Vl Go.Rq.Ch
noncomputable def poA:PO:=⟨OZ,cmpX,GZ,bqA,bA,MZ,AZ⟩
noncomputable def phO:PH:=⟨OZ,divF,cmpX,q2Z,adZ,mlZ,MZ,AZ,KZ,oneQ poA,oneK poA⟩
theorem oneA_ok:CallOk PR 41 (oneV (oneQ poA) (oneK poA)):=one_ok (t:=poA) OZ_ok cmp_ok GZ_ok bA_ok MZ_ok AZ_ok
theorem kv_ok:CallOk PR 48 (chV KZ):=chV_ok (kchZ_ok inX_ok)
theorem phO_o:phO.o=OZ:=by simp only [phO]
theorem phO_d:phO.d=divF:=by simp only [phO]
theorem phO_c:phO.c=cmpX:=by simp only [phO]
theorem phO_q:phO.q=q2Z:=by simp only [phO]
theorem phO_ad:phO.ad=adZ:=by simp only [phO]
theorem phO_ml:phO.ml=mlZ:=by simp only [phO]
theorem phO_m:phO.m=MZ:=by simp only [phO]
theorem phO_a:phO.a=AZ:=by simp only [phO]
theorem phO_k:phO.k=KZ:=by simp only [phO]
theorem phO_oq:phO.oq=oneQ poA:=by simp only [phO]
theorem phO_kk:phO.ok=oneK poA:=by simp only [phO]
structure Kn (s:Int):Prop where
 h0:0 <= s
 h2:s <= 2
section
variable {s:Int}
theorem Kn.su (k:Kn s):Suit s:=suit_all s k.h0 k.h2
theorem Kn.bq (k:Kn s):bqA s=true:=by
 have h:s=0 \/ s=1 \/ s=2:=by have:=k.h0;have:=k.h2;omega
 rcases h with rfl | rfl | rfl <;> rfl
theorem Kn.b1 (k:Kn s):(hA s).1=s:=(hA_may k.bq).2
theorem Kn.bk (k:Kn s):KZ (hA s)=true:=(hA_may k.bq).1
theorem Kn.oz (k:Kn s):(OZ s).2=0:=by obtain ⟨-,a,-⟩:=k.su;exact a.oz
theorem Kn.qq (k:Kn s) {a b:W6} (ha:a.val < suRi s) (hb:b.val < suRi s):q2Z s a b=true:=by obtain ⟨-,h,-⟩:=k.su;exact h.q a b ha hb
theorem Kn.pos (k:Kn s):0 < suRi s:=by obtain ⟨p,-⟩:=k.su;have:=p.1;omega
theorem Kn.adl (k:Kn s) {a b:W6} (ha:a.val < suRi s) (hb:b.val < suRi s):(adZ s a b).1.val < suRi s:=by
 obtain ⟨-,h,-⟩:=k.su
 rw [(h.ad a b ha hb).2];exact Nat.mod_lt _ k.pos
theorem Kn.mll (k:Kn s) {a b:W6} (ha:a.val < suRi s) (hb:b.val < suRi s):(mlZ s a b).1.val < suRi s:=by
 obtain ⟨-,h,-⟩:=k.su
 rw [(h.ml a b ha hb).2];exact Nat.mod_lt _ k.pos
theorem Kn.cut (k:Kn s) (x:W6):(divF x (OZ s).1).2.1.val < suRi s:=by
 obtain ⟨φ,-,-,h⟩:=su_allR s k.h0 k.h2
 exact h x
theorem Kn.ge (k:Kn s) {x:W6} (h:x.val < suRi s):geR OZ cmpX s x=false:=by
 obtain ⟨φ,c,-,-⟩:=su_allR s k.h0 k.h2
 unfold geR
 exact c.cmp x h
theorem Kn.big (k:Kn s):41 < suRi s:=by
 have h:s=0 \/ s=1 \/ s=2:=by have:=k.h0;have:=k.h2;omega
 rcases h with rfl | rfl | rfl <;> decide +kernel
theorem Kn.one (k:Kn s) {u v:W6} (hu:u.val < suRi s) (hv:v.val < suRi s):oneQ poA s u v=true /\ oneK poA s u v=(AZ (MZ (GZ s).1 u).1 (MZ (hA s) v).1).1 /\ KZ (oneK poA s u v)=true /\ (oneK poA s u v).1=s:=by
 obtain ⟨m1,m2,m3⟩:=one_may k.su k.b1 k.bk hu hv
 have e1:onR poA s u v=AZ (MZ (GZ s).1 u).1 (MZ (hA s) v).1:=by
  unfold onR poA bA
  rfl
 have e3:oneK poA s u v=(AZ (MZ (GZ s).1 u).1 (MZ (hA s) v).1).1:=by
  unfold oneK
  rw [e1]
 refine ⟨?_,e3,by rw [e3];exact m1,by rw [e3];exact m2⟩
 unfold oneQ
 rw [e1,m3]
 unfold onC
 have e4:(poA.o s).2=0:=k.oz
 have e5:geR poA.o poA.c s u=false:=k.ge hu
 have e6:geR poA.o poA.c s v=false:=k.ge hv
 have e7:poA.bq s=true:=k.bq
 rw [e4,e5,e6,e7]
 rfl
end
def LtA (s:Int) (l:List W6):Prop:=∀ c ∈ l,c.val < suRi s
theorem phL_lt {s:Int} (k:Kn s) (l:List W6):LtA s (phL phO s l):=fun c hc=>by
 unfold phL at hc
 obtain ⟨a,-,rfl⟩:=List.mem_map.1 hc
 unfold phCut
 rw [phO_d,phO_o]
 exact k.cut a
theorem phXw_val {x:Int} (h0:0 <= x) (h1:x < 41):(phXw x).val=x.toNat:=by
 unfold phXw
 rw [Cl.ofW_val,BitVec.toNat_ofInt]
 omega
theorem fst3_ad:fst3 phO.ad=fun s a b=>(adZ s a b).1:=by rw [phO_ad];rfl
theorem fst3_ml:fst3 phO.ml=fun s a b=>(mlZ s a b).1:=by rw [phO_ml];rfl
theorem zeroW_z:zeroW=zW6:=by kernel_rfl
theorem phV_is (s:Int) (x:Int):∀ l:List W6,phV phO s l x=valK adZ mlZ s (phXw x) l
 | []=>by unfold phV;exact zeroW_z
 | c :: t=>by
  have ih:=phV_is s x t
  unfold phV at ih ⊢
  rw [fst3_ad,fst3_ml] at ih ⊢
  unfold valF valK
  rw [ih]
theorem phV_lt {s:Int} (k:Kn s) {x:Int} (hx:(phXw x).val < suRi s) {l:List W6} (hl:LtA s l):(phV phO s l x).val < suRi s:=by
 rw [phV_is]
 exact val_all k.su hx l hl
theorem valOk_t {s:Int} (k:Kn s) {x:W6} (hx:x.val < suRi s):∀ l:List W6,LtA s l->valOk q2Z q2Z (fun s a b=>(adZ s a b).1) (fun s a b=>(mlZ s a b).1) s x l=true /\ (valF (fun s a b=>(adZ s a b).1) (fun s a b=>(mlZ s a b).1) s x l).val < suRi s
 | [],_=>⟨rfl,by show zeroW.val < _;rw [zeroW_z,zW6_val];exact k.pos⟩
 | c :: t,h=>by
  obtain ⟨i1,i2⟩:=valOk_t k hx t fun d hd=>h d (List.mem_cons_of_mem _ hd)
  have hc:=h c List.mem_cons_self
  have hm:=k.mll i2 hx
  refine ⟨?_,k.adl hm hc⟩
  unfold valOk
  rw [i1,k.qq i2 hx]
  have e:=k.qq hm hc
  rw [e]
  rfl
theorem phOc_t {s:Int} (k:Kn s):∀ l m:List W6,LtA s l->LtA s m->phOc phO s l m=true
 | [],_,_,_=>by unfold phOc;rfl
 | _ :: _,[],_,_=>by unfold phOc;rfl
 | a :: l,b :: m,h1,h2=>by
  have i:=phOc_t k l m (fun d hd=>h1 d (List.mem_cons_of_mem _ hd)) fun d hd=>h2 d (List.mem_cons_of_mem _ hd)
  have e:=(k.one (h1 a List.mem_cons_self) (h2 b List.mem_cons_self)).1
  unfold phOc
  rw [i,phO_oq,e]
  rfl
theorem phGe_t {s:Int} (k:Kn s):∀ l:List W6,LtA s l->phGe phO s l=true
 | [],_=>by unfold phGe;rfl
 | a :: l,h=>by
  have i:=phGe_t k l fun d hd=>h d (List.mem_cons_of_mem _ hd)
  have e:=k.ge (h a List.mem_cons_self)
  unfold phGe
  rw [i,phO_o,phO_c,e]
  rfl
theorem phKs_is {s:Int} (k:Kn s):∀ l m:List W6,LtA s l->LtA s m->phKs phO s l m=comK MZ AZ (GZ s).1 (hA s) (l.zip m)
 | [],_,_,_=>by unfold phKs;rfl
 | _ :: _,[],_,_=>by unfold phKs;rfl
 | a :: l,b :: m,h1,h2=>by
  have i:=phKs_is k l m (fun d hd=>h1 d (List.mem_cons_of_mem _ hd)) fun d hd=>h2 d (List.mem_cons_of_mem _ hd)
  have e:=(k.one (h1 a List.mem_cons_self) (h2 b List.mem_cons_self)).2.1
  unfold phKs
  rw [i,phO_kk,e]
  rfl
theorem zip_lt {s:Int} {l m:List W6} (h1:LtA s l) (h2:LtA s m):∀ p ∈ l.zip m,p.1.val < suRi s /\ p.2.val < suRi s:=fun p hp=>by
 have:=List.of_mem_zip (a:=p.1) (b:=p.2) hp
 exact ⟨h1 _ this.1,h2 _ this.2⟩
theorem kc_t {k:Kz->Bool} {r:Bool} (hr:r=true):∀ l:List Kz,(∀ c ∈ l,k c=true)->phKc k l r=true
 | [],_=>hr
 | c :: l,h=>by
  have i:=kc_t hr l fun d hd=>h d (List.mem_cons_of_mem _ hd)
  have e:=h c List.mem_cons_self
  unfold phKc
  rw [i,e]
  rfl
theorem sc_t {z:Int}:∀ l:List Kz,(∀ c ∈ l,c.1=z)->phSc z l=true
 | [],_=>rfl
 | c :: l,h=>by
  have i:=sc_t l fun d hd=>h d (List.mem_cons_of_mem _ hd)
  have e:=h c List.mem_cons_self
  unfold phSc
  rw [i,e]
  simp [nt]
theorem hd_t {z:Int}:∀ {l:List Kz},l ≠ []->(∀ c ∈ l,c.1=z)->hd1 l=z
 | [],h,_=>absurd rfl h
 | c :: _,_,h=>h c List.mem_cons_self
theorem phCo_t {s:Int} (k:Kn s) {l m:List W6} (h1:LtA s l) (h2:LtA s m):phCo phO s l m=true:=by
 unfold phCo
 rw [phOc_t k l m h1 h2,phO_o,k.oz]
 rfl
theorem phVa_t {s:Int} (k:Kn s) {l:List W6} (h:LtA s l) {x:Int} (h0:0 <= x) (h1:x < 41):phVa phO s l x=true:=by
 have hx:(phXw x).val < suRi s:=by rw [phXw_val h0 h1];have:=k.big;omega
 have v:=(valOk_t k hx l h).1
 have d0:decide (x < 0)=false:=decide_eq_false (by omega)
 have d1:decide (x > 1000)=false:=decide_eq_false (by omega)
 unfold phVa phCk
 rw [phGe_t k l h,phO_o,k.oz,d0,d1,phO_q,fst3_ad,fst3_ml,v]
 rfl
section
variable {s:Int} {ks:List Kz}
theorem phCh_t (h1:∀ c ∈ ks,KZ c=true /\ c.1=s) (hn:ks ≠ []):phCh phO.k ks=true:=by
 unfold phCh
 rw [hd_t hn fun c hc=>(h1 c hc).2,kc_t (sc_t ks fun c hc=>(h1 c hc).2) ks (by rw [phO_k];exact fun c hc=>(h1 c hc).1)]
 rfl
theorem phAt_t (h1:∀ c ∈ ks,KZ c=true /\ c.1=s) (hn:ks ≠ []) {x:Int} (h0:0 <= x) (h41:x < 41):phAt phO.k ks x=true:=by
 have d0:decide (x < 0)=false:=decide_eq_false (by omega)
 have d1:decide (x > 1000)=false:=decide_eq_false (by omega)
 unfold phAt
 rw [phCh_t h1 hn,d0,d1]
 rfl
theorem phHo_t (k:Kn s) (h1:∀ c ∈ ks,KZ c=true /\ c.1=s) (hn:ks ≠ []) {x:Int} (h0:0 <= x) (h41:x < 41) {u v:W6} (hu:u.val < suRi s) (hv:v.val < suRi s):phHo phO.k phO.oq ks x u v=true:=by
 have e:=(k.one hu hv).1
 unfold phHo
 rw [phAt_t h1 hn h0 h41,hd_t hn fun c hc=>(h1 c hc).2,phO_oq,e]
 rfl
end
end Go.Rq.Cl

namespace Go.Rq.Cl
open Go Go.Proofs Go.Rq Go.Rq.Sm Go.Rq.Vl
noncomputable def smE (n:Nat) (k:Kz->Bool) (a:ZZ):Env:=envD eqsT [(36,fn2 cKz.agg cKz.agg kKzE a)] [] [] [(20,chG n k)] [] false [20]
noncomputable def smG (n:Nat) (k:Kz->Bool) (a:ZZ):List AV->AH->Nat->Option (Bool × AV × AH):=deepP [false] PR (smE n k a) [59] 30 42 4096 true
theorem sm_ent:Enters PR 42:=entersB (by kernel_rfl)
theorem sm_ok {n:Nat} {k:Kz->Bool} {a:ZZ} (hK:CallOk PR 48 (chV k)) (hA:CallOk PR 36 (fn2 cKz.agg cKz.agg kKzE a)):ActOk PR 4096 42 (smG n k a) :=
 deepP_ok (ctxB (envD_ok eqsT_ok (TabPOk.cons hA TabPOk.nil) TabHOk.nil TabLOk.nil (TabDOk.cons ch_ent (ch_ok hK) TabDOk.nil)) mixed (by kernel_rfl))
noncomputable def skG (n:Nat):List AV->AH->Nat->Option (Bool × AV × AH):=deepP (List.replicate n false) PR (envD eqsT [] [] [] [] [] false []) [25] 30 15 4096 true
theorem sk_ent:Enters PR 15:=entersB (by kernel_rfl)
theorem sk_ok {n:Nat}:ActOk PR 4096 15 (skG n) :=
 deepP_ok (ctxB (envD_ok eqsT_ok TabPOk.nil TabHOk.nil TabLOk.nil TabDOk.nil) mixed (by kernel_rfl))
noncomputable def pdE (n:Nat) (t:PH):Env:=envD eqsT [(27,fn0 kBool true),(34,fnQ3 (kInt .i64) c6.agg c6.agg kWE t.q t.ad),(29,pkG)] [] []
 [(28,scG t.o t.d),(10,cmG t.o t.oq t.ok),(40,svG n t.o t.c t.q t.ad t.ml),(42,smG n t.k t.a),(19,hoG n t.k t.m t.a t.oq t.ok),(15,skG n)] [] false
 [28,10,40,42,19,15]
def pdS:List Tmp:=[41,44]
def pd4 (S1 S2 S3 S4:SA) (u1 u2 u3 u4:TypeId) (b1 b2 b3 b4:List AV):AH:=hpS 0 S1 u1 b1 ++ (hpS 1 S2 u2 b2 ++ (hpS 2 S3 u3 b3 ++ (hpS 3 S4 u4 b4 ++ [])))
def pdAs (S1 S2 S3 S4:SA) (c1 c2 c3 c4:Nat) (s x:Int):List AV:=[(kInt .i64).enc s,S1.at 0 c1,S2.at 1 c2,S3.at 2 c3,S4.at 3 c4,(kInt .i64).enc x]
noncomputable def pdT (n:Nat) (sym:List Tmp) (t:PH) (s:Int) (S1 S2 S3 S4:SA) (b1 b2 b3 b4:List AV) (x:Int) (c1 c2 c3 c4:Nat) (u1 u2 u3 u4:TypeId):Tree AV :=
 afunH PR (pdE n t) sym 30 7 (pdAs S1 S2 S3 S4 c1 c2 c3 c4 s x) (pd4 S1 S2 S3 S4 u1 u2 u3 u4 b1 b2 b3 b4) 4
def pdKs (a:ZZ):List Kz->List Kz->List Kz
 | c :: l,d :: m=>(a c d).1 :: pdKs a l m
 | _,_=>[]
def pdAd (ad:S3) (s:Int):List W6->List W6->List W6
 | c :: l,d :: m=>(ad s c d).1 :: pdAd ad s l m
 | _,_=>[]
def pdSm (k:Kz->Bool) (l m:List Kz):Bool:=tt (tt (bt (tt (phCh k l)) (bt (tt (phCh k m)) (nt (hd1 m != hd1 l) true))))
def pdSk:List Kz->List Kz->Bool
 | c :: l,d :: m=>nt (!(eqKz c d)) (pdSk l m)
 | _,_=>true
def pdQs (t:PH) (s:Int):List W6->List W6->List W6->List W6->List Bool->List Bool
 | a :: la,b :: lb,c :: lc,d :: ld,r=>tt (t.q s a c) :: tt (t.q s b d) :: true :: true :: true :: pdQs t s la lb lc ld r
 | _,_,_,_,r=>r
def pdU (t:PH) (s:Int) (la lc:List W6):List W6:=pdAd t.ad s (phL t s la) (phL t s lc)
def pdC (t:PH) (s:Int) (la lb lc ld:List W6):List Kz:=pdKs t.a (phP t s la lb) (phP t s lc ld)
def pdV (t:PH) (s:Int) (la lc:List W6) (x:Int):W6:=phV t s (pdU t s la lc) (phX x)
def pdB (t:PH) (s:Int) (la lb lc ld:List W6) (x:Int):List Bool :=
 true :: true :: (!(decide (s < 0))) :: (!(decide (s > 2))) :: true :: true :: true :: phCo t s (phL t s la) (phL t s lb) :: phCo t s (phL t s lc) (phL t s ld) :: pdSm t.k (phP t s la lb) (phP t s lc ld) :: true :: true :: true ::
  pdQs t s (phL t s la) (phL t s lb) (phL t s lc) (phL t s ld) [phCo t s (pdU t s la lc) (pdU t s lb ld),phVa t s (pdU t s la lc) (phX x),phVa t s (pdU t s lb ld) (phX x),
   phHo t.k t.oq (pdC t s la lb lc ld) (phX x) (pdV t s la lc x) (pdV t s lb ld x),tt (tt (pdSk (pdC t s la lb lc ld) (phKs t s (pdU t s la lc) (pdU t s lb ld))))]
def pdR (t:PH) (s:Int) (la lb lc ld:List W6) (x:Int):Bool:=phHv t (pdC t s la lb lc ld) (phX x) (pdV t s la lc x) (pdV t s lb ld x)
noncomputable def pdSl (n:Nat) (t:PH) (s:Int) (la lb lc ld:List W6) (x:Int) (c1 c2 c3 c4:Nat) (u1 u2 u3 u4:TypeId):Tree AV :=
 pdT n pdS t s (.slc n) (.slc n) (.slc n) (.slc n) (encL c6 la) (encL c6 lb) (encL c6 lc) (encL c6 ld) x c1 c2 c3 c4 u1 u2 u3 u4
section
variable (t:PH) (s x:Int) (c1 c2 c3 c4:Nat) (u1 u2 u3 u4:TypeId)
set_option maxRecDepth 1000000 in
theorem pd_1 (p0 q0 y0 z0:W6):valL [false,false] (pdSl 1 t s [p0] [q0] [y0] [z0] x c1 c2 c3 c4 u1 u2 u3 u4)=some (pdB t s [p0] [q0] [y0] [z0] x,[],some (kBool.val (pdR t s [p0] [q0] [y0] [z0] x))):=by kernel_rfl
set_option maxRecDepth 1000000 in
theorem pd_2 (p0 p1 q0 q1 y0 y1 z0 z1:W6):valL [false,false] (pdSl 2 t s [p0,p1] [q0,q1] [y0,y1] [z0,z1] x c1 c2 c3 c4 u1 u2 u3 u4)=some (pdB t s [p0,p1] [q0,q1] [y0,y1] [z0,z1] x,[],some (kBool.val (pdR t s [p0,p1] [q0,q1] [y0,y1] [z0,z1] x))):=by kernel_rfl
end
section
variable (t:PH) (s x:Int) (c1 c2 c3 c4:Nat) (u1 u2 u3 u4:TypeId)
set_option maxRecDepth 1000000 in
theorem pd_3 (p0 p1 p2 q0 q1 q2 y0 y1 y2 z0 z1 z2:W6):valL [false,false] (pdSl 3 t s [p0,p1,p2] [q0,q1,q2] [y0,y1,y2] [z0,z1,z2] x c1 c2 c3 c4 u1 u2 u3 u4)=some (pdB t s [p0,p1,p2] [q0,q1,q2] [y0,y1,y2] [z0,z1,z2] x,[],some (kBool.val (pdR t s [p0,p1,p2] [q0,q1,q2] [y0,y1,y2] [z0,z1,z2] x))):=by kernel_rfl
end
section
variable (t:PH) (s x:Int) (c1 c2 c3 c4:Nat) (u1 u2 u3 u4:TypeId)
set_option maxRecDepth 1000000 in
theorem pd_4 (p0 p1 p2 p3 q0 q1 q2 q3 y0 y1 y2 y3 z0 z1 z2 z3:W6):valL [false,false] (pdSl 4 t s [p0,p1,p2,p3] [q0,q1,q2,q3] [y0,y1,y2,y3] [z0,z1,z2,z3] x c1 c2 c3 c4 u1 u2 u3 u4)=some (pdB t s [p0,p1,p2,p3] [q0,q1,q2,q3] [y0,y1,y2,y3] [z0,z1,z2,z3] x,[],some (kBool.val (pdR t s [p0,p1,p2,p3] [q0,q1,q2,q3] [y0,y1,y2,y3] [z0,z1,z2,z3] x))):=by kernel_rfl
end
def pdS0:List Tmp:=[41,44,51,58,65,70,75]
noncomputable def pdW (t:PH) (s:Int) (S1 S2 S3 S4:SA) (b1 b2 b3 b4:List AV) (x:Int) (c1 c2 c3 c4:Nat) (u1 u2 u3 u4:TypeId):Tree AV:=pdT 0 pdS0 t s S1 S2 S3 S4 b1 b2 b3 b4 x c1 c2 c3 c4 u1 u2 u3 u4
def neL (S1 S2:SA):Bool:=(S1.len:Int) != (S2.len:Int)
def sa:Option Nat->SA
 | none=>.nil
 | some n=>.slc n
section
variable (t:PH) (s:Int) (S1 S2 S3 S4:Option Nat) (b1 b2 b3 b4:List AV) (x:Int) (c1 c2 c3 c4:Nat) (u1 u2 u3 u4:TypeId)
set_option maxRecDepth 1000000 in
theorem pd_A0:valL [true] (pdW t s (sa S1) (sa S2) (sa S3) (sa S4) b1 b2 b3 b4 x c1 c2 c3 c4 u1 u2 u3 u4)=some ([true,true,decide (s < 0),true,true],[],some (kBool.val true)):=by cases S1 <;> cases S2 <;> cases S3 <;> cases S4 <;> kernel_rfl
set_option maxRecDepth 1000000 in
theorem pd_A1:valL [false,true] (pdW t s (sa S1) (sa S2) (sa S3) (sa S4) b1 b2 b3 b4 x c1 c2 c3 c4 u1 u2 u3 u4)=some ([true,true,!(decide (s < 0)),decide (s > 2),true,true],[],some (kBool.val true)):=by cases S1 <;> cases S2 <;> cases S3 <;> cases S4 <;> kernel_rfl
set_option maxRecDepth 1000000 in
theorem pd_A2:valL [false,false,true] (pdW t s (sa S1) (sa S2) (sa S3) (sa S4) b1 b2 b3 b4 x c1 c2 c3 c4 u1 u2 u3 u4)=some ([true,true,!(decide (s < 0)),!(decide (s > 2)),neL (sa S1) (sa S2),true,true],[],some (kBool.val true)):=by cases S1 <;> cases S2 <;> cases S3 <;> cases S4 <;> kernel_rfl
set_option maxRecDepth 1000000 in
theorem pd_A3:valL [false,false,false,true] (pdW t s (sa S1) (sa S2) (sa S3) (sa S4) b1 b2 b3 b4 x c1 c2 c3 c4 u1 u2 u3 u4)=some ([true,true,!(decide (s < 0)),!(decide (s > 2)),!(neL (sa S1) (sa S2)),neL (sa S1) (sa S3),true,true],[],some (kBool.val true)):=by cases S1 <;> cases S2 <;> cases S3 <;> cases S4 <;> kernel_rfl
set_option maxRecDepth 1000000 in
theorem pd_A4:valL [false,false,false,false,true] (pdW t s (sa S1) (sa S2) (sa S3) (sa S4) b1 b2 b3 b4 x c1 c2 c3 c4 u1 u2 u3 u4)=some ([true,true,!(decide (s < 0)),!(decide (s > 2)),!(neL (sa S1) (sa S2)),!(neL (sa S1) (sa S3)),neL (sa S1) (sa S4),true,true],[],some (kBool.val true)):=by cases S1 <;> cases S2 <;> cases S3 <;> cases S4 <;> kernel_rfl
set_option maxRecDepth 1000000 in
theorem pd_A5:valL [false,false,false,false,false,true] (pdW t s (sa S1) (sa S2) (sa S3) (sa S4) b1 b2 b3 b4 x c1 c2 c3 c4 u1 u2 u3 u4)=some ([true,true,!(decide (s < 0)),!(decide (s > 2)),!(neL (sa S1) (sa S2)),!(neL (sa S1) (sa S3)),!(neL (sa S1) (sa S4)),(((sa S1).len:Int) == 0),true,true],[],some (kBool.val true)):=by cases S1 <;> cases S2 <;> cases S3 <;> cases S4 <;> kernel_rfl
set_option maxRecDepth 1000000 in
theorem pd_A6:valL [false,false,false,false,false,false,true] (pdW t s (sa S1) (sa S2) (sa S3) (sa S4) b1 b2 b3 b4 x c1 c2 c3 c4 u1 u2 u3 u4)=some ([true,true,!(decide (s < 0)),!(decide (s > 2)),!(neL (sa S1) (sa S2)),!(neL (sa S1) (sa S3)),!(neL (sa S1) (sa S4)),!((((sa S1).len:Int) == 0)),decide (((sa S1).len:Int) > 4),true,true],[],some (kBool.val true)):=by cases S1 <;> cases S2 <;> cases S3 <;> cases S4 <;> kernel_rfl
end
end Go.Rq.Cl

namespace Go.Rq.Cl
open Go Go.Proofs Go.Rq Go.Rq.Sm Go.Rq.Vl Go.Rq.Ch
theorem pl_core {s:Int} (k:Kn s) {L M:List W6} (l1:LtA s L) (l2:LtA s M) (hlen:L.length=M.length) (hn:L ≠ []) {x:Int} (x0:0 <= x) (x1:x < 41) :
 (∀ c ∈ phKs phO s L M,KZ c=true /\ c.1=s) /\ phKs phO s L M ≠ [] /\ oneK poA s (phV phO s L x) (phV phO s M x)=atK MZ AZ (phXw x) (phKs phO s L M):=by
 have hx:(phXw x).val < suRi s:=by rw [phXw_val x0 x1];have:=k.big;omega
 have hU:(phV phO s L x).val < suRi s:=phV_lt k hx l1
 have hV:(phV phO s M x).val < suRi s:=phV_lt k hx l2
 have hP:phKs phO s L M=comK MZ AZ (GZ s).1 (hA s) (L.zip M):=phKs_is k _ _ l1 l2
 have hz:=zip_lt l1 l2
 have hzn:L.zip M ≠ []:=by
  intro e
  have:=congrArg List.length e
  rw [List.length_zip,hlen,Nat.min_self,<- hlen] at this
  exact hn (List.eq_nil_of_length_eq_zero this)
 refine ⟨by rw [hP];exact com_may k.su k.b1 k.bk _ hz,?_,?_⟩
 . rw [hP]
   intro e
   cases hzz:L.zip M with
   | nil=>exact hzn hzz
   | cons p t=>rw [hzz] at e;cases e
 . rw [(k.one hU hV).2.1,hP]
   have e:=holds_all k.su k.b1 k.bk hx hzn hz
   rw [List.map_fst_zip (by rw [hlen];exact Nat.le_refl _),List.map_snd_zip (by rw [hlen];exact Nat.le_refl _),<- phV_is,<- phV_is] at e
   exact congrArg Prod.fst e
theorem pdAd_lt {s:Int} (k:Kn s):∀ l m:List W6,LtA s l->LtA s m->LtA s (pdAd phO.ad s l m)
 | [],_,_,_=>by unfold pdAd;exact fun c hc=>by cases hc
 | _ :: _,[],_,_=>by unfold pdAd;exact fun c hc=>by cases hc
 | a :: l,b :: m,h1,h2=>by
  have i:=pdAd_lt k l m (fun d hd=>h1 d (List.mem_cons_of_mem _ hd)) fun d hd=>h2 d (List.mem_cons_of_mem _ hd)
  have e:=k.adl (h1 a List.mem_cons_self) (h2 b List.mem_cons_self)
  unfold pdAd
  intro c hc
  rcases List.mem_cons.1 hc with rfl | hc
  . rw [phO_ad];exact e
  . exact i c hc
theorem pdAd_len (ad:S3) (s:Int):∀ l m:List W6,l.length=m.length->(pdAd ad s l m).length=l.length
 | [],_,_=>by unfold pdAd;rfl
 | _ :: _,[],h=>by simp at h
 | a :: l,b :: m,h=>by
  unfold pdAd
  simp only [List.length_cons]
  rw [pdAd_len ad s l m (by simpa using h)]
theorem pdKs_is {s:Int} (k:Kn s):∀ la lb lc ld:List W6,la.length=lb.length->la.length=lc.length->la.length=ld.length->LtA s la->LtA s lb->LtA s lc->LtA s ld ->
 pdKs phO.a (phKs phO s la lb) (phKs phO s lc ld)=phKs phO s (pdAd phO.ad s la lc) (pdAd phO.ad s lb ld)
 | [],[],[],[],_,_,_,_,_,_,_=>by unfold phKs pdKs pdAd phKs;rfl
 | a :: la,b :: lb,c :: lc,d :: ld,e1,e2,e3,h1,h2,h3,h4=>by
  have i:=pdKs_is k la lb lc ld (by simpa using e1) (by simpa using e2) (by simpa using e3) (fun d hd=>h1 d (List.mem_cons_of_mem _ hd)) (fun d hd=>h2 d (List.mem_cons_of_mem _ hd)) (fun d hd=>h3 d (List.mem_cons_of_mem _ hd)) fun d hd=>h4 d (List.mem_cons_of_mem _ hd)
  have ha:=h1 a List.mem_cons_self
  have hb:=h2 b List.mem_cons_self
  have hc:=h3 c List.mem_cons_self
  have hd:=h4 d List.mem_cons_self
  have e:(AZ (oneK poA s a b) (oneK poA s c d)).1=oneK poA s (adZ s a c).1 (adZ s b d).1:=by
   rw [(k.one ha hb).2.1,(k.one hc hd).2.1,(k.one (k.adl ha hc) (k.adl hb hd)).2.1,sum_all k.su k.b1 k.bk ha hb hc hd]
  have u1:phKs phO s (a :: la) (b :: lb)=phO.ok s a b :: phKs phO s la lb:=rfl
  have u2:phKs phO s (c :: lc) (d :: ld)=phO.ok s c d :: phKs phO s lc ld:=rfl
  have u3:pdAd phO.ad s (a :: la) (c :: lc)=(phO.ad s a c).1 :: pdAd phO.ad s la lc:=rfl
  have u4:pdAd phO.ad s (b :: lb) (d :: ld)=(phO.ad s b d).1 :: pdAd phO.ad s lb ld:=rfl
  have u5:phKs phO s ((phO.ad s a c).1 :: pdAd phO.ad s la lc) ((phO.ad s b d).1 :: pdAd phO.ad s lb ld)=phO.ok s (phO.ad s a c).1 (phO.ad s b d).1 :: phKs phO s (pdAd phO.ad s la lc) (pdAd phO.ad s lb ld):=rfl
  have u6:pdKs phO.a (phO.ok s a b :: phKs phO s la lb) (phO.ok s c d :: phKs phO s lc ld)=(phO.a (phO.ok s a b) (phO.ok s c d)).1 :: pdKs phO.a (phKs phO s la lb) (phKs phO s lc ld):=rfl
  rw [u1,u2,u3,u4,u5,u6,i]
  have e2:(phO.a (phO.ok s a b) (phO.ok s c d)).1=phO.ok s (phO.ad s a c).1 (phO.ad s b d).1:=by
   rw [phO_a,phO_kk,phO_ad];exact e
  rw [e2]
theorem pdSk_t:∀ l:List Kz,pdSk l l=true
 | []=>by unfold pdSk;rfl
 | c :: l=>by
  have e:eqKz c c=true:=(eqKz_iff _ _).2 rfl
  unfold pdSk
  rw [pdSk_t l,e]
  rfl
theorem pdQs_t {s:Int} (k:Kn s) {r:List Bool} (hr:∀ b ∈ r,b=true):∀ la lb lc ld:List W6,LtA s la->LtA s lb->LtA s lc->LtA s ld->∀ b ∈ pdQs phO s la lb lc ld r,b=true
 | a :: la,b :: lb,c :: lc,d :: ld,h1,h2,h3,h4=>by
  have i:=pdQs_t k hr la lb lc ld (fun d hd=>h1 d (List.mem_cons_of_mem _ hd)) (fun d hd=>h2 d (List.mem_cons_of_mem _ hd)) (fun d hd=>h3 d (List.mem_cons_of_mem _ hd)) fun d hd=>h4 d (List.mem_cons_of_mem _ hd)
  have q1:phO.q s a c=true:=by rw [phO_q];exact k.qq (h1 a List.mem_cons_self) (h3 c List.mem_cons_self)
  have q2:phO.q s b d=true:=by rw [phO_q];exact k.qq (h2 b List.mem_cons_self) (h4 d List.mem_cons_self)
  unfold pdQs
  exact all_cons (by rw [q1];rfl) <| all_cons (by rw [q2];rfl) <| all_cons rfl <| all_cons rfl <| all_cons rfl i
 | [],_,_,_,_,_,_,_=>by unfold pdQs;exact hr
 | _ :: _,[],_,_,_,_,_,_=>by unfold pdQs;exact hr
 | _ :: _,_ :: _,[],_,_,_,_,_=>by unfold pdQs;exact hr
 | _ :: _,_ :: _,_ :: _,[],_,_,_,_=>by unfold pdQs;exact hr
theorem pd_main {s:Int} (k:Kn s) {la lb lc ld:List W6} (e1:la.length=lb.length) (e2:la.length=lc.length) (e3:la.length=ld.length) (hn:la ≠ []) (x:Int):(∀ b ∈ pdB phO s la lb lc ld x,b=true) /\ pdR phO s la lb lc ld x=true:=by
 obtain ⟨x0,x1⟩:=pick_in (n:=41) (by decide) (by decide) x
 have x0:0 <= phX x:=x0
 have x1:phX x < 41:=x1
 have hx:(phXw (phX x)).val < suRi s:=by rw [phXw_val x0 x1];have:=k.big;omega
 have l1:=phL_lt k la
 have l2:=phL_lt k lb
 have l3:=phL_lt k lc
 have l4:=phL_lt k ld
 have len:∀ l:List W6,(phL phO s l).length=l.length:=fun l=>by simp [phL]
 have ne:∀ l:List W6,l.length=la.length->phL phO s l ≠ []:=fun l h e=>by
  have:=congrArg List.length e
  rw [len,h] at this
  exact hn (List.eq_nil_of_length_eq_zero this)
 have f1:(phL phO s la).length=(phL phO s lb).length:=by rw [len,len,e1]
 have f2:(phL phO s la).length=(phL phO s lc).length:=by rw [len,len,e2]
 have f3:(phL phO s la).length=(phL phO s ld).length:=by rw [len,len,e3]
 have f4:(phL phO s lb).length=(phL phO s ld).length:=f1.symm.trans f3
 have f5:(phL phO s lc).length=(phL phO s ld).length:=f2.symm.trans f3
 obtain ⟨p1,p2,-⟩:=pl_core k l1 l2 f1 (ne la rfl) x0 x1
 obtain ⟨r1,r2,-⟩:=pl_core k l3 l4 f5 (ne lc e2.symm) x0 x1
 have u1:LtA s (pdU phO s la lc):=pdAd_lt k _ _ l1 l3
 have u2:LtA s (pdU phO s lb ld):=pdAd_lt k _ _ l2 l4
 have g1:(pdU phO s la lc).length=(phL phO s la).length:=pdAd_len _ _ _ _ f2
 have g2:(pdU phO s lb ld).length=(phL phO s lb).length:=pdAd_len _ _ _ _ f4
 have g3:(pdU phO s la lc).length=(pdU phO s lb ld).length:=by rw [g1,g2,f1]
 have g4:pdU phO s la lc ≠ []:=fun e=>by
  have:=congrArg List.length e
  rw [g1,len] at this
  exact hn (List.eq_nil_of_length_eq_zero this)
 obtain ⟨w1,w2,w3⟩:=pl_core k u1 u2 g3 g4 x0 x1
 have hC:pdC phO s la lb lc ld=phKs phO s (pdU phO s la lc) (pdU phO s lb ld):=pdKs_is k _ _ _ _ f1 f2 f3 l1 l2 l3 l4
 have hU:(pdV phO s la lc x).val < suRi s:=phV_lt k hx u1
 have hV:(pdV phO s lb ld x).val < suRi s:=phV_lt k hx u2
 have sm:pdSm phO.k (phP phO s la lb) (phP phO s lc ld)=true:=by
  have a1:phCh phO.k (phP phO s la lb)=true:=phCh_t p1 p2
  have a2:phCh phO.k (phP phO s lc ld)=true:=phCh_t r1 r2
  have a3:hd1 (phP phO s la lb)=s:=hd_t p2 fun c hc=>(p1 c hc).2
  have a4:hd1 (phP phO s lc ld)=s:=hd_t r2 fun c hc=>(r1 c hc).2
  unfold pdSm
  rw [a1,a2,a3,a4]
  simp [nt,bt,tt]
 have ho:phHo phO.k phO.oq (pdC phO s la lb lc ld) (phX x) (pdV phO s la lc x) (pdV phO s lb ld x)=true:=by
  rw [hC];exact phHo_t k w1 w2 x0 x1 hU hV
 have sk:pdSk (pdC phO s la lb lc ld) (phKs phO s (pdU phO s la lc) (pdU phO s lb ld))=true:=by rw [hC];exact pdSk_t _
 have c0:(!(decide (s < 0)))=true:=by have:=k.h0;simp;omega
 have c2:(!(decide (s > 2)))=true:=by have:=k.h2;simp;omega
 refine ⟨?_,?_⟩
 . unfold pdB
   exact all_cons rfl <| all_cons rfl <| all_cons c0 <| all_cons c2 <| all_cons rfl <| all_cons rfl <| all_cons rfl <| all_cons (phCo_t k l1 l2) <| all_cons (phCo_t k l3 l4) <| all_cons sm <| all_cons rfl <| all_cons rfl <| all_cons rfl <|
    pdQs_t k (all_cons (phCo_t k u1 u2) <| all_cons (phVa_t k u1 x0 x1) <| all_cons (phVa_t k u2 x0 x1) <| all_cons ho <| all_cons (by rw [sk];rfl) all_nil) _ _ _ _ l1 l2 l3 l4
 . have hd:hd1 (phKs phO s (pdU phO s la lc) (pdU phO s lb ld))=s:=hd_t w2 fun c hc=>(w1 c hc).2
   unfold pdR phHv
   rw [hC,hd,phO_kk,phO_m,phO_a]
   exact (eqKz_iff _ _).2 w3
def pdRun (n:Nat) (t:PH) (s x:Int) (la lb lc ld:List W6) (c1 c2 c3 c4:Nat) (u1 u2 u3 u4:TypeId):Prop :=
 valL [false,false] (pdSl n t s la lb lc ld x c1 c2 c3 c4 u1 u2 u3 u4)=some (pdB t s la lb lc ld x,[],some (kBool.val (pdR t s la lb lc ld x)))
section
variable (t:PH) (s x:Int) (c1 c2 c3 c4:Nat) (u1 u2 u3 u4:TypeId)
theorem pd_len1:∀ {la lb lc ld:List W6},la.length=1->lb.length=1->lc.length=1->ld.length=1->pdRun 1 t s x la lb lc ld c1 c2 c3 c4 u1 u2 u3 u4
 | [p0],[q0],[y0],[z0],_,_,_,_=>pd_1 t s x c1 c2 c3 c4 u1 u2 u3 u4 p0 q0 y0 z0
theorem pd_len2:∀ {la lb lc ld:List W6},la.length=2->lb.length=2->lc.length=2->ld.length=2->pdRun 2 t s x la lb lc ld c1 c2 c3 c4 u1 u2 u3 u4
 | [p0,p1],[q0,q1],[y0,y1],[z0,z1],_,_,_,_=>pd_2 t s x c1 c2 c3 c4 u1 u2 u3 u4 p0 p1 q0 q1 y0 y1 z0 z1
theorem pd_len3:∀ {la lb lc ld:List W6},la.length=3->lb.length=3->lc.length=3->ld.length=3->pdRun 3 t s x la lb lc ld c1 c2 c3 c4 u1 u2 u3 u4
 | [p0,p1,p2],[q0,q1,q2],[y0,y1,y2],[z0,z1,z2],_,_,_,_=>pd_3 t s x c1 c2 c3 c4 u1 u2 u3 u4 p0 p1 p2 q0 q1 q2 y0 y1 y2 z0 z1 z2
theorem pd_len4:∀ {la lb lc ld:List W6},la.length=4->lb.length=4->lc.length=4->ld.length=4->pdRun 4 t s x la lb lc ld c1 c2 c3 c4 u1 u2 u3 u4
 | [p0,p1,p2,p3],[q0,q1,q2,q3],[y0,y1,y2,y3],[z0,z1,z2,z3],_,_,_,_=>pd_4 t s x c1 c2 c3 c4 u1 u2 u3 u4 p0 p1 p2 p3 q0 q1 q2 q3 y0 y1 y2 y3 z0 z1 z2 z3
theorem pd_len {la lb lc ld:List W6} (e1:la.length=lb.length) (e2:la.length=lc.length) (e3:la.length=ld.length) (h1:la.length ≠ 0) (h4:la.length <= 4):pdRun la.length t s x la lb lc ld c1 c2 c3 c4 u1 u2 u3 u4:=by
 have h:la.length=1 \/ la.length=2 \/ la.length=3 \/ la.length=4:=by omega
 rcases h with h | h | h | h
 . rw [h];exact pd_len1 t s x c1 c2 c3 c4 u1 u2 u3 u4 h (e1.symm.trans h) (e2.symm.trans h) (e3.symm.trans h)
 . rw [h];exact pd_len2 t s x c1 c2 c3 c4 u1 u2 u3 u4 h (e1.symm.trans h) (e2.symm.trans h) (e3.symm.trans h)
 . rw [h];exact pd_len3 t s x c1 c2 c3 c4 u1 u2 u3 u4 h (e1.symm.trans h) (e2.symm.trans h) (e3.symm.trans h)
 . rw [h];exact pd_len4 t s x c1 c2 c3 c4 u1 u2 u3 u4 h (e1.symm.trans h) (e2.symm.trans h) (e3.symm.trans h)
end
def AtL (S:SA) (l:List W6):Prop:=(S=.nil /\ l=[]) \/ S=.slc l.length
theorem AtL.len {S:SA} {l:List W6} (h:AtL S l):S.len=l.length:=by
 rcases h with ⟨h,e⟩ | h
 . rw [h,e];rfl
 . rw [h];rfl
theorem AtL.slc {S:SA} {l:List W6} (h:AtL S l) (hn:l.length ≠ 0):S=.slc l.length:=by
 rcases h with ⟨-,e⟩ | h
 . rw [e] at hn;exact absurd rfl hn
 . exact h
theorem neL_is {S1 S2:SA} {l m:List W6} (a1:AtL S1 l) (a2:AtL S2 m):neL S1 S2=true ↔ l.length ≠ m.length:=by
 unfold neL
 rw [a1.len,a2.len]
 simp
 omega
theorem AtL.sa {S:SA} {l:List W6} (h:AtL S l):∃ o,S=sa o:=by
 rcases h with ⟨h,-⟩ | h
 . exact ⟨none,h⟩
 . exact ⟨some l.length,h⟩
theorem pd_holds {s:Int} {S1 S2 S3 S4:SA} {la lb lc ld:List W6} (a1:AtL S1 la) (a2:AtL S2 lb) (a3:AtL S3 lc) (a4:AtL S4 ld) (x:Int) (c1 c2 c3 c4:Nat) (u1 u2 u3 u4:TypeId) :
 ∃ n sym,(pdT n sym phO s S1 S2 S3 S4 (encL c6 la) (encL c6 lb) (encL c6 lc) (encL c6 ld) x c1 c2 c3 c4 u1 u2 u3 u4).holds (fun q=>flat q=some (.bool true)):=by
 have no:∀ p ∈ ([]:List (XS × XS)),p.1=p.2:=fun p hp=>by cases hp
 obtain ⟨o1,rfl⟩:=a1.sa
 obtain ⟨o2,rfl⟩:=a2.sa
 obtain ⟨o3,rfl⟩:=a3.sa
 obtain ⟨o4,rfl⟩:=a4.sa
 have tr:∀ {b:Bool},¬ b=true->(!b)=true:=fun {b} h=>by cases b with
  | true=>exact absurd rfl h
  | false=>rfl
 by_cases g0:(decide (s < 0))=true
 . exact ⟨0,pdS0,(givesL (pd_A0 phO s o1 o2 o3 o4 (encL c6 la) (encL c6 lb) (encL c6 lc) (encL c6 ld) x c1 c2 c3 c4 u1 u2 u3 u4) no (all_cons rfl <| all_cons rfl <| all_cons g0 <| all_cons rfl <| all_cons rfl all_nil)).out⟩
 by_cases g1:(decide (s > 2))=true
 . exact ⟨0,pdS0,(givesL (pd_A1 phO s o1 o2 o3 o4 (encL c6 la) (encL c6 lb) (encL c6 lc) (encL c6 ld) x c1 c2 c3 c4 u1 u2 u3 u4) no (all_cons rfl <| all_cons rfl <| all_cons (tr g0) <| all_cons g1 <| all_cons rfl <| all_cons rfl all_nil)).out⟩
 by_cases g2:(neL (sa o1) (sa o2))=true
 . exact ⟨0,pdS0,(givesL (pd_A2 phO s o1 o2 o3 o4 (encL c6 la) (encL c6 lb) (encL c6 lc) (encL c6 ld) x c1 c2 c3 c4 u1 u2 u3 u4) no (all_cons rfl <| all_cons rfl <| all_cons (tr g0) <| all_cons (tr g1) <| all_cons g2 <| all_cons rfl <| all_cons rfl all_nil)).out⟩
 by_cases g3:(neL (sa o1) (sa o3))=true
 . exact ⟨0,pdS0,(givesL (pd_A3 phO s o1 o2 o3 o4 (encL c6 la) (encL c6 lb) (encL c6 lc) (encL c6 ld) x c1 c2 c3 c4 u1 u2 u3 u4) no (all_cons rfl <| all_cons rfl <| all_cons (tr g0) <| all_cons (tr g1) <| all_cons (tr g2) <| all_cons g3 <| all_cons rfl <| all_cons rfl all_nil)).out⟩
 by_cases g4:(neL (sa o1) (sa o4))=true
 . exact ⟨0,pdS0,(givesL (pd_A4 phO s o1 o2 o3 o4 (encL c6 la) (encL c6 lb) (encL c6 lc) (encL c6 ld) x c1 c2 c3 c4 u1 u2 u3 u4) no (all_cons rfl <| all_cons rfl <| all_cons (tr g0) <| all_cons (tr g1) <| all_cons (tr g2) <| all_cons (tr g3) <| all_cons g4 <| all_cons rfl <| all_cons rfl all_nil)).out⟩
 by_cases g5:((((sa o1).len:Int) == 0))=true
 . exact ⟨0,pdS0,(givesL (pd_A5 phO s o1 o2 o3 o4 (encL c6 la) (encL c6 lb) (encL c6 lc) (encL c6 ld) x c1 c2 c3 c4 u1 u2 u3 u4) no (all_cons rfl <| all_cons rfl <| all_cons (tr g0) <| all_cons (tr g1) <| all_cons (tr g2) <| all_cons (tr g3) <| all_cons (tr g4) <| all_cons g5 <| all_cons rfl <| all_cons rfl all_nil)).out⟩
 by_cases g6:(decide (((sa o1).len:Int) > 4))=true
 . exact ⟨0,pdS0,(givesL (pd_A6 phO s o1 o2 o3 o4 (encL c6 la) (encL c6 lb) (encL c6 lc) (encL c6 ld) x c1 c2 c3 c4 u1 u2 u3 u4) no (all_cons rfl <| all_cons rfl <| all_cons (tr g0) <| all_cons (tr g1) <| all_cons (tr g2) <| all_cons (tr g3) <| all_cons (tr g4) <| all_cons (tr g5) <| all_cons g6 <| all_cons rfl <| all_cons rfl all_nil)).out⟩
 have k:Kn s:=⟨by simpa using g0,by simpa using g1⟩
 have e1:la.length=lb.length:=by
  by_cases e:la.length=lb.length
  . exact e
  . exact absurd ((neL_is a1 a2).2 e) g2
 have e2:la.length=lc.length:=by
  by_cases e:la.length=lc.length
  . exact e
  . exact absurd ((neL_is a1 a3).2 e) g3
 have e3:la.length=ld.length:=by
  by_cases e:la.length=ld.length
  . exact e
  . exact absurd ((neL_is a1 a4).2 e) g4
 have hz:la.length ≠ 0:=fun e=>g5 (by rw [a1.len,e];rfl)
 have h4:la.length <= 4:=by
  have:¬ (((sa o1).len:Int) > 4):=fun h=>g6 (decide_eq_true h)
  rw [a1.len] at this
  omega
 obtain ⟨m1,m2⟩:=pd_main k e1 e2 e3 (fun e=>hz (by rw [e];rfl)) x
 have r:=pd_len phO s x c1 c2 c3 c4 u1 u2 u3 u4 e1 e2 e3 hz h4
 unfold pdRun at r
 rw [m2] at r
 refine ⟨la.length,pdS,?_⟩
 have s2:sa o2=.slc la.length:=by rw [e1];exact a2.slc (by rw [<- e1];exact hz)
 have s3:sa o3=.slc la.length:=by rw [e2];exact a3.slc (by rw [<- e2];exact hz)
 have s4:sa o4=.slc la.length:=by rw [e3];exact a4.slc (by rw [<- e3];exact hz)
 rw [a1.slc hz,s2,s3,s4]
 exact (givesL r no m1).out
theorem pdE_ok (n:Nat):EnvOk PR (pdE n phO) :=
 envD_ok eqsT_ok (TabPOk.cons Ch.aw_ok (TabPOk.cons adZ_ok (TabPOk.cons pk_ok TabPOk.nil))) TabHOk.nil TabLOk.nil
  (TabDOk.cons sc_ent scZ_ok (TabDOk.cons cm_ent (cm_ok OZ_ok oneA_ok) (TabDOk.cons sv_ent (sv_ok OZ_ok cmp_ok adZ_ok mlZ_ok) (TabDOk.cons sm_ent (sm_ok kv_ok AZ_ok) (TabDOk.cons ho_ent (ho_ok kv_ok MZ_ok AZ_ok oneA_ok) (TabDOk.cons sk_ent sk_ok TabDOk.nil))))))
theorem pd_code (n:Nat):codeOk (pdE n phO) (bodyOf PR 7)=true:=by kernel_rfl
theorem pd_calls {W:World} (hg:GW W) {X1 X2 X3 X4:Hd} {v1 v2 v3 v4:Value} {la lb lc ld:List W6} (a1:AtL X1.s la) (a2:AtL X2.s lb) (a3:AtL X3.s lc) (a4:AtL X4.s ld) (e1:X1.cs=encL c6 la) (e2:X2.cs=encL c6 lb) (e3:X3.cs=encL c6 lc) (e4:X4.cs=encL c6 ld)
 (k1:HandS W X1 v1) (k2:HandS W X2 v2) (k3:HandS W X3 v3) (k4:HandS W X4 v4) (s x:Int):Calls PR 7 #[(kInt .i64).val s,v1,v2,v3,v4,(kInt .i64).val x] W (fun e w'=>e=.returned (.bool true) /\ RowKit.Below W.heap.size W w'):=by
 have hW:=hRW hg (w:=W) (l:=[X1,X2,X3,X4]) (fun y hy=>by
  simp only [List.mem_cons,List.not_mem_nil,or_false] at hy
  rcases hy with rfl | rfl | rfl | rfl
  . exact ⟨_,k1⟩
  . exact ⟨_,k2⟩
  . exact ⟨_,k3⟩
  . exact ⟨_,k4⟩)
 have hx:Rvs (hRen [X1,X2,X3,X4]) (pdAs X1.s X2.s X3.s X4.s X1.cap X2.cap X3.cap X4.cap s x) [(kInt .i64).val s,v1,v2,v3,v4,(kInt .i64).val x] :=
  .cons (.of_flat ((kInt .i64).h1 s)) (.cons (hRen_at (l:=[X1,X2,X3,X4]) (j:=0) rfl k1) (.cons (hRen_at (l:=[X1,X2,X3,X4]) (j:=1) rfl k2) (.cons (hRen_at (l:=[X1,X2,X3,X4]) (j:=2) rfl k3) (.cons (hRen_at (l:=[X1,X2,X3,X4]) (j:=3) rfl k4) (.cons (.of_flat ((kInt .i64).h1 x)) .nil)))))
 have hheap:hHeap 0 [X1,X2,X3,X4]=pd4 X1.s X2.s X3.s X4.s X1.t X2.t X3.t X4.t (encL c6 la) (encL c6 lb) (encL c6 lc) (encL c6 ld):=by
  rw [<- e1,<- e2,<- e3,<- e4];rfl
 rw [hheap] at hW
 obtain ⟨n,sym,hh⟩:=pd_holds (s:=s) a1 a2 a3 a4 x X1.cap X2.cap X3.cap X4.cap X1.t X2.t X3.t X4.t
 have hg2:=Tree.holds_bind hh
 have:=afun_calls (pdE_ok n) mixed (fn:=Tryz.f7) (c:=bodyOf PR 7) (by kernel_rfl) (by kernel_rfl) (pd_code n) (tabOk_none _) (K:=fun q _=>flat q=some (.bool true)) hg2 (F:=frameOf W) hx hW
  (fun id hid=>hRen_none id (by simpa using hid))
 refine Calls.mono this ?_
 rintro e w' ⟨v',q',h',ρ',rfl,hk',hrv,hrw,_⟩
 have:=hrv.flat_eq hk'
 subst this
 exact ⟨rfl,hrw.to_below⟩
end Go.Rq.Cl

namespace Go.Rq.Cl
open Go Go.Proofs Go.Rq Go.Rq.Sm
theorem row_told {P:Program} {w:World} {base:Nat} {sp:Nat->Bool} {held:Bool} {fuel:Nat} {t e:TypeId} {cs:List Value} {p:List MemPlace} {vals:List Int} (ht:P.underlying t=some (.array vals.length e)) (he:P.underlying e=some (.int .u32)) (h1:P.cellsOf e=1) (ht1:P.cellsOf t=vals.length)
 (h:DataW.trod (fun _=>()) P w base sp held fuel t cs=some (.agg (vals.map fun n=>.lit (.int .u32 n)),p)):cs=vals.map fun n=>.int .u32 n:=by
 obtain ⟨xs,m,-,hx,hl,hn,hel⟩:=DataW.trod_array ht h
 simp only [Prod.mk.injEq,DataW.agg.injEq] at hx
 obtain ⟨hx,-⟩:=hx
 rw [ht1] at hl
 apply List.ext_getElem?
 intro i
 by_cases hi:i < vals.length
 . have hi2:=hel i hi
   rw [h1,Nat.mul_one,List.getElem?_eq_getElem (by rw [hn];exact hi)] at hi2
   obtain ⟨n,e1,e2,-⟩:=DataW.trod_int he hi2
   have e3:(vals.map fun n=>(DataW.lit (.int .u32 n):DataW Unit))[i]?=some (xs[i]'(by rw [hn];exact hi)).1:=by
    rw [hx,List.getElem?_map,List.getElem?_eq_getElem (by rw [hn];exact hi)]
    rfl
   rw [e2,List.getElem?_map,List.getElem?_eq_getElem hi] at e3
   simp only [Option.map_some,Option.some.injEq,DataW.lit.injEq,Lit.int.injEq,true_and] at e3
   have e4:cs[i]?=some (.int .u32 n):=by
    have:=congrArg (fun l=>l[0]?) e1
    simpa [List.getElem?_take,List.getElem?_drop] using this
   rw [e4,List.getElem?_map,List.getElem?_eq_getElem hi,<- e3]
   rfl
 . rw [List.getElem?_eq_none (by omega),List.getElem?_eq_none (by rw [List.length_map];omega)]
theorem shaK_vals:shaK=shaKI.map fun n=>.int .u32 n:=by kernel_rfl
theorem k_type:(Tryz.prog.globals[0]?).map (·.type)=some 255:=by kernel_rfl
theorem k_laid:(YtedplhdabefnkaaGreatDoor.Rows.laid_reliquary_digest_k:DataW Unit)=.agg (shaKI.map fun n=>.lit (.int .u32 n)):=by kernel_rfl
theorem gw_of_laid {W:World} {nm:String} (h:laidMetH Tryz.prog [(nm,YtedplhdabefnkaaGreatDoor.Rows.laid_reliquary_digest_k)] W) (k_glob:Tryz.prog.globalNamed nm=some 0):GW W:=by
 rw [MakeChecks.laidMetH_plain _ _ _ (by kernel_rfl)] at h
 obtain ⟨ps,⟨g0,t0,cs0,f0,p0,q0,hg0,ht0,hv0,hd0,_,_⟩,_⟩:=h
 obtain rfl:=Option.some.inj (k_glob.symm.trans hg0)
 obtain rfl:=Option.some.inj (k_type.symm.trans ht0)
 rw [k_laid] at hd0
 have hcs:=row_told (vals:=shaKI) (e:=236) (by kernel_rfl) (by kernel_rfl) (by kernel_rfl) (by kernel_rfl) hd0
 intro g cs hg
 have hg:g=0 /\ cs=shaK:=by
  unfold gTab at hg
  split at hg
  . exact ⟨rfl,by simpa using hg.symm⟩
  . cases hg
 obtain ⟨rfl,rfl⟩:=hg
 simp only [World.var?,k_glob,Option.bind_some] at hv0
 split at hv0
 . rename_i c ty fr hh
   simp only [Option.some.injEq] at hv0
   subst hv0
   exact ⟨_,ty,fr,hh,by rw [hcs,shaK_vals]⟩
 . cases hv0
end Go.Rq.Cl
