import Derived.Test.YtedplhdabefnkaaGreatDoorRq04
import Derived.Test.YtedplhdabefnkaaGreatDoorRq13
import Derived.Test.YtedplhdabefnkaaGreatDoorRq15
import Derived.Test.YtedplhdabefnkaaGreatDoorRq07
namespace Go.Rq.Cl
open Go Go.Proofs Go.Rq Go.Rq.Sm
inductive Md where
 | pl
 | pm
 | rl
 | rm
 | ro
 | pb
def mdB:Md->W6
 | .pl=>ofW 786251#64
 | .pm=>ofW 1152921504606846223#64
 | .rl=>ofW 65521#64
 | .rm=>ofW 72057594037927889#64
 | .ro=>⟨0xffffffff00000001#64,0x53bda402fffe5bfe#64,0x3339d80809a1d805#64,0x73eda753299d7d48#64,0#64,0#64⟩
 | .pb=>⟨0xb9feffffffffaaab#64,0x1eabfffeb153ffff#64,0x6730d2a0f6b0f624#64,0x64774b84f38512bf#64,0x4b1ba7b6434bacd7#64,0x1a0111ea397fe69a#64⟩
def mdN:Md->Nat
 | .pl=>786251
 | .pm=>1152921504606846223
 | .rl=>65521
 | .rm=>72057594037927889
 | .ro=>52435875175126190479447740508185965837690552500527637822603658699938581184513
 | .pb=>4002409555221667393417789825735904156556882819939007885332058136124031650490837864442687629129015664037894272559787
def mdLow:Md->BitVec 64
 | .pl=>10390319207809346973#64
 | .pm=>14430657610782912017#64
 | .rl=>12067905526098292463#64
 | .rm=>12876845368607590095#64
 | .ro=>18446744069414584319#64
 | .pb=>9940570264628428797#64
def mdWide:Md->W6
 | .pl=>ofW 727978#64
 | .pm=>ofW 568433403966750506#64
 | .rl=>ofW 48361#64
 | .rm=>ofW 17558069939896805#64
 | .ro=>⟨0xc62c1807439b73af#64,0x1b3e0d188cf06990#64,0x73d13c71c7b5f418#64,0x6e2a5bb9c8db33e9#64,0#64,0#64⟩
 | .pb=>⟨0xf4df1f341c341746#64,0x0a76e6a609d104f1#64,0x8de5476c4c95b6d5#64,0x67eb88a9939d83c0#64,0x9a793e85b519952d#64,0x11988fe592cae3aa#64⟩
theorem mdB_nat (m:Md):(mdB m).val=mdN m:=by cases m <;> decide +kernel
theorem mdN_pos (m:Md):1 < mdN m /\ mdN m < 19701003098197239606139520050071806902539869635232723333974146702122860885748605305707133127442457820403313995153408:=by cases m <;> decide +kernel
def modS (m:Md):Mo:=(mdB m,mdLow m,mdWide m)
theorem eqW_ok (a b:W6) (h:eqW a b=true):a=b:=(eqW_iff a b).1 h
def mdOf (x:W6):Option Md:=bif eqW (mdB .pl) x then some .pl else bif eqW (mdB .pm) x then some .pm else bif eqW (mdB .rl) x then some .rl else bif eqW (mdB .rm) x then some .rm else bif eqW (mdB .ro) x then some .ro else bif eqW (mdB .pb) x then some .pb else none
theorem mdOf_ok (x:W6) (m:Md) (h:mdOf x=some m):mdB m=x:=by
 unfold mdOf at h
 cases h1:eqW (mdB .pl) x with
 | true=>rw [h1,cond_true] at h;cases h;exact eqW_ok _ _ h1
 | false =>
  rw [h1,cond_false] at h
  clear h1
  cases h1:eqW (mdB .pm) x with
  | true=>rw [h1,cond_true] at h;cases h;exact eqW_ok _ _ h1
  | false =>
   rw [h1,cond_false] at h
   clear h1
   cases h1:eqW (mdB .rl) x with
   | true=>rw [h1,cond_true] at h;cases h;exact eqW_ok _ _ h1
   | false =>
    rw [h1,cond_false] at h
    clear h1
    cases h1:eqW (mdB .rm) x with
    | true=>rw [h1,cond_true] at h;cases h;exact eqW_ok _ _ h1
    | false =>
     rw [h1,cond_false] at h
     clear h1
     cases h1:eqW (mdB .ro) x with
     | true=>rw [h1,cond_true] at h;cases h;exact eqW_ok _ _ h1
     | false =>
      rw [h1,cond_false] at h
      clear h1
      cases h1:eqW (mdB .pb) x with
      | true=>rw [h1,cond_true] at h;cases h;exact eqW_ok _ _ h1
      | false =>
       rw [h1,cond_false] at h
       clear h1
       cases h
def kMd:Cod Md:=kEmb c6.agg mdB mdOf mdOf_ok
structure NW where
 sh:W6->W6
 ls:Mo->W6->W6
def nwM (m:Md):Mo:=(mdB m,mdLow m,zeroW)
def nwT (t:NW):PureTab:=[(104,fn2 c6.agg (kAt .i64 1) c6.agg (fun a _=>t.sh a)),(103,fn1 c6.agg (kInt .i64) lenI),(86,fn2 c6.agg c6.agg (kInt .i64) cmW),(33,fn1 kU c6.agg ofW)]
noncomputable def nmE (t:NW):Env:=envH eqsT (nwT t) [(124,rdp 163 cFa (mc1 c6.agg) c6.agg t.ls)]
def nwK:Keep:=⟨[4,6,43],[20,100],103⟩
@[irreducible] noncomputable def nwX (t:NW) (m:Md):XS:=entryB PR (nmE t) [44] (fun _=>none) 10 115 [kMd.enc m] [] 0 2 nwK
@[irreducible] noncomputable def nwI (t:NW) (m:Md) (d:Int × W6):XS:=((nwX t m).setT 43 (.v (.int .i64 d.1))).setB 100 (c6.enc d.2)
@[irreducible] noncomputable def nwC:Code:=roundOf PR 115 2
def nwR (t:NW) (m:Md) (I:Int × W6->XS) (z:Int) (x:W6):Tree (AExit × XS) :=
 .br (decide (z < 768)) (.leaf (.normal,I (IntKind.i64.wrap (z+1),t.ls (nwM m) (t.sh x)))) (.leaf (.exit 2,I (z,x)))
set_option maxRecDepth 1000000 in
theorem nw_round (t:NW) (m:Md) (z:Int) (x:W6):(roundT PR (nmE t) [44] (fun _=>none) 10 nwK nwK nwK nwC (nwI t m (z,x))).strict=nwR t m (nwI t m) z x:=by cases m <;> kernel_rfl
def nwG (t:NW) (m:Md):Nat->W6->W6
 | 0,x=>x
 | k+1,x=>nwG t m k (t.ls (nwM m) (t.sh x))
theorem nw_law (t:NW) (m:Md) (rt:XS->Tree (AExit × XS)) (I:Int × W6->XS) (hr:∀ (z:Int) (x:W6),(rt (I (z,x))).strict=nwR t m I z x) {R:W6} {Q:AExit->XS->Prop} (hK:Q .normal (I (768,R))) :
 ∀ d:Int × W6,(0 <= d.1 /\ d.1 <= 768 /\ nwG t m (768 - d.1).toNat d.2=R)->(rt (I d)).holds (fun r=>match r.1 with
  | .normal=>∃ j:Int × W6,(0 <= j.1 /\ j.1 <= 768 /\ nwG t m (768 - j.1).toNat j.2=R) /\ (768 - j.1).toNat < (768 - d.1).toNat /\ r.2=I j
  | .exit q=>if q=2 then Q .normal r.2 else Q (.exit q) r.2
  | .ret=>Q .ret r.2):=by
 rintro ⟨z,x⟩ ⟨h0,h1,h2⟩
 simp only at h0 h1
 apply Tree.holds_strict
 rw [hr]
 unfold nwR
 refine ⟨fun hz=>?_,fun hz=>?_⟩
 . have hz:z < 768:=by simpa using hz
   have hw:IntKind.i64.wrap (z+1)=z+1:=wrap_id (by omega) (by omega)
   have hk:(768 - z).toNat=(768 - (z+1)).toNat+1:=by omega
   simp only at h2
   rw [hk] at h2
   simp only [nwG] at h2
   refine ⟨⟨z+1,t.ls (nwM m) (t.sh x)⟩,⟨by simp only;omega,by simp only;omega,h2⟩,?_,?_⟩
   . show (768 - (z+1)).toNat < (768 - z).toNat
     omega
   . rw [hw]
 . have hz:z=768:=by
    have:¬ z < 768:=by simpa using hz
    omega
   subst hz
   have h2:x=R:=h2
   show (if (2:Nat)=2 then Q .normal (I (768,x)) else Q (.exit 2) (I (768,x)))
   rw [if_pos rfl,h2]
   exact hK
@[irreducible] noncomputable def nwB (t:NW) (m:Md) (r:W6):BEnt:=⟨nwK.tm,nwK.ids,nwK.n,nwX t m,.leaf (.normal,nwI t m (768,r))⟩
theorem nwB_n (t:NW) (m:Md) (r:W6):(nwB t m r).n=103 /\ (nwB t m r).pre=nwX t m /\ (nwB t m r).post=.leaf (.normal,nwI t m (768,r)):=by
 unfold nwB
 exact ⟨rfl,rfl,rfl⟩
def nwOut (m:Md) (r:W6):Mo:=(mdB m,mdLow m,r)
set_option maxRecDepth 1000000 in
theorem nw_run (t:NW) (m:Md) (r:W6):(afunQ PR (nmE t) [44] (tabOf [(2,nwB t m r)]) 10 115 163 [kMd.enc m]).strict =
 .same (nwX t m) (nwX t m) (.leaf (.tup [.agg (cFa.enc (nwOut m r)),.v (.int .i64 0)])):=by cases m <;> kernel_rfl
set_option maxRecDepth 1000000 in
theorem nw_head (t:NW) (m:Md):nwX t m=nwI t m (0,ofW (bitW true)):=by cases m <;> kernel_rfl
theorem nw_blk:blkAll 2 (bodyOf PR 115)=[.loop nwC]:=by kernel_rfl
def nwO:NW:=⟨shl1,moLessW⟩
theorem nwT_eq:[(104,fn2 c6.agg (kAt .i64 1) c6.agg (fun a _=>shl1 a)),(103,fn1 c6.agg (kInt .i64) lenI),(86,fn2 c6.agg c6.agg (kInt .i64) fun a b=>chainV (cmpL a b) 0),(33,fn1 kU c6.agg ofW)]=nwT nwO:=by kernel_rfl
theorem nwT_ok:TabPOk PR (nwT nwO):=Eq.subst (motive:=TabPOk PR) nwT_eq (TabPOk.cons shl1_ok (TabPOk.cons len_ok (TabPOk.cons cmp_ok (TabPOk.cons of_ok TabPOk.nil))))
theorem nmE_ok:EnvOk PR (nmE nwO):=envH_ok eqsT_ok nwT_ok (TabHOk.cons ml_ent ml_ok TabHOk.nil)
theorem nw_codeOk:codeOk (nmE nwO) nwC=true:=by kernel_rfl
def nwW (m:Md):W6:=nwG nwO m 768 (ofW (bitW true))
theorem nw_start (m:Md):∀ d:Int × W6,d=(0,ofW (bitW true))->0 <= d.1 /\ d.1 <= 768 /\ nwG nwO m (768 - d.1).toNat d.2=nwW m:=by
 rintro d rfl
 exact ⟨by simp,by simp,rfl⟩
theorem nw_loop (m:Md) {Fr0:Fr} {ds:List Deferred} {Q:AExit->XS->Prop} (hK:Q .normal (nwI nwO m (768,nwW m))) :
 Tri PR Fr0 ds 0 (.block 2 (.loop nwC)) (nwX nwO m) Q :=
 Eq.subst (motive:=fun y=>Tri PR Fr0 ds 0 (.block 2 (.loop nwC)) y Q) (nw_head nwO m).symm <| blockLoop (m:=0) nmE_ok mixed (sym:=[44]) (tab:=fun _=>none) (lf:=10) (k:=nwK) (kx:=nwK) (kr:=nwK) (Nat.zero_le _) (Nat.zero_le _) (Nat.zero_le _) nw_codeOk (tabOk_none _)
  (nwI nwO m) (fun d=>0 <= d.1 /\ d.1 <= 768 /\ nwG nwO m (768 - d.1).toNat d.2=nwW m) (fun d=>(768 - d.1).toNat) _ (nw_start m _ rfl)
  (nw_law nwO m _ (nwI nwO m) (nw_round nwO m) hK)
theorem nw_ctx (m:Md):Ctx PR (nmE nwO) [44] (tabOf [(2,nwB nwO m (nwW m))]) 10 115 :=
 ctx_of nmE_ok mixed (fn:=Tryz.f115) (by kernel_rfl) (by kernel_rfl) (by kernel_rfl)
  (tabOk_one (Nat.zero_le _) nw_blk fun Fr0 ds Q h=>by
   obtain ⟨-,h2,h3⟩:=nwB_n nwO m (nwW m)
   rw [h3] at h
   rw [h2]
   exact nw_loop m h)
theorem nw_gives (m:Md) (r:W6):(afunQ PR (nmE nwO) [44] (tabOf [(2,nwB nwO m r)]) 10 115 163 [kMd.enc m]).holds (fun a=>a=.tup [.agg (cFa.enc (nwOut m r)),.v (.int .i64 0)]) :=
 Tree.holds_strict (by rw [nw_run];exact ⟨rfl,rfl⟩)
theorem nw_okL:LayOk PR 115 (layP kMd 163 cFa 0 (fun m=>nwOut m (nwW m))) :=
 layP_ok (tab:=fun m=>tabOf [(2,nwB nwO m (nwW m))]) nw_ctx (fun m=>nw_gives m (nwW m))
theorem nw_ent:Enters PR 115:=entersB (by kernel_rfl)
theorem shl_or (a b:BitVec 64):(a <<< 1 ||| b >>> 63).toNat=2*a.toNat % 18446744073709551616+b.toNat / 9223372036854775808:=by
 have hb:(b >>> 63).toNat=b.toNat / 9223372036854775808:=by rw [BitVec.toNat_ushiftRight,Nat.shiftRight_eq_div_pow]
 have hbl:=b.isLt
 have ha:(a <<< 1).toNat=2*a.toNat % 18446744073709551616:=by
  rw [BitVec.toNat_shiftLeft,Nat.shiftLeft_eq,Nat.mul_comm]
 have hz:(a <<< 1) &&& (b >>> 63)=0#64:=by
  apply BitVec.eq_of_toNat_eq
  rw [BitVec.toNat_and,ha,hb]
  have hc:b.toNat / 9223372036854775808=0 \/ b.toNat / 9223372036854775808=1:=by omega
  rcases hc with h | h
  . rw [h,Nat.and_zero];rfl
  . rw [h,Nat.and_one_is_mod]
    show _=0
    omega
 rw [<- BitVec.add_eq_or_of_and_eq_zero _ _ hz,BitVec.toNat_add,ha,hb]
 apply Nat.mod_eq_of_lt
 omega
theorem shl_sum {a0 a1 a2 a3 a4 a5 m0 m1 m2 m3 m4 m5 c0 c1 c2 c3 c4:Nat} (d0:m0+18446744073709551616*c0=2*a0) (d1:m1+18446744073709551616*c1=2*a1) (d2:m2+18446744073709551616*c2=2*a2) (d3:m3+18446744073709551616*c3=2*a3) (d4:m4+18446744073709551616*c4=2*a4) (d5:m5+18446744073709551616*0=2*a5) :
 m0+18446744073709551616*(m1+c0)+340282366920938463463374607431768211456*(m2+c1)+6277101735386680763835789423207666416102355444464034512896*(m3+c2)+115792089237316195423570985008687907853269984665640564039457584007913129639936*(m4+c3)+2135987035920910082395021706169552114602704522356652769947041607822219725780640550022962086936576*(m5+c4) =
 2*(a0+18446744073709551616*a1+340282366920938463463374607431768211456*a2+6277101735386680763835789423207666416102355444464034512896*a3+115792089237316195423570985008687907853269984665640564039457584007913129639936*a4+2135987035920910082395021706169552114602704522356652769947041607822219725780640550022962086936576*a5):=by
 omega
theorem dbl_parts (v:Nat):2*v % 18446744073709551616+18446744073709551616*(v / 9223372036854775808)=2*v:=by omega
theorem shl1_words (x:W6):(shl1 x).val=(2*x.w0.toNat % 18446744073709551616)+18446744073709551616*(2*x.w1.toNat % 18446744073709551616+x.w0.toNat / 9223372036854775808)+340282366920938463463374607431768211456*(2*x.w2.toNat % 18446744073709551616+x.w1.toNat / 9223372036854775808) +
 6277101735386680763835789423207666416102355444464034512896*(2*x.w3.toNat % 18446744073709551616+x.w2.toNat / 9223372036854775808)+115792089237316195423570985008687907853269984665640564039457584007913129639936*(2*x.w4.toNat % 18446744073709551616+x.w3.toNat / 9223372036854775808) +
 2135987035920910082395021706169552114602704522356652769947041607822219725780640550022962086936576*(2*x.w5.toNat % 18446744073709551616+x.w4.toNat / 9223372036854775808):=by
 have h0:(x.w0 <<< 1).toNat=2*x.w0.toNat % 18446744073709551616:=by rw [BitVec.toNat_shiftLeft,Nat.shiftLeft_eq,Nat.mul_comm]
 rw [<- h0,<- shl_or,<- shl_or,<- shl_or,<- shl_or,<- shl_or]
 rfl
theorem top_low {a0 a1 a2 a3 a4 a5:Nat} (h:a0+18446744073709551616*a1+340282366920938463463374607431768211456*a2+6277101735386680763835789423207666416102355444464034512896*a3+115792089237316195423570985008687907853269984665640564039457584007913129639936*a4+2135987035920910082395021706169552114602704522356652769947041607822219725780640550022962086936576*a5 < 19701003098197239606139520050071806902539869635232723333974146702122860885748605305707133127442457820403313995153408):2*a5 % 18446744073709551616+18446744073709551616*0=2*a5:=by
 have:a5 < 9223372036854775808:=by omega
 omega
theorem shl1_nat (x:W6) (h:x.val < 19701003098197239606139520050071806902539869635232723333974146702122860885748605305707133127442457820403313995153408):(shl1 x).val=2*x.val:=by
 have d5:2*x.w5.toNat % 18446744073709551616+18446744073709551616*0=2*x.w5.toNat:=top_low h
 rw [shl1_words]
 exact shl_sum (dbl_parts x.w0.toNat) (dbl_parts x.w1.toNat) (dbl_parts x.w2.toNat) (dbl_parts x.w3.toNat) (dbl_parts x.w4.toNat) d5
theorem ofW_val (x:BitVec 64):(ofW x).val=x.toNat:=by simp [ofW,W6.val]
theorem less_nat {n x:W6} {l:BitVec 64} {z:W6} (h:x.val < 2*n.val):(moLessW (n,l,z) x).val=x.val % n.val:=by
 have h1:=subs_nat x n
 have hl:=(subs x n).1.val_lt
 have e:moLessW (n,l,z) x=bif !((subs x n).2 == true) then (subs x n).1 else x:=rfl
 rw [e]
 generalize n.val=N at h h1 ⊢
 cases hb:(subs x n).2 with
 | true =>
  rw [hb,show b2n true=1 from rfl] at h1
  show x.val=_
  rw [Nat.mod_eq_of_lt (by omega)]
 | false =>
  rw [hb,show b2n false=0 from rfl] at h1
  show (subs x n).1.val=_
  rw [Nat.mod_eq_sub_mod (by omega),Nat.mod_eq_of_lt (by omega)]
  omega
def dblN (n:Nat):Nat->Nat->Nat
 | 0,v=>v
 | k+1,v=>dblN n k (2*v % n)
theorem nwO_ls:nwO.ls=moLessW:=by simp only [nwO]
theorem nwO_sh:nwO.sh=shl1:=by simp only [nwO]
theorem nwG_nat (m:Md):∀ (k:Nat) (x:W6),x.val < mdN m->(nwG nwO m k x).val=dblN (mdN m) k x.val
 | 0,_,_=>rfl
 | k+1,x,h=>by
  simp only [nwG,dblN]
  rw [nwO_ls,nwO_sh]
  obtain ⟨p1,p2⟩:=mdN_pos m
  have h1:=shl1_nat x (Nat.lt_trans h p2)
  have hv:(mdB m).val=mdN m:=mdB_nat m
  have h2:=less_nat (n:=mdB m) (x:=shl1 x) (l:=mdLow m) (z:=zeroW) (by rw [h1,hv];omega)
  rw [h1,hv] at h2
  show (nwG nwO m k (moLessW (mdB m,mdLow m,zeroW) (shl1 x))).val=_
  rw [nwG_nat m k _ (by rw [h2];exact Nat.mod_lt _ (by omega)),h2]
theorem dbl_wide (m:Md):dblN (mdN m) 768 1=(mdWide m).val:=by cases m <;> decide +kernel
theorem nwW_eq (m:Md):nwW m=mdWide m:=by
 apply W6.val_inj
 have h1:(ofW (bitW true)).val=1:=by decide +kernel
 unfold nwW
 rw [nwG_nat m 768 _ (by rw [h1];exact (mdN_pos m).1),h1,dbl_wide]
theorem nwOut_eq:(fun m=>nwOut m (nwW m))=modS:=by
 funext m
 rw [nwW_eq];rfl
theorem newS_okL:LayOk PR 115 (layP kMd 163 cFa 0 modS):=by
 have h:=nw_okL
 rw [nwOut_eq] at h
 exact h
end Go.Rq.Cl
