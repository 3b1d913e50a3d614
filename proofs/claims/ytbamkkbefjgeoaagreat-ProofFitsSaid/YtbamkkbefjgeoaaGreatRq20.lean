import Derived.Test.YtbamkkbefjgeoaaGreatRq05
import Derived.Test.YtbamkkbefjgeoaaGreatRq19
import Derived.Test.YtbamkkbefjgeoaaGreatRq09
import Derived.Test.YtbamkkbefjgeoaaGreatRq18
import Derived.Test.YtbamkkbefjgeoaaGreatRq16
import Derived.Test.YtbamkkbefjgeoaaGreatRq08
namespace Go.Rq.Cl
open Go Go.Proofs Go.Rq Go.Rq.Sm
theorem zero_of {a0 a1 a2 a3 a4 a5 : Nat} (h : a0 + 18446744073709551616 * a1 + 340282366920938463463374607431768211456 * a2 + 6277101735386680763835789423207666416102355444464034512896 * a3 + 115792089237316195423570985008687907853269984665640564039457584007913129639936 * a4 + 2135987035920910082395021706169552114602704522356652769947041607822219725780640550022962086936576 * a5 = 0) : a0 = 0 /\ a1 = 0 /\ a2 = 0 /\ a3 = 0 /\ a4 = 0 /\ a5 = 0 := by omega
theorem word_zero (x : BitVec 64) : (x == 0#64) = true ↔ x.toNat = 0 := by
 rw [beq_iff_eq]
 constructor
 . intro h; rw [h]; rfl
 . intro h; exact BitVec.eq_of_toNat_eq h
theorem ze0_val (u : W6) : ze0 u = true ↔ u.val = 0 := by
 unfold ze0
 simp only [Bool.and_eq_true, word_zero, and_true]
 constructor
 . rintro ⟨h0, h1, h2, h3, h4, h5⟩
   unfold W6.val
   rw [h0, h1, h2, h3, h4, h5]
 . intro h
   exact zero_of h
theorem and_one_nat (x : BitVec 64) : (x &&& 1#64).toNat = x.toNat % 2 := by
 rw [BitVec.toNat_and]
 exact Nat.and_one_is_mod _
theorem low_two {a0 a1 a2 a3 a4 a5 : Nat} : (a0 + 18446744073709551616 * a1 + 340282366920938463463374607431768211456 * a2 + 6277101735386680763835789423207666416102355444464034512896 * a3 + 115792089237316195423570985008687907853269984665640564039457584007913129639936 * a4 + 2135987035920910082395021706169552114602704522356652769947041607822219725780640550022962086936576 * a5) % 2 = a0 % 2 := by omega
theorem val_two (u : W6) : u.val % 2 = u.w0.toNat % 2 := by
 unfold W6.val
 exact low_two
theorem ev0_val (u : W6) : ev0 u = true ↔ u.val % 2 = 0 := by
 unfold ev0
 rw [beq_iff_eq, val_two, <- and_one_nat]
 constructor
 . intro h; rw [h]; rfl
 . intro h; exact BitVec.eq_of_toNat_eq h
theorem od0_val (u : W6) : (u.w0 &&& 1#64 == 1#64) = true ↔ u.val % 2 = 1 := by
 rw [beq_iff_eq, val_two, <- and_one_nat]
 constructor
 . intro h; rw [h]; rfl
 . intro h; exact BitVec.eq_of_toNat_eq h
theorem shr_or (a b : BitVec 64) : (b <<< 63 ||| a >>> 1).toNat = a.toNat / 2 + 9223372036854775808 * (b.toNat % 2) := by
 have ha : (a >>> 1).toNat = a.toNat / 2 := by rw [BitVec.toNat_ushiftRight, Nat.shiftRight_eq_div_pow]
 have hb : (b <<< 63).toNat = 9223372036854775808 * (b.toNat % 2) := by
  rw [BitVec.toNat_shiftLeft, Nat.shiftLeft_eq]
  omega
 have hal := a.isLt
 have h : (b <<< 63).toNat ||| (a >>> 1).toNat = (b <<< 63).toNat + (a >>> 1).toNat := by
  rw [hb, ha, show 9223372036854775808 * (b.toNat % 2) = 2 ^ 63 * (b.toNat % 2) from rfl]
  exact (Nat.two_pow_add_eq_or_of_lt (by omega) _).symm
 rw [BitVec.toNat_or, h, hb, ha]
 omega
theorem shr_sum {a0 a1 a2 a3 a4 a5 : Nat} : (a0 / 2 + 9223372036854775808 * (a1 % 2)) + 18446744073709551616 * (a1 / 2 + 9223372036854775808 * (a2 % 2)) + 340282366920938463463374607431768211456 * (a2 / 2 + 9223372036854775808 * (a3 % 2)) + 6277101735386680763835789423207666416102355444464034512896 * (a3 / 2 + 9223372036854775808 * (a4 % 2)) +
 115792089237316195423570985008687907853269984665640564039457584007913129639936 * (a4 / 2 + 9223372036854775808 * (a5 % 2)) + 2135987035920910082395021706169552114602704522356652769947041607822219725780640550022962086936576 * (a5 / 2) =
 (a0 + 18446744073709551616 * a1 + 340282366920938463463374607431768211456 * a2 + 6277101735386680763835789423207666416102355444464034512896 * a3 + 115792089237316195423570985008687907853269984665640564039457584007913129639936 * a4 + 2135987035920910082395021706169552114602704522356652769947041607822219725780640550022962086936576 * a5) / 2 := by omega
theorem shr1_val (u : W6) : (shr1 u).val = u.val / 2 := by
 have h5 : (0#64 ||| u.w5 >>> 1).toNat = u.w5.toNat / 2 := by
  rw [BitVec.zero_or, BitVec.toNat_ushiftRight, Nat.shiftRight_eq_div_pow]
 unfold W6.val
 show (u.w1 <<< 63 ||| u.w0 >>> 1).toNat + 18446744073709551616 * (u.w2 <<< 63 ||| u.w1 >>> 1).toNat + 340282366920938463463374607431768211456 * (u.w3 <<< 63 ||| u.w2 >>> 1).toNat + 6277101735386680763835789423207666416102355444464034512896 * (u.w4 <<< 63 ||| u.w3 >>> 1).toNat +
  115792089237316195423570985008687907853269984665640564039457584007913129639936 * (u.w5 <<< 63 ||| u.w4 >>> 1).toNat + 2135987035920910082395021706169552114602704522356652769947041607822219725780640550022962086936576 * (0#64 ||| u.w5 >>> 1).toNat = _
 rw [shr_or, shr_or, shr_or, shr_or, shr_or, h5]
 exact shr_sum
theorem hf_val {m : Mo} (ho : m.1.val % 2 = 1) (hs : 2 * m.1.val <= 39402006196394479212279040100143613805079739270465446667948293404245721771497210611414266254884915640806627990306816) (x : W6) (h : x.val < m.1.val) : (hfW m x).val < m.1.val /\ 2 * (hfW m x).val % m.1.val = x.val % m.1.val := by
 have e : hfW m x = bif x.w0 &&& 1#64 == 1#64 then shr1 (wAddW x m.1).1 else shr1 x := rfl
 rw [e]
 cases hb : (x.w0 &&& 1#64 == 1#64) with
 | true =>
  have o := (od0_val x).1 hb
  have h1 := wAdd_val x m.1 (by omega)
  rw [cond_true, shr1_val, h1]
  refine ⟨by omega, ?_⟩
  rw [show 2 * ((x.val + m.1.val) / 2) = x.val + m.1.val by omega, Nat.add_mod_right]
 | false =>
  have o : x.val % 2 = 0 := by
   have : ¬ x.val % 2 = 1 := fun e => by rw [(od0_val x).2 e] at hb; cases hb
   omega
  rw [cond_false, shr1_val]
  refine ⟨by omega, ?_⟩
  rw [show 2 * (x.val / 2) = x.val by omega]
theorem ge0_val (u v : W6) : decide (chainV (cmpL u v) 0 >= 0) = true ↔ v.val <= u.val := by
 have h := cmq_nat u v
 have e : cmW u v = chainV (cmpL u v) 0 := rfl
 rw [e] at h
 rw [decide_eq_true_iff]
 constructor
 . intro g
   have : ¬ u.val < v.val := fun l => by have := h.2 l; omega
   omega
 . intro g
   have : ¬ chainV (cmpL u v) 0 < 0 := fun l => by have := h.1 l; omega
   omega
def iqO : IQ := ⟨shr1, hfW, fun a b => chainV (cmpL a b) 0, wSubW, qsubW, moRedW⟩
theorem iqT_eq : [(111, fn1 kU c6.agg ofW), (127, fn2 c6.agg (kAt .i64 (-1)) c6.agg (fun a _ => shr1 a)), (36, fn2 c6.agg c6.agg (kInt .i64) fun a b => chainV (cmpL a b) 0), (123, fn2 c6.agg c6.agg kWB wSubW)] = iqT iqO := by kernel_rfl
theorem iqT_ok : TabPOk PR (iqT iqO) := Eq.subst (motive := TabPOk PR) iqT_eq (TabPOk.cons of_ok (TabPOk.cons shr1_ok (TabPOk.cons cmp_ok (TabPOk.cons wsub_ok TabPOk.nil))))
theorem iqH_eq : [(122, rdp 175 cFa mc0 kBool (fun m _ => moNone m)), (128, rdp 175 cFa (mc1 c6.agg) c6.agg hfW),
 (78, rdp 175 cFa (mc2 c6.agg c6.agg) c6.agg (fun m x => qsubW m x.1 x.2)), (124, rdp 175 cFa (mc1 c6.agg) c6.agg moRedW)] = iqH iqO := by kernel_rfl
theorem iqH_ok : TabHOk PR (iqH iqO) := Eq.subst (motive := TabHOk PR) iqH_eq (TabHOk.cons mn_ent mn_ok (TabHOk.cons hf_ent hf_ok (TabHOk.cons qsub_ent qsub_ok (TabHOk.cons mred_ent mred_ok TabHOk.nil))))
theorem iqE_ok : EnvOk PR (iqE iqO) := envA_ok eqsT_ok iqT_ok iqH_ok TabLOk.nil TabAOk.nil
theorem iq_codeOk : codeOk (iqE iqO) iqC = true := by kernel_rfl
theorem mdN_odd (k : Md) : mdN k % 2 = 1 := by cases k <;> decide +kernel
noncomputable abbrev vO (k : Md) : IV := ivOf iqO k
theorem vO_ok (k : Md) : IvOk (vO k) (mdN k) := by
 have M := mg_md k
 have hv := modS_val k
 have hs := M.small
 refine ⟨mdN_odd k, ze0_val, ev0_val, shr1_val, fun x h => ?_, ge0_val, fun u v h => ?_, fun x y hx hy => ?_⟩
 . have := hf_val (m := modS k) (by rw [hv]; exact mdN_odd k) hs x (by rw [hv]; exact h)
   rw [hv] at this
   exact this
 . exact ((wSub_val u v).1 h).2
 . have := mg_sub M x y
   rw [hv, Nat.mod_eq_of_lt hx, Nat.mod_eq_of_lt hy] at this
   exact this
theorem vO_rd (k : Md) (a : W6) : (moRedW (modS k) a).val = a.val % mdN k := by
 have := mg_red (mg_md k) a
 rw [modS_val] at this
 exact this
theorem iq_start (k : Md) (a : W6) : ∀ d : IS, d = iqSt iqO k a -> IvI (mdN k) a.val d := by
 rintro d rfl
 have hp := mdN_pos k
 have h1 : (ofW (bitW true)).val = 1 := by decide +kernel
 have h0 : zeroW.val = 0 := by decide +kernel
 have hr := vO_rd k a
 refine ⟨?_, ?_, ?_, ?_, ?_, ?_⟩
 . show 0 < (mdB k).val
   rw [mdB_nat]; omega
 . show (ofW (bitW true)).val < mdN k
   rw [h1]; exact hp.1
 . show zeroW.val < mdN k
   rw [h0]; omega
 . show a.val * (ofW (bitW true)).val % mdN k = (moRedW (modS k) a).val % mdN k
   rw [h1, hr, Nat.mul_one, Nat.mod_mod]
 . show a.val * zeroW.val % mdN k = (mdB k).val % mdN k
   rw [h0, mdB_nat, Nat.mul_zero, Nat.mod_self, Nat.zero_mod]
 . intro d d1 d2
   have d1 : d ∣ (moRedW (modS k) a).val := d1
   have d2 : d ∣ (mdB k).val := d2
   rw [hr] at d1
   rw [mdB_nat] at d2
   exact ⟨d2, (Nat.dvd_mod_iff d2).1 d1⟩
noncomputable def iqRes (k : Md) (a : W6) : IS := ivR (vO k) (isz (iqSt iqO k a)) (iqSt iqO k a)
theorem iq_loop (k : Md) (a : W6) {Fr0 : Fr} {ds : List Deferred} {Q : AExit -> XS -> Prop} (hK : Q .normal (iqI iqO k a (iqRes k a))) :
 Tri PR Fr0 ds 1 (.block 0 (.loop iqC)) (iqX iqO k a) Q :=
 Eq.subst (motive := fun y => Tri PR Fr0 ds 1 (.block 0 (.loop iqC)) y Q) (iq_head iqO k a).symm <| blockLoop (m := 1) iqE_ok mixed (sym := iqS) (tab := fun _ => none) (lf := 10) (k := iqK) (kx := iqK) (kr := iqK) (by decide) (by decide) (by decide) iq_codeOk (tabOk_none _)
  (iqI iqO k a) (fun d => IvI (mdN k) a.val d /\ ∃ j, isz d <= j /\ ivR (vO k) j d = iqRes k a) isz _ ⟨iq_start k a _ rfl, _, Nat.le_refl _, rfl⟩
  (iq_law (vO_ok k) _ (iqI iqO k a) (fun d => iq_round iqO k a d.1 d.2.1 d.2.2.1 d.2.2.2) hK)
def iqFin (r : IS) : W6 × Int := bif !eq0 r.2.1 (ofW (bitW true)) then (zW6, 6) else (r.2.2.2, 0)
theorem iq_ent : Enters PR 80 := entersB (by kernel_rfl)
theorem sameB {β : Type} {t : Tree (AV × AH)} {x : XS} {b : Bool} {B : Cod β} {y z : β} (h : (t.bind fun q => .leaf q.1).strict = .same x x (.br b (.leaf (B.enc y)) (.leaf (B.enc z)))) : GivesH t (B.val (bif b then y else z)) :=
 ⟨Tree.holds_bind (K := fun q : AV => flat q = some (B.val (bif b then y else z))) (g := fun q : AV × AH => Tree.leaf q.1) (Tree.holds_strict (by
  rw [h]
  refine ⟨rfl, fun hb => ?_, fun hb => ?_⟩
  . rw [hb, cond_true]; exact B.h1 _
  . rw [hb, cond_false]; exact B.h1 _))⟩
theorem iq_gives (t : IQ) (k : Md) (a : W6) (r : IS) : GivesH (afun PR (iqE t) iqS (tabOf [(0, iqB t k a r)]) 10 80 (.ptr 0 0 :: (mc1 c6.agg).enc a) (oneAH cMd 175 k) 1) (kWE.val (iqFin r)) :=
 sameB (iq_run t k a r.1 r.2.1 r.2.2.1 r.2.2.2)
noncomputable def iqTab (k : Md) (a : W6) : BTab := tabOf [(0, iqB iqO k a (iqRes k a))]
noncomputable def invF (k : Md) (a : W6) : W6 × Int := iqFin (iqRes k a)
theorem iq_tab (k : Md) (a : W6) : TabOk PR 1 (iqTab k a) (bodyOf PR 80) := by
 unfold iqTab
 exact tabOk_one (by rw [(iqB_n iqO k a (iqRes k a)).1]; decide) iq_blk fun Fr0 ds Q h => by
  obtain ⟨-, h2, h3⟩ := iqB_n iqO k a (iqRes k a)
  rw [h3] at h
  rw [h2]
  exact iq_loop k a h
theorem iq_giv (k : Md) (a : W6) : GivesH (afun PR (iqE iqO) iqS (iqTab k a) 10 80 (.ptr 0 0 :: (mc1 c6.agg).enc a) (oneAH cMd 175 k) 1) (kWE.val (invF k a)) := by
 unfold iqTab invF
 exact iq_gives iqO k a (iqRes k a)
theorem iq_code : codeOk (iqE iqO) (bodyOf PR 80) = true := by kernel_rfl
theorem iq_body : (Tryz.f80).body = some (bodyOf PR 80) := by kernel_rfl
theorem iq_fn : PR.funcs.toList[80]? = some Tryz.f80 := by kernel_rfl
theorem inv_okH : HeapOk PR 80 (rdp 175 cMd (mc1 c6.agg) kWE invF) :=
 rdpT_ok (E := iqE iqO) (sym := iqS) (lf := 10) (tab := iqTab) iqE_ok mixed iq_fn iq_body iq_code iq_tab iq_giv
theorem eq0_val (v w : W6) : eq0 v w = true ↔ v = w := by
 obtain ⟨v0, v1, v2, v3, v4, v5⟩ := v
 obtain ⟨w0, w1, w2, w3, w4, w5⟩ := w
 simp only [eq0, Bool.and_eq_true, beq_iff_eq, W6.mk.injEq, and_true]
theorem inv_val {k : Md} (hp : Pr (mdN k)) {a : W6} (ha : ¬ mdN k ∣ a.val) : (invF k a).2 = 0 /\ (invF k a).1.val < mdN k /\ a.val * (invF k a).1.val % mdN k = 1 := by
 obtain ⟨h1, h2, h3⟩ := iv_end (vO_ok k) hp ha (iq_start k a _ rfl) (Nat.le_refl _)
 have hone : (ofW (bitW true)).val = 1 := by decide +kernel
 have e : iqFin (iqRes k a) = ((iqRes k a).2.2.2, 0) := by
  unfold iqFin
  rw [(eq0_val _ _).2 (W6.val_inj (by rw [hone]; exact h1))]
  rfl
 unfold invF
 rw [e]
 exact ⟨rfl, h2, h3⟩
end Go.Rq.Cl

namespace Go.Rq.Sm
open Go Go.Proofs Go.Rq
noncomputable def pckE (K : Kz -> Bool) (O : Int -> W6 × Int) (C : W6 -> W6 -> Int) : Env := envA eqsT [(67, fn1 cKz.agg kBool K), (35, fn1 (kInt .i64) kWE O), (36, fn2 c6.agg c6.agg (kInt .i64) C)] [] [] [] [] [] true []
noncomputable def pckV (K : Kz -> Bool) (O : Int -> W6 × Int) (C : W6 -> W6 -> Int) : List AV -> AH -> Option (Bool × AV × AH) := viewS PR (pckE K O C) [22, 37, 56] 20 40
theorem pck_ent : Enters PR 40 := entersB (by kernel_rfl)
theorem pck_ctx {K : Kz -> Bool} {O : Int -> W6 × Int} {C : W6 -> W6 -> Int} (hK : CallOk PR 67 (fn1 cKz.agg kBool K)) (hO : CallOk PR 35 (fn1 (kInt .i64) kWE O)) (hC : CallOk PR 36 (fn2 c6.agg c6.agg (kInt .i64) C)) :
 Ctx PR (pckE K O C) [22, 37, 56] (fun _ => none) 20 40 :=
 ctxB (envA_ok eqsT_ok (TabPOk.cons hK (TabPOk.cons hO (TabPOk.cons hC TabPOk.nil))) TabHOk.nil TabLOk.nil TabAOk.nil) mixed (by kernel_rfl)
theorem pck_ok {K : Kz -> Bool} {O : Int -> W6 × Int} {C : W6 -> W6 -> Int} (hK : CallOk PR 67 (fn1 cKz.agg kBool K)) (hO : CallOk PR 35 (fn1 (kInt .i64) kWE O)) (hC : CallOk PR 36 (fn2 c6.agg c6.agg (kInt .i64) C)) :
 HeapOk PR 40 (pckV K O C) := viewS_ok (pck_ctx hK hO hC)
def ck2 (O : Int -> W6 × Int) (C : W6 -> W6 -> Int) (s : Int) (x y : W6) : Int := bif decide (C x (O s).1 >= 0) then 2 else bif decide (C y (O s).1 >= 0) then 2 else 0
def pk2 (K : Kz -> Bool) (O : Int -> W6 × Int) (C : W6 -> W6 -> Int) (a b : Kz) (x y : W6) : Int :=
 bif K a then bif K b then (bif a.1 != a.1 then 2 else bif b.1 != a.1 then 2 else ck2 O C a.1 x y) else 5 else 5
def pk3 (K : Kz -> Bool) (O : Int -> W6 × Int) (C : W6 -> W6 -> Int) (a b d : Kz) (x y : W6) : Int :=
 bif K a then bif K b then bif K d then (bif a.1 != a.1 then 2 else bif b.1 != a.1 then 2 else bif d.1 != a.1 then 2 else ck2 O C a.1 x y) else 5 else 5 else 5
noncomputable def pfiE (K : Kz -> Bool) (O : Int -> W6 × Int) (C : W6 -> W6 -> Int) (T : Kz -> W6 -> Kz) (A : ZZ) : Env := envA eqsT [(43, pftG T A)] [(40, pckV K O C)] [] [] [] [] true [40]
noncomputable def kneE (K : KK) (R : Sx -> W6) (C : W6 -> W6 -> Int) (A : Px -> Px × Int) (Q : Sx -> Lp -> Bool) (D : Sx -> Lp -> Lp × Int) : Env :=
 envA eqsT [(83, fn1 cPx.agg kPE A), (84, fnQ2 kSx cLp.agg kLE Q D)] [(68, kysV K R C)] [] [] [] [] true [68]
def kneF (A : Px -> Px × Int) (D : Sx -> Lp -> Lp × Int) : Kx -> Kx
 | (.gr, p, _) => (.gr, (A p).1, zLx)
 | (s, _, l) => (s, zPx, (D s l).1)
def kneC (Q : Sx -> Lp -> Bool) (E : Int) : Kx -> Bool
 | (.gr, _, _) => bif E != 0 then false else true
 | (s, _, l) => bif E != 0 then false else (bif (Q s l && true) then true else false)
set_option maxRecDepth 100000 in
theorem kne_err (K : KK) (R : Sx -> W6) (C : W6 -> W6 -> Int) (A : Px -> Px × Int) (Q : Sx -> Lp -> Bool) (D : Sx -> Lp -> Lp × Int) (a : Kx) :
 valP [true] (afunR PR (kneE K R C A Q D) [11] (fun _ => none) 20 41 [cKx.agg.enc a]) =
  some (bif ky1 K R C zW6 a != 0 then true else false, some (kKE.val (zKx, ky1 K R C zW6 a))) := by
 obtain ⟨s, p, l⟩ := a
 cases s <;> kernel_rfl
set_option maxRecDepth 100000 in
theorem kne_run (K : KK) (R : Sx -> W6) (C : W6 -> W6 -> Int) (A : Px -> Px × Int) (Q : Sx -> Lp -> Bool) (D : Sx -> Lp -> Lp × Int) (a : Kx) :
 valP [false] (afunR PR (kneE K R C A Q D) [11] (fun _ => none) 20 41 [cKx.agg.enc a]) =
  some (kneC Q (ky1 K R C zW6 a) a, some (kKE.val (kneF A D a, 0))) := by
 obtain ⟨s, p, l⟩ := a
 cases s <;> kernel_rfl
theorem kneC_of {Q : Sx -> Lp -> Bool} {E : Int} {a : Kx} (hE : (E != 0) = false) (hQ : a.1 ≠ .gr -> Q a.1 a.2.2 = true) : kneC Q E a = true := by
 obtain ⟨s, p, l⟩ := a
 cases s with
 | gr => simp [kneC, hE]
 | li => have h := hQ (by simp); simp only at h; simp [kneC, hE, h]
 | mi => have h := hQ (by simp); simp only at h; simp [kneC, hE, h]
 | up n => have h := hQ (by simp); simp only at h; simp [kneC, hE, h]
 | neg n => have h := hQ (by simp); simp only at h; simp [kneC, hE, h]
def kneG (K : KK) (R : Sx -> W6) (C : W6 -> W6 -> Int) (A : Px -> Px × Int) (D : Sx -> Lp -> Lp × Int) (a : Kx) : Kx × Int :=
 bif ky1 K R C zW6 a != 0 then (zKx, ky1 K R C zW6 a) else (kneF A D a, 0)
theorem kne_gives (K : KK) (R : Sx -> W6) (C : W6 -> W6 -> Int) (A : Px -> Px × Int) (Q : Sx -> Lp -> Bool) (D : Sx -> Lp -> Lp × Int) (hQ : ∀ a : Kx, (ky1 K R C zW6 a != 0) = false -> a.1 ≠ .gr -> Q a.1 a.2.2 = true) (a : Kx) :
 Gives (afunR PR (kneE K R C A Q D) [11] (fun _ => none) 20 41 [cKx.agg.enc a]) (kKE.val (kneG K R C A D a)) := by
 unfold kneG
 cases hE : ky1 K R C zW6 a != 0 with
 | true =>
  rw [cond_true]
  exact givesP (kne_err K R C A Q D a) (by rw [hE]; rfl)
 | false =>
  rw [cond_false]
  exact givesP (kne_run K R C A Q D a) (kneC_of hE (hQ a hE))
theorem kne_ctx {K : KK} {R : Sx -> W6} {C : W6 -> W6 -> Int} {A : Px -> Px × Int} {Q : Sx -> Lp -> Bool} {D : Sx -> Lp -> Lp × Int} (hY : HeapOk PR 68 (kysV K R C))
 (hA : CallOk PR 83 (fn1 cPx.agg kPE A)) (hD : CallOk PR 84 (fnQ2 kSx cLp.agg kLE Q D)) : Ctx PR (kneE K R C A Q D) [11] (fun _ => none) 20 41 :=
 ctxB (envA_ok eqsT_ok (TabPOk.cons hA (TabPOk.cons hD TabPOk.nil)) (TabHOk.cons kys_ent hY TabHOk.nil) TabLOk.nil TabAOk.nil) mixed (by kernel_rfl)
theorem kne_ok {K : KK} {R : Sx -> W6} {C : W6 -> W6 -> Int} {A : Px -> Px × Int} {Q : Sx -> Lp -> Bool} {D : Sx -> Lp -> Lp × Int} (hY : HeapOk PR 68 (kysV K R C))
 (hA : CallOk PR 83 (fn1 cPx.agg kPE A)) (hD : CallOk PR 84 (fnQ2 kSx cLp.agg kLE Q D))
 (hQ : ∀ a : Kx, (ky1 K R C zW6 a != 0) = false -> a.1 ≠ .gr -> Q a.1 a.2.2 = true) : CallOk PR 41 (fn1 cKx.agg kKE (kneG K R C A D)) :=
 .inl ⟨entersB (by kernel_rfl), pure1 (kne_ctx hY hA hD) fun a => kne_gives K R C A Q D hQ a⟩
def zKz : Kz := (0, zPx, zLx)
noncomputable def pfgE (K : Kz -> Bool) (O : Int -> W6 × Int) (C : W6 -> W6 -> Int) (T : Kz -> W6 -> Kz) (A : ZZ) (N : Kz -> Kz × Int) : Env :=
 envA eqsT [(42, fn2 cKz.agg c6.agg cKz.agg T), (32, fn2 cKz.agg cKz.agg kKzE A), (41, fn1 cKz.agg kKzE N)] [(40, pckV K O C)] [] [] [] [] true [40]
set_option maxRecDepth 100000 in
theorem pfg_err (K : Kz -> Bool) (O : Int -> W6 × Int) (C : W6 -> W6 -> Int) (T : Kz -> W6 -> Kz) (A : ZZ) (N : Kz -> Kz × Int) (base key : Kz) (c z : W6) :
 valP [true] (afunR PR (pfgE K O C T A N) [21] (fun _ => none) 20 13 [cKz.agg.enc base, cKz.agg.enc key, c6.agg.enc c, c6.agg.enc z]) =
  some (bif pk2 K O C base key c z != 0 then true else false, some (kKzE.val (zKz, pk2 K O C base key c z))) := by kernel_rfl
set_option maxRecDepth 100000 in
theorem pfg_run (K : Kz -> Bool) (O : Int -> W6 × Int) (C : W6 -> W6 -> Int) (T : Kz -> W6 -> Kz) (A : ZZ) (N : Kz -> Kz × Int) (base key : Kz) (c z : W6) :
 valP [false] (afunR PR (pfgE K O C T A N) [21] (fun _ => none) 20 13 [cKz.agg.enc base, cKz.agg.enc key, c6.agg.enc c, c6.agg.enc z]) =
  some (bif pk2 K O C base key c z != 0 then false else true, some (kKzE.val (A (T base z) (N (T key c)).1))) := by kernel_rfl
abbrev S3 : Type := Int -> W6 -> W6 -> W6 × Int
def geR (O : Int -> W6 × Int) (C : W6 -> W6 -> Int) (s : Int) (x : W6) : Bool := decide (C x (O s).1 >= 0)
def nt (b c : Bool) : Bool := bif b then false else c
def pexF (O : Int -> W6 × Int) (C : W6 -> W6 -> Int) (S M : S3) (V : Int -> W6 -> W6 × Int) (s : Int) (c a d b : W6) : W6 × Int :=
 bif (O s).2 != 0 then (zW6, (O s).2) else bif geR O C s c then (zW6, 2) else bif geR O C s a then (zW6, 2) else bif geR O C s d then (zW6, 2) else bif geR O C s b then (zW6, 2) else
 bif eqWk c d true then (zW6, 10) else M s (S s a b).1 (V s (S s c d).1).1
def pfgF (K : Kz -> Bool) (O : Int -> W6 × Int) (C : W6 -> W6 -> Int) (T : Kz -> W6 -> Kz) (A : ZZ) (N : Kz -> Kz × Int) (base key : Kz) (c z : W6) : Kz × Int :=
 bif pk2 K O C base key c z != 0 then (zKz, pk2 K O C base key c z) else A (T base z) (N (T key c)).1
theorem pfg_gives (K : Kz -> Bool) (O : Int -> W6 × Int) (C : W6 -> W6 -> Int) (T : Kz -> W6 -> Kz) (A : ZZ) (N : Kz -> Kz × Int) (base key : Kz) (c z : W6) :
 Gives (afunR PR (pfgE K O C T A N) [21] (fun _ => none) 20 13 [cKz.agg.enc base, cKz.agg.enc key, c6.agg.enc c, c6.agg.enc z]) (kKzE.val (pfgF K O C T A N base key c z)) := by
 unfold pfgF
 cases h0 : pk2 K O C base key c z != 0 with
 | true => exact givesP (pfg_err K O C T A N base key c z) (by rw [h0]; rfl)
 | false => exact givesP (pfg_run K O C T A N base key c z) (by rw [h0]; rfl)
theorem pfg_ok {K : Kz -> Bool} {O : Int -> W6 × Int} {C : W6 -> W6 -> Int} {T : Kz -> W6 -> Kz} {A : ZZ} {N : Kz -> Kz × Int} (hY : HeapOk PR 40 (pckV K O C)) (hT : CallOk PR 42 (fn2 cKz.agg c6.agg cKz.agg T))
 (hA : CallOk PR 32 (fn2 cKz.agg cKz.agg kKzE A)) (hN : CallOk PR 41 (fn1 cKz.agg kKzE N)) : CallOk PR 13 (fn4 cKz.agg cKz.agg c6.agg c6.agg kKzE (pfgF K O C T A N)) :=
 .inl ⟨entersB (by kernel_rfl),
  pure4 (ctxB (E := pfgE K O C T A N) (envA_ok eqsT_ok (TabPOk.cons hT (TabPOk.cons hA (TabPOk.cons hN TabPOk.nil))) (TabHOk.cons pck_ent hY TabHOk.nil) TabLOk.nil TabAOk.nil) mixed (by kernel_rfl))
   fun base key c z => pfg_gives K O C T A N base key c z⟩
theorem pft_ok {T : Kz -> W6 -> Kz} {A : ZZ} (hT : CallOk PR 42 (fn2 cKz.agg c6.agg cKz.agg T)) (hA : CallOk PR 32 (fn2 cKz.agg cKz.agg kKzE A)) : CallOk PR 43 (pftG T A) :=
 .inl ⟨entersB (by kernel_rfl), inlineS_ok (ctxB (envA_ok eqsT_ok (TabPOk.cons hT (TabPOk.cons hA TabPOk.nil)) TabHOk.nil TabLOk.nil TabAOk.nil) mixed (by kernel_rfl))⟩
def knwF : Sx -> Bool
 | .gr => true
 | .li => true
 | .mi => true
 | _ => false
noncomputable def knwE : Env := envA eqsT [] [] [] [] [] [] true []
theorem knw_run (s : Sx) : valS (afunR PR knwE [] (fun _ => none) 10 74 [kSx.enc s]) = some (kBool.val (knwF s)) := by cases s <;> kernel_rfl
theorem knw_ctx : Ctx PR knwE [] (fun _ => none) 10 74 :=
 ctxB (envA_ok eqsT_ok TabPOk.nil TabHOk.nil TabLOk.nil TabAOk.nil) mixed (by kernel_rfl)
theorem knw_ok : CallOk PR 74 (fn1 kSx kBool knwF) :=
 .inl ⟨entersB (by kernel_rfl), pure1 knw_ctx fun s => givesV (knw_run s)⟩
noncomputable def sorE (N : Sx -> Bool) (R : Sx -> W6) : Env := envA eqsT [(74, fn1 kSx kBool N), (75, fn1 kSx c6.agg R)] [] [] [] [] [] true []
def sorF (R : Sx -> W6) : Sx -> W6 × Int
 | .gr => (R .gr, 0)
 | .li => (R .li, 0)
 | .mi => (R .mi, 0)
 | _ => (zW6, 2)
theorem sor_run (R : Sx -> W6) (s : Sx) : valS (afunR PR (sorE knwF R) [] (fun _ => none) 10 35 [kSx.enc s]) = some (kWE.val (sorF R s)) := by cases s <;> kernel_rfl
theorem sor_ctx : Ctx PR (sorE knwF (ordF rWx lorF ofW)) [] (fun _ => none) 10 35 :=
 ctxB (envA_ok eqsT_ok (TabPOk.cons knw_ok (TabPOk.cons ord_ok TabPOk.nil)) TabHOk.nil TabLOk.nil TabAOk.nil) mixed (by kernel_rfl)
theorem sor_okx : CallOk PR 35 (fn1 kSx kWE (sorF (ordF rWx lorF ofW))) :=
 .inl ⟨entersB (by kernel_rfl), pure1 sor_ctx fun s => givesV (sor_run _ s)⟩
theorem fnS1 {β : Type} {B : Cod β} {F : Sx -> β} : fn1 kSx B F = fn1 (kInt .i64) B (fun i => F (Sx.of i)) := by
 funext args
 unfold fn1
 split
 . rename_i a
   have e : kSx.dec a = ((kInt .i64).dec a).map Sx.of := by
    have e0 : kSx.dec a = (match (kInt .i64).dec a with
     | some i => some (Sx.of i)
     | none => none) := rfl
    rw [e0]
    cases (kInt .i64).dec a <;> rfl
   rw [e]
   cases (kInt .i64).dec a <;> rfl
 . rfl
theorem sor_ok : CallOk PR 35 (fn1 (kInt .i64) kWE (fun i => sorF (ordF rWx lorF ofW) (Sx.of i))) := by
 rw [<- fnS1 (F := sorF (ordF rWx lorF ofW))]
 exact sor_okx
theorem in_on {s : Su} {p : Lp} (h : inF s p = true) : onF s p = true := by
 unfold inF at h
 cases ho : onF s p with
 | true => rfl
 | false => rw [ho, cond_false] at h; cases h
theorem kch_on {I : Px -> Bool} {k : Kx} (h : kchF I (liF inF) k = true) (hs : k.1 ≠ .gr) : okL onF k.1 k.2.2 = true := by
 obtain ⟨s, p, l⟩ := k
 cases s with
 | gr => exact absurd rfl hs
 | li =>
  simp only [kchF] at h
  cases he : eqPx p with
  | true => rw [he, cond_true] at h; exact in_on (s := .lit) h
  | false => rw [he, cond_false] at h; cases h
 | mi =>
  simp only [kchF] at h
  cases he : eqPx p with
  | true => rw [he, cond_true] at h; exact in_on (s := .mid) h
  | false => rw [he, cond_false] at h; cases h
 | up n => rfl
 | neg n => rfl
theorem ky1_ok {K : KK} {R : Sx -> W6} {C : W6 -> W6 -> Int} {n : W6} {a : Kx} (h : (ky1 K R C n a != 0) = false) : K a = true := by
 cases hk : K a with
 | true => rfl
 | false => simp [ky1, hk] at h
theorem ky2_ok {K : KK} {R : Sx -> W6} {C : W6 -> W6 -> Int} {n : W6} {a b : Kx} (h : (ky2 K R C n a b != 0) = false) : K a = true /\ K b = true /\ a.1 = b.1 := by
 cases hk : K a with
 | false => simp [ky2, hk] at h
 | true =>
  cases hb : K b with
  | false => simp [ky2, hk, hb] at h
  | true =>
   refine ⟨rfl, rfl, Sx.int_inj ?_⟩
   cases he : a.1.int != b.1.int with
   | false => simpa using he
   | true => simp [ky2, hk, hb, he] at h
def toE (y : Kx × Int) : Kz × Int := (toKz y.1, y.2)
noncomputable abbrev kchX (I : Px -> Bool) : KK := kchF I (liF inF)
noncomputable abbrev ordX : Sx -> W6 := ordF rWx lorF ofW
noncomputable abbrev cmpX : W6 -> W6 -> Int := fun a b => chainV (cmpL a b) 0
theorem kysX_ok {I : Px -> Bool} (hI : CallOk PR 108 (fn1 cPx.agg kBool I)) : HeapOk PR 68 (kysV (kchX I) ordX cmpX) := kys_ok (kch_ok hI li_ok) ord_ok cmp_ok
noncomputable def kadX (I : Px -> Bool) (A : Px -> Px -> Px × Int) (a b : Kz) : Kz × Int := toE (kadG (kchX I) ordX cmpX A (ladF lSum) (toKx a) (toKx b))
theorem kadX_ok {I : Px -> Bool} {A : Px -> Px -> Px × Int} (hI : CallOk PR 108 (fn1 cPx.agg kBool I)) (hA : CallOk PR 69 (fn2 cPx.agg cPx.agg kPE A)) :
 CallOk PR 32 (fn2 cKz.agg cKz.agg kKzE (kadX I A)) := by
 have h := kad_ok (kysX_ok hI) hA lad_ok fun a b he hs => by
  obtain ⟨h1, h2, h3⟩ := ky2_ok he
  have k1 := kch_on h1 hs
  have k2 := kch_on h2 (by rw [<- h3]; exact hs)
  rw [<- h3] at k2
  rw [k1, k2]
  rfl
 rw [fnK2 (B' := kKzE) (ψ := toE) fun y => rfl] at h
 exact h
noncomputable def kmuX (I : Px -> Bool) (A : Px -> W6 -> Px × Int) (a : Kz) (n : W6) : Kz × Int := toE (kmuG (kchX I) ordX cmpX A (lmuF lTimes) (toKx a) n)
theorem kmuX_ok {I : Px -> Bool} {A : Px -> W6 -> Px × Int} (hI : CallOk PR 108 (fn1 cPx.agg kBool I)) (hA : CallOk PR 136 (fn2 cPx.agg c6.agg kPE A)) :
 CallOk PR 85 (fn2 cKz.agg c6.agg kKzE (kmuX I A)) := by
 have h := kmu_ok (kysX_ok hI) hA lmu_ok fun a n he hs => kch_on (ky1_ok he) hs
 rw [fnK1c (B' := kKzE) (ψ := toE) fun y => rfl] at h
 exact h
noncomputable def kneX (I : Px -> Bool) (A : Px -> Px × Int) (a : Kz) : Kz × Int := toE (kneG (kchX I) ordX cmpX A (lneF lSub) (toKx a))
theorem kneX_ok {I : Px -> Bool} {A : Px -> Px × Int} (hI : CallOk PR 108 (fn1 cPx.agg kBool I)) (hA : CallOk PR 83 (fn1 cPx.agg kPE A)) :
 CallOk PR 41 (fn1 cKz.agg kKzE (kneX I A)) := by
 have h := kne_ok (kysX_ok hI) hA lne_ok fun a he hs => kch_on (ky1_ok he) hs
 rw [fnK1 (B' := kKzE) (ψ := toE) fun y => rfl] at h
 exact h
theorem kchZ_ok {I : Px -> Bool} (hI : CallOk PR 108 (fn1 cPx.agg kBool I)) : CallOk PR 67 (fn1 cKz.agg kBool fun a => kchX I (toKx a)) := by
 have h := kch_ok hI li_ok
 rw [fnK1 (B' := kBool) (ψ := fun b => b) fun y => rfl] at h
 exact h
theorem pfgX_ok {I : Px -> Bool} {A : Px -> Px -> Px × Int} {M : Px -> W6 -> Px × Int} {N : Px -> Px × Int} (hI : CallOk PR 108 (fn1 cPx.agg kBool I)) (hA : CallOk PR 69 (fn2 cPx.agg cPx.agg kPE A)) (hM : CallOk PR 136 (fn2 cPx.agg c6.agg kPE M))
 (hN : CallOk PR 83 (fn1 cPx.agg kPE N)) :
 CallOk PR 13 (fn4 cKz.agg cKz.agg c6.agg c6.agg kKzE (pfgF (fun a => kchX I (toKx a)) (fun i => sorF ordX (Sx.of i)) cmpX (fun a n => (kmuX I M a n).1) (kadX I A) (kneX I N))) :=
 pfg_ok (pck_ok (kchZ_ok hI) sor_ok cmp_ok) (ptm_ok (kmuX_ok hI hM)) (kadX_ok hI hA) (kneX_ok hI hN)
end Go.Rq.Sm

namespace Go.Rq.Cl
open Go Go.Proofs Go.Rq Go.Rq.Sm
def knS : Sx -> Bool
 | .gr => true
 | .li => true
 | .mi => true
 | _ => false
theorem kno_run (s : Sx) : valS (afunR PR (envOf eqsT []) [] (fun _ => none) 10 74 [kSx.enc s]) = some (kBool.val (knS s)) := by cases s <;> kernel_rfl
theorem kno_ok : CallOk PR 74 (fn1 kSx kBool knS) :=
 .inl ⟨entersB (by kernel_rfl), pure1 (ctxB (envOf_ok eqsT_ok TabPOk.nil) mixed (by kernel_rfl)) fun s => givesV (kno_run s)⟩
def mdS : Sx -> Option Md
 | .gr => some .ro
 | .li => some .rl
 | .mi => some .rm
 | _ => none
noncomputable def ariE (cm : W6 -> W6 -> Int) : Env := envD eqsT [(36, fn2 c6.agg c6.agg (kInt .i64) cm), (74, fn1 kSx kBool knS), (75, fn1 kSx c6.agg ordX)] [] [(126, layP kMd 175 cFa 0 modS)] [] [] false []
theorem ariE_ok : EnvOk PR (ariE cmpX) := envD_ok eqsT_ok (TabPOk.cons cmp_ok (TabPOk.cons kno_ok (TabPOk.cons ord_ok TabPOk.nil))) TabHOk.nil (TabLOk.cons nw_ent newS_okL TabLOk.nil) TabDOk.nil
noncomputable def ariG (ds : List Bool) (cm : W6 -> W6 -> Int) : List AV -> AH -> Nat -> Option (Bool × AV × AH) := deepP ds PR (ariE cm) [23] 30 79 4096 true
theorem ari_ent : Enters PR 79 := entersB (by kernel_rfl)
theorem ari_ok (ds : List Bool) : ActOk PR 4096 79 (ariG ds cmpX) := deepP_ok (ctxB ariE_ok mixed (by kernel_rfl))
structure AQ where
 cm : W6 -> W6 -> Int
 ad : Mo -> W6 -> W6 -> W6
 sb : Mo -> W6 -> W6 -> W6
 ml : Mo -> W6 -> W6 -> W6
noncomputable def cloE (f : Nat) (op : Mo -> W6 -> W6 -> W6) : Env := envD eqsT [] [(f, rdp 175 cFa (mc2 c6.agg c6.agg) c6.agg (fun m x => op m x.1 x.2))] [] [] [] false [f]
noncomputable def doG (t : AQ) : List AV -> AH -> Nat -> Option (Bool × AV × AH) := deepP [] PR (envD eqsT [] [] []
 [(79, ariG [false, false] t.cm), (77, deepG PR (cloE 78 t.sb) [] 20 77 4096 true), (81, deepG PR (cloE 82 t.ml) [] 20 81 4096 true)]
 [] false [79, 77, 81]) [] 30 76 4096 true
noncomputable def sopE (t : AQ) : Env := envD eqsT [] [] [] [(76, doG t)] [] false [76]
def tt (b : Bool) : Bool := bif b then true else false
theorem tt_eq (b : Bool) : tt b = b := by cases b <;> rfl
noncomputable def nlt (t : AQ) (s : Sx) (a : W6) (b : Bool) : Bool := bif decide (t.cm a (ordX s) >= 0) then false else b
set_option maxRecDepth 100000 in
theorem sml_run (t : AQ) (s : Sx) (m : Md) (h : mdS s = some m) (a b : W6) : valP [] (afunR PR (sopE t) [13] (fun _ => none) 30 39 [kSx.enc s, c6.agg.enc a, c6.agg.enc b]) =
 some (tt (tt (tt (tt (tt (tt (nlt t s a (nlt t s b true))))))), some (kWE.val (t.ml (modS m) a b, 0))) := by
 cases s <;> cases h <;> kernel_rfl
set_option maxRecDepth 100000 in
theorem ssb_run (t : AQ) (s : Sx) (m : Md) (h : mdS s = some m) (a b : W6) : valP [] (afunR PR (sopE t) [13] (fun _ => none) 30 37 [kSx.enc s, c6.agg.enc a, c6.agg.enc b]) =
 some (tt (tt (tt (tt (tt (tt (nlt t s a (nlt t s b true))))))), some (kWE.val (t.sb (modS m) a b, 0))) := by
 cases s <;> cases h <;> kernel_rfl
noncomputable def sivE (cm : W6 -> W6 -> Int) (iv : Md -> W6 -> W6 × Int) : Env := envD eqsT [] [(80, rdp 175 cMd (mc1 c6.agg) kWE iv)] [] [(79, ariG [false] cm)] [] false [79, 80]
set_option maxRecDepth 100000 in
theorem siv_run (cm : W6 -> W6 -> Int) (iv : Md -> W6 -> W6 × Int) (s : Sx) (m : Md) (h : mdS s = some m) (a : W6) : valP [] (afunR PR (sivE cm iv) [] (fun _ => none) 30 38 [kSx.enc s, c6.agg.enc a]) =
 some (tt (tt (tt (bif decide (cm a (ordX s) >= 0) then false else true))), some (kWE.val (iv m a))) := by
 cases s <;> cases h <;> kernel_rfl
end Go.Rq.Cl

namespace Go.Rq.Sm
open Go Go.Proofs Go.Rq
theorem eqWk_iff (v w : W6) (b : Bool) : eqWk v w b = true ↔ v = w /\ b = true := by
 obtain ⟨v0, v1, v2, v3, v4, v5⟩ := v
 obtain ⟨w0, w1, w2, w3, w4, w5⟩ := w
 simp only [eqWk, Bool.and_eq_true, beq_iff_eq, W6.mk.injEq]
 constructor
 . rintro ⟨h0, h1, h2, h3, h4, h5, h⟩; exact ⟨⟨h0, h1, h2, h3, h4, h5⟩, h⟩
 . rintro ⟨⟨h0, h1, h2, h3, h4, h5⟩, h⟩; exact ⟨h0, h1, h2, h3, h4, h5, h⟩
theorem eqKz_iff (a b : Kz) : eqKz a b = true ↔ a = b := by
 obtain ⟨s, ⟨x, y, z⟩, u, v, w⟩ := a
 obtain ⟨s', ⟨x', y', z'⟩, u', v', w'⟩ := b
 simp only [eqKz, Bool.and_eq_true, eqWk_iff, beq_iff_eq, Prod.mk.injEq, and_true]
 constructor
 . rintro ⟨h0, h1, h2, h3, h4, h5, h6⟩; exact ⟨h0, ⟨h1, h2, h3⟩, h4, h5, h6⟩
 . rintro ⟨h0, ⟨h1, h2, h3⟩, h4, h5, h6⟩; exact ⟨h0, h1, h2, h3, h4, h5, h6⟩
section
variable {K : Kz -> Bool} {O : Int -> W6 × Int} {C : W6 -> W6 -> Int} {M : ZM} {A : ZZ} {N : Kz -> Kz × Int} {s : Int} {r : Nat} {φ : Nat -> Kz}
end
end Go.Rq.Sm

namespace Go.Rq.Sm
open Go Go.Proofs Go.Rq
set_option synthInstance.maxSize 100000
def suSx : Su -> Sx
 | .lit => .li
 | .mid => .mi
def suRn : Su -> Nat
 | .lit => 65521
 | .mid => 72057594037927889
theorem suR_nat (s : Su) : (suR s).toNat = suRn s := by cases s <;> rfl
theorem suRn_pos (s : Su) : 0 < suRn s := by cases s <;> decide
theorem suRn_lt (s : Su) : suRn s < 18446744073709551616 := by cases s <;> decide
theorem zPx_is : eqPx zPx = true := rfl
theorem ofW_val (x : BitVec 64) : (ofW x).val = x.toNat := by
 unfold ofW W6.val
 simp
theorem ordX_val (s : Su) : (ordX (suSx s)).val = suRn s := by
 cases s
 . exact ofW_val 65521#64
 . exact ofW_val 72057594037927889#64
theorem cmpX_ge {x o : W6} (h : x.val < o.val) : decide (cmpX x o >= 0) = false := by
 have := (cmW_nat x o).2 h
 have e : cmpX x o = cmW x o := rfl
 rw [e, decide_eq_false_iff_not]
 omega
theorem w0_val {x : W6} (h : x.val < 18446744073709551616) : x.w0.toNat = x.val := by
 unfold W6.val at h ⊢
 omega
theorem lneg_wp {s : Su} (A : Ap (Fsu s)) : ((wp A).1, lSub s 0#64 (wp A).2.1, (wp A).2.2) = wp (negK A) := by
 unfold wp negK
 rw [<- fw_zero (s := s), lSub_fw]
 have e : (0 : Fsu s) - A.y = -A.y := rg [A.y]
 rw [e]
end Go.Rq.Sm

namespace Go.Rq
open Go Go.Proofs
end Go.Rq

namespace Go.Rq
open Go Go.Proofs
set_option maxRecDepth 100000
end Go.Rq

namespace Go.Rq
open Go Go.Proofs
structure GP (K : Type) where
 ck : Ap K -> Bool
 ad : Ap K -> Ap K -> Ap K × Int
 ne : Ap K -> Ap K × Int
def zeroP1 : Ap W6 := ⟨zeroW, zeroW, true⟩
structure GPOk {K : Type} (eqP : Ap K -> Ap K -> Bool) (zp : Ap K) (t : GP K) : Prop where
 refl : ∀ p, eqP p p = true
 ad : ∀ p q, t.ck p = true -> t.ck q = true -> (t.ad p q).2 = 0 /\ t.ck (t.ad p q).1 = true
 ne : ∀ p, t.ck p = true -> (t.ne p).2 = 0 /\ t.ck (t.ne p).1 = true
 zc : t.ck zp = true
 comm : ∀ p q, t.ck p = true -> t.ck q = true -> (t.ad p q).1 = (t.ad q p).1
 assoc : ∀ p q r, t.ck p = true -> t.ck q = true -> t.ck r = true -> (t.ad (t.ad p q).1 r).1 = (t.ad p (t.ad q r).1).1
 neg : ∀ p, t.ck p = true -> (t.ad p (t.ne p).1).1 = zp
 zero : ∀ p, t.ck p = true -> (t.ad p zp).1 = p
section
variable {K : Type} [Rg K] {iv : K -> K} {e : K -> K -> Bool} {R : K -> D6 -> Prop} {t : RO}
end
section
variable {K : Type} [Rg K] {iv : K -> K} {e : K -> K -> Bool} {M P : K -> D6 -> Prop} {f : Fl K}
end
section
variable {K : Type} [Rg K] {iv : K -> K} {e : K -> K -> Bool} {R : K -> W6 -> Prop} {t : RO}
end
section
variable {K V : Type} [Rg K] {iv : K -> K} {e : K -> K -> Bool} {F : Fd K iv e} {b : K}
theorem pt_on (F : Fd K iv e) {f : Fl K} {A : Ap K} (h : Pt f.b A) : onE (foK iv) e f A = true := by
 unfold onE
 cases h with
 | zero =>
  show (bif e (0 : K) 0 then e (0 : K) 0 else false) = true
  rw [F.refl]; rfl
 | of h =>
  rename_i x y
  show e (y * y) (x * x * x + f.b) = true
  exact F.eq.2 h
theorem on_pt (F : Fd K iv e) {f : Fl K} {A : Ap K} (h : onE (foK iv) e f A = true) : Pt f.b A := by
 cases hz : A.zero with
 | true => rw [on_none F h hz]; exact .zero
 | false =>
  unfold onE at h
  rw [hz, cond_false] at h
  have h := F.eq.1 h
  obtain ⟨x, y, z⟩ := A
  simp only at hz
  subst hz
  exact .of h
structure Br (F : Fd K iv e) (b : K) (R : Ap K -> Ap V -> Prop) (eqP : Ap V -> Ap V -> Bool) (zp : Ap V) (t : GP V) : Prop where
 pt : ∀ {p : Ap V}, t.ck p = true -> ∃ A, R A p /\ Pt b A
 ck : ∀ {A : Ap K} {p : Ap V}, R A p -> Pt b A -> t.ck p = true
 ad : ∀ {A B : Ap K} {p q : Ap V}, R A p -> R B q -> Pt b A -> Pt b B -> (t.ad p q).2 = 0 /\ R (sumA iv e A B) (t.ad p q).1
 ne : ∀ {A : Ap K} {p : Ap V}, R A p -> Pt b A -> (t.ne p).2 = 0 /\ R (negK A) (t.ne p).1
 zp : R ⟨0, 0, true⟩ zp
 inj : ∀ {A : Ap K} {p q : Ap V}, R A p -> R A q -> p = q
 refl : ∀ p, eqP p p = true
theorem Br.gp {R : Ap K -> Ap V -> Prop} {eqP : Ap V -> Ap V -> Bool} {zp : Ap V} {t : GP V} (h : Br F b R eqP zp t) (C : Cv F b) : GPOk eqP zp t where
 refl := h.refl
 ad p q hp hq := by
  obtain ⟨A, a1, a2⟩ := h.pt hp
  obtain ⟨B, b1, b2⟩ := h.pt hq
  obtain ⟨k1, k2⟩ := h.ad a1 b1 a2 b2
  exact ⟨k1, h.ck k2 (sum_pt F a2 b2)⟩
 ne p hp := by
  obtain ⟨A, a1, a2⟩ := h.pt hp
  obtain ⟨k1, k2⟩ := h.ne a1 a2
  exact ⟨k1, h.ck k2 (neg_pt a2)⟩
 zc := h.ck h.zp .zero
 comm p q hp hq := by
  obtain ⟨A, a1, a2⟩ := h.pt hp
  obtain ⟨B, b1, b2⟩ := h.pt hq
  have k := (h.ad b1 a1 b2 a2).2
  rw [sum_comm F b2 a2] at k
  exact h.inj (h.ad a1 b1 a2 b2).2 k
 assoc p q r hp hq hr := by
  obtain ⟨A, a1, a2⟩ := h.pt hp
  obtain ⟨B, b1, b2⟩ := h.pt hq
  obtain ⟨D, d1, d2⟩ := h.pt hr
  have k1 := (h.ad (h.ad a1 b1 a2 b2).2 d1 (sum_pt F a2 b2) d2).2
  have k2 := (h.ad a1 (h.ad b1 d1 b2 d2).2 a2 (sum_pt F b2 d2)).2
  rw [sum_assoc F C a2 b2 d2] at k1
  exact h.inj k1 k2
 neg p hp := by
  obtain ⟨A, a1, a2⟩ := h.pt hp
  have k := (h.ad a1 (h.ne a1 a2).2 a2 (neg_pt a2)).2
  rw [sum_neg F a2] at k
  exact h.inj k h.zp
 zero p hp := by
  obtain ⟨A, a1, a2⟩ := h.pt hp
  have k := (h.ad a1 h.zp a2 .zero).2
  rw [a2.add0] at k
  exact h.inj k a1
end
def gpO1 : GP W6 := ⟨checkP1, addP1, negP1⟩
section
variable {K : Type} [Rg K] {iv : K -> K} {e : K -> K -> Bool} {M P : K -> W6 -> Prop} {f : Fl K}
theorem Lk.ckPt (L : Lk iv e M P f) (hlt : ∀ {x : K} {w : W6}, P x w -> w.val < pN) {A : Ap K} {p : Ap W6} (h : RA P A p) (hA : Pt f.b A) : checkP1 p = true := by
 have hb : belowP1 p = true := by
  unfold belowP1
  rw [belowI_nat, belowI_nat, decide_eq_true (hlt h.x), decide_eq_true (hlt h.y)]
  rfl
 unfold checkP1
 rw [hb, cond_true, <- on_rel L.rel L.fl (L.inn h)]
 exact pt_on L.F hA
theorem Lk.br (L : Lk iv e M P f) (hlt : ∀ {x : K} {w : W6}, P x w -> w.val < pN) : Br L.F f.b (RA P) eqP13 zeroP1 gpO1 where
 pt := fun {p} h => by
  have h' : rcheck1 p = true := by rw [<- L.check]; exact h
  obtain ⟨-, A, hP, hon⟩ := L.point h'
  exact ⟨A, hP, on_pt L.F hon⟩
 ck h hA := L.ckPt hlt h hA
 ad := fun {A B p q} ha hb a2 b2 => by
  have c1 : rcheck1 p = true := by rw [<- L.check]; exact L.ckPt hlt ha a2
  have c2 : rcheck1 q = true := by rw [<- L.check]; exact L.ckPt hlt hb b2
  have h4 : RA P (sumA iv e A B) (radd1 p q) := radd_rel L.ref ha hb
  have h5 : addP1 p q = (radd1 p q, 0) := by rw [L.add, c1, c2]; rfl
  show (addP1 p q).2 = 0 /\ RA P (sumA iv e A B) (addP1 p q).1
  rw [h5]
  exact ⟨rfl, h4⟩
 ne := fun {A p} ha a2 => by
  have c1 : rcheck1 p = true := by rw [<- L.check]; exact L.ckPt hlt ha a2
  have h4 := rneg_rel L.ref ha
  have h5 : negP1 p = (rneg1G roO p, 0) := by rw [L.neg, c1]; rfl
  show (negP1 p).2 = 0 /\ RA P (negK A) (negP1 p).1
  rw [h5]
  exact ⟨rfl, h4⟩
 zp := ⟨L.ref.zero, L.ref.zero, rfl⟩
 inj h k := ra_inj L.ref h k
 refl p := (eqP13_iff p p).2 rfl
end
section
variable {K : Type} [Rg K] {iv : K -> K} {e : K -> K -> Bool} {M P : K -> D6 -> Prop} {f : Fl K}
end
theorem four_rv {b : F1} (hb : RP b (ofW 4#64)) : RV (p := pN) b 4 := ⟨by rw [<- hb.eq]; exact four_val.symm⟩
theorem link1c : ∃ b : F1, Lk iv1 eq1 RM RP ⟨1, b⟩ /\ Cv fd1 b := by
 obtain ⟨b, hb⟩ := rp_of four_lt
 exact ⟨b, ⟨fd1, relM, rm_one, rm_zero, rm_to, rp_from, rp_of, rrel1, rfl, hb⟩, cv1 (four_rv hb)⟩
section
variable {K : Type} [Rg K] {iv : K -> K} {e : K -> K -> Bool}
theorem ga1_nsm (F : Fd K iv e) {f : Fl K} (C : Cv F f.b) (hf : f.one = 1) {A : Ap K} (hA : Pt f.b A) (n : W6) : ga1 (gaF iv e) 0 f A n = (nsm iv e A n.val, 0) := by
 have h : ga1 (gaF iv e) 0 f A n = bif onE (foK iv) e f A then (lowerE (foK iv) e (sumE (foK iv) e f ⟨f.one, f.one, 0⟩ (timesF iv e f (raiseJ (foK iv) f A) n)), 0) else (⟨0, 0, false⟩, 5) := rfl
 have h0 : Jr (⟨f.one, f.one, 0⟩ : Jp K) (nsm iv e A 0) := .none rfl
 have h1 := jr_run F C f n.bit (jr_raise F hf hA) hA (lenI n).toNat 0 h0
 rw [bitsV_val n (fun i hi => len_bits n hi), Nat.zero_mul, Nat.zero_add] at h1
 rw [h, pt_on F hA, cond_true, sum_none F f rfl]
 unfold timesF
 rw [times_run, jr_low F h1]
end
section
variable {K : Type} [Rg K] {iv : K -> K} {e : K -> K -> Bool} {M P : K -> W6 -> Prop} {f : Fl K}
theorem Lk.nsm (L : Lk iv e M P f) (hlt : ∀ {x : K} {w : W6}, P x w -> w.val < pN) (C : Cv L.F f.b) {A : Ap K} {p : Ap W6} (hP : RA P A p) (hA : Pt f.b A) (n : W6) : (sumP1W p n).2 = 0 /\ RA P (Go.Rq.nsm iv e A n.val) (sumP1W p n).1 := by
 have hc : rcheck1 p = true := by rw [<- L.check]; exact L.ckPt hlt hP hA
 obtain ⟨h1, h2⟩ := ga1_rel L.ga L.m0 L.fl (L.inn hP) n
 rw [ga1_nsm L.F C L.f1 hA n] at h1 h2
 rw [sum1_def, (L.point hc).1, cond_true]
 exact ⟨h2.symm, L.out h1⟩
end
section
variable {K : Type} [Rg K] {iv : K -> K} {e : K -> K -> Bool} {M P : K -> D6 -> Prop} {f : Fl K}
end
section
variable {K V : Type} [Rg K] {iv : K -> K} {e : K -> K -> Bool} {F : Fd K iv e} {b : K}
end
section
variable {K : Type} [Rg K] {iv : K -> K} {e : K -> K -> Bool} {M P : K -> W6 -> Prop} {f : Fl K}
theorem Lk.ingN (L : Lk iv e M P f) (hlt : ∀ {x : K} {w : W6}, P x w -> w.val < pN) (C : Cv L.F f.b) {A : Ap K} {p : Ap W6} (hP : RA P A p) (hA : Pt f.b A) : inGroup1 p = (Go.Rq.nsm iv e A rN).zero := by
 have hc : rcheck1 p = true := by rw [<- L.check]; exact L.ckPt hlt hP hA
 have h1 := (L.nsm hlt C hP hA orderW).2
 rw [order_val, L.mul, hc, cond_true] at h1
 rw [L.ing, hc, cond_true, rin1_def, hc, cond_true, <- h1.z]
end
section
variable {K : Type} [Rg K] {iv : K -> K} {e : K -> K -> Bool} {M P : K -> D6 -> Prop} {f : Fl K}
end
end Go.Rq

namespace Go.Rq.Sm
open Go Go.Proofs Go.Rq
def toAp (p : Px) : Ap W6 := ⟨p.1, p.2.1, p.2.2⟩
def ofAp (a : Ap W6) : Px := (a.x, a.y, a.zero)
def ofE (y : Ap W6 × Int) : Px × Int := (ofAp y.1, y.2)
theorem toAp_ofAp (a : Ap W6) : toAp (ofAp a) = a := rfl
theorem decA (a : AV) : aW.agg.dec a = (cPx.agg.dec a).map toAp := by
 simp only [CC.agg]
 cases aggOf a with
 | none => rfl
 | some l =>
  show (cAp c6).dec l = _
  unfold cAp cPx CC.iso
  dsimp only
  cases (CC.prod c6 (CC.prod c6 cBool)).dec l <;> rfl
theorem fnA1 {β β' : Type} {B : Cod β} {B' : Cod β'} {F : Ap W6 -> β} {ψ : β -> β'} (hB : ∀ y, B.enc y = B'.enc (ψ y)) : fn1 aW.agg B F = fn1 cPx.agg B' (fun a => ψ (F (toAp a))) := by
 funext args
 unfold fn1
 split
 . rename_i a
   rw [decA]
   cases cPx.agg.dec a with
   | none => rfl
   | some x => simp only [Option.map, hB]
 . rfl
theorem fnA1c {γ β β' : Type} {D : Cod γ} {B : Cod β} {B' : Cod β'} {F : Ap W6 -> γ -> β} {ψ : β -> β'} (hB : ∀ y, B.enc y = B'.enc (ψ y)) : fn2 aW.agg D B F = fn2 cPx.agg D B' (fun a d => ψ (F (toAp a) d)) := by
 funext args
 unfold fn2
 split
 . rename_i a d
   rw [decA]
   cases cPx.agg.dec a with
   | none => rfl
   | some x => cases D.dec d <;> simp only [Option.map, hB]
 . rfl
theorem fnA2 {β β' : Type} {B : Cod β} {B' : Cod β'} {F : Ap W6 -> Ap W6 -> β} {ψ : β -> β'} (hB : ∀ y, B.enc y = B'.enc (ψ y)) : fn2 aW.agg aW.agg B F = fn2 cPx.agg cPx.agg B' (fun a b => ψ (F (toAp a) (toAp b))) := by
 funext args
 unfold fn2
 split
 . rename_i a b
   rw [decA, decA]
   cases cPx.agg.dec a with
   | none => rfl
   | some x => cases cPx.agg.dec b <;> simp only [Option.map, hB]
 . rfl
theorem kPW_enc (y : Ap W6 × Int) : kPW.enc y = kPE.enc (ofE y) := rfl
theorem in_to {I : Ap W6 -> Bool} (h : CallOk PR 108 (fn1 aW.agg kBool I)) : CallOk PR 108 (fn1 cPx.agg kBool (fun p => I (toAp p))) := by
 rw [fnA1 (B' := kBool) (ψ := fun b => b) fun y => rfl] at h
 exact h
theorem ad_to {A : Ap W6 -> Ap W6 -> Ap W6 × Int} (h : CallOk PR 69 (fn2 aW.agg aW.agg kPW A)) : CallOk PR 69 (fn2 cPx.agg cPx.agg kPE (fun p q => ofE (A (toAp p) (toAp q)))) := by
 rw [fnA2 (B' := kPE) (ψ := ofE) kPW_enc] at h
 exact h
theorem mu_to {M : Ap W6 -> W6 -> Ap W6 × Int} (h : CallOk PR 136 (fn2 aW.agg c6.agg kPW M)) : CallOk PR 136 (fn2 cPx.agg c6.agg kPE (fun p n => ofE (M (toAp p) n))) := by
 rw [fnA1c (B' := kPE) (ψ := ofE) kPW_enc] at h
 exact h
theorem ne_to {N : Ap W6 -> Ap W6 × Int} (h : CallOk PR 83 (fn1 aW.agg kPW N)) : CallOk PR 83 (fn1 cPx.agg kPE (fun p => ofE (N (toAp p)))) := by
 rw [fnA1 (B' := kPE) (ψ := ofE) kPW_enc] at h
 exact h
theorem rN_pos : 0 < rN := by unfold rN; decide
section
variable {K : Type} [Rg K] {iv : K -> K} {e : K -> K -> Bool} {M P : K -> W6 -> Prop} {f : Fl K}
end
section
variable {I : Ap W6 -> Bool} {A : Ap W6 -> Ap W6 -> Ap W6 × Int} {M : Ap W6 -> W6 -> Ap W6 × Int} {N : Ap W6 -> Ap W6 × Int} {g : Ap W6} {ν : Nat -> Ap W6}
theorem rWx_val : rWx.val = rN := by decide +kernel
theorem zLx_is : eqLz zLx = true := rfl
end
end Go.Rq.Sm

namespace Go.Rq.Cl
open Go Go.Proofs Go.Rq Go.Rq.Sm
def scQ (s : Sx) (a : W6) : Bool := match mdS s with
 | some m => decide (a.val < mdN m)
 | none => false
def opF (op : Mo -> W6 -> W6 -> W6) (s : Sx) (a b : W6) : W6 × Int := match mdS s with
 | some m => (op (modS m) a b, 0)
 | none => (zW6, 2)
noncomputable def ivF (s : Sx) (a : W6) : W6 × Int := match mdS s with
 | some m => invF m a
 | none => (zW6, 2)
noncomputable def aqO : AQ := ⟨cmpX, qaddW, qsubW, qmulW⟩
theorem cloS_ok : EnvOk PR (cloE 78 qsubW) := envD_ok eqsT_ok TabPOk.nil (TabHOk.cons qsub_ent qsub_ok TabHOk.nil) TabLOk.nil TabDOk.nil
theorem cloM_ok : EnvOk PR (cloE 82 qmulW) := envD_ok eqsT_ok TabPOk.nil (TabHOk.cons qmul_ent qmul_ok TabHOk.nil) TabLOk.nil TabDOk.nil
theorem doS_ent : Enters PR 77 := entersB (by kernel_rfl)
theorem doM_ent : Enters PR 81 := entersB (by kernel_rfl)
theorem done_ent : Enters PR 76 := entersB (by kernel_rfl)
theorem cloS_act : ActOk PR 4096 77 (deepG PR (cloE 78 qsubW) [] 20 77 4096 true) := deep_ok (ctxB cloS_ok mixed (by kernel_rfl))
theorem cloM_act : ActOk PR 4096 81 (deepG PR (cloE 82 qmulW) [] 20 81 4096 true) := deep_ok (ctxB cloM_ok mixed (by kernel_rfl))
theorem do_ok : ActOk PR 4096 76 (doG aqO) :=
 deepP_ok (ctxB (envD_ok eqsT_ok TabPOk.nil TabHOk.nil TabLOk.nil (TabDOk.cons ari_ent (ari_ok [false, false]) (TabDOk.cons doS_ent cloS_act (TabDOk.cons doM_ent cloM_act TabDOk.nil))))
  mixed (by kernel_rfl))
theorem sopE_ok : EnvOk PR (sopE aqO) := envD_ok eqsT_ok TabPOk.nil TabHOk.nil TabLOk.nil (TabDOk.cons done_ent do_ok TabDOk.nil)
theorem ordX_md {s : Sx} {m : Md} (h : mdS s = some m) : (ordX s).val = mdN m := by
 cases s <;> cases h <;> decide +kernel
theorem nlt_true {s : Sx} {m : Md} (h : mdS s = some m) {a : W6} (ha : a.val < mdN m) (b : Bool) : nlt aqO s a b = b := by
 unfold nlt
 have e : decide (aqO.cm a (ordX s) >= 0) = false := by
  have e2 : aqO.cm = cmpX := by simp only [aqO]
  rw [e2]
  exact cmpX_ge (by rw [ordX_md h]; exact ha)
 rw [e, cond_false]
theorem two_true {s : Sx} {m : Md} (h : mdS s = some m) {a b : W6} (ha : a.val < mdN m) (hb : b.val < mdN m) : tt (tt (tt (tt (tt (tt (nlt aqO s a (nlt aqO s b true))))))) = true := by
 simp only [tt_eq]
 rw [nlt_true h ha, nlt_true h hb]
def sc2 (s : Sx) (a b : W6) : Bool := scQ s a && scQ s b
theorem scQ_ok {s : Sx} {a : W6} (h : scQ s a = true) : ∃ m, mdS s = some m /\ a.val < mdN m := by
 unfold scQ at h
 cases e : mdS s with
 | none => rw [e] at h; cases h
 | some m => rw [e] at h; exact ⟨m, rfl, of_decide_eq_true h⟩
theorem sc2_ok {s : Sx} {a b : W6} (h : sc2 s a b = true) : ∃ m, mdS s = some m /\ a.val < mdN m /\ b.val < mdN m := by
 unfold sc2 at h
 obtain ⟨h1, h2⟩ := Bool.and_eq_true_iff.1 h
 obtain ⟨m, e1, k1⟩ := scQ_ok h1
 obtain ⟨m', e2, k2⟩ := scQ_ok h2
 rw [e1] at e2
 cases e2
 exact ⟨m, e1, k1, k2⟩
theorem op_ctx {f : Nat} {fn : Func} (hf : PR.funcs.toList[f]? = some fn) (hb : fn.body = some (bodyOf PR f)) (hok : codeOk (sopE aqO) (bodyOf PR f) = true) : Ctx PR (sopE aqO) [13] (fun _ => none) 30 f := ctx_of sopE_ok mixed hf hb hok (tabOk_none _)
theorem op_gives {f : Nat} {op : Mo -> W6 -> W6 -> W6} (hr : ∀ (s : Sx) (m : Md), mdS s = some m -> ∀ a b : W6, valP [] (afunR PR (sopE aqO) [13] (fun _ => none) 30 f [kSx.enc s, c6.agg.enc a, c6.agg.enc b]) = some (tt (tt (tt (tt (tt (tt (nlt aqO s a (nlt aqO s b true))))))), some (kWE.val (op (modS m) a b, 0))))
 (s : Sx) (a b : W6) (h : sc2 s a b = true) : Gives (afunR PR (sopE aqO) [13] (fun _ => none) 30 f [kSx.enc s, c6.agg.enc a, c6.agg.enc b]) (kWE.val (opF op s a b)) := by
 obtain ⟨m, e, ha, hb⟩ := sc2_ok h
 have k := Go.Rq.givesP (hr s m e a b) (two_true e ha hb)
 unfold opF
 rw [e]
 exact k
theorem smul_ok : CallOk PR 39 (fnQ3 kSx c6.agg c6.agg kWE sc2 (opF qmulW)) :=
 .inl ⟨entersB (by kernel_rfl), pureQ3 (op_ctx (fn := Tryz.f39) (by kernel_rfl) (by kernel_rfl) (by kernel_rfl)) fun s a b h => op_gives (fun s m e a b => sml_run aqO s m e a b) s a b h⟩
theorem ssub_ok : CallOk PR 37 (fnQ3 kSx c6.agg c6.agg kWE sc2 (opF qsubW)) :=
 .inl ⟨entersB (by kernel_rfl), pureQ3 (op_ctx (fn := Tryz.f37) (by kernel_rfl) (by kernel_rfl) (by kernel_rfl)) fun s a b h => op_gives (fun s m e a b => ssb_run aqO s m e a b) s a b h⟩
theorem sivE_ok : EnvOk PR (sivE cmpX invF) := envD_ok eqsT_ok TabPOk.nil (TabHOk.cons iq_ent inv_okH TabHOk.nil) TabLOk.nil (TabDOk.cons ari_ent (ari_ok [false]) TabDOk.nil)
theorem siv_gives (s : Sx) (a : W6) (h : scQ s a = true) : Gives (afunR PR (sivE cmpX invF) [] (fun _ => none) 30 38 [kSx.enc s, c6.agg.enc a]) (kWE.val (ivF s a)) := by
 obtain ⟨m, e, ha⟩ := scQ_ok h
 have hc : decide (cmpX a (ordX s) >= 0) = false := cmpX_ge (by rw [ordX_md e]; exact ha)
 have k := siv_run cmpX invF s m e a
 rw [hc] at k
 have k2 := Go.Rq.givesP k rfl
 unfold ivF
 rw [e]
 exact k2
theorem siv_ctx : Ctx PR (sivE cmpX invF) [] (fun _ => none) 30 38 := ctxB sivE_ok mixed (by kernel_rfl)
theorem sinv_ok : CallOk PR 38 (fnQ2 kSx c6.agg kWE scQ ivF) :=
 .inl ⟨entersB (by kernel_rfl), pureQ2 siv_ctx siv_gives⟩
theorem decSk (a : AV) : kSx.dec a = ((kInt .i64).dec a).map Sx.of := by
 have e0 : kSx.dec a = (match (kInt .i64).dec a with
  | some i => some (Sx.of i)
  | none => none) := rfl
 rw [e0]
 cases (kInt .i64).dec a <;> rfl
theorem fnS2 {γ β : Type} {C : Cod γ} {B : Cod β} {Q : Sx -> γ -> Bool} {F : Sx -> γ -> β} : fnQ2 kSx C B Q F = fnQ2 (kInt .i64) C B (fun i => Q (Sx.of i)) (fun i => F (Sx.of i)) := by
 funext args
 unfold fnQ2
 split
 . rename_i a c
   rw [decSk]
   cases (kInt .i64).dec a with
   | none => rfl
   | some x => cases C.dec c <;> rfl
 . rfl
theorem fnS3 {γ δ β : Type} {C : Cod γ} {D : Cod δ} {B : Cod β} {Q : Sx -> γ -> δ -> Bool} {F : Sx -> γ -> δ -> β} : fnQ3 kSx C D B Q F = fnQ3 (kInt .i64) C D B (fun i => Q (Sx.of i)) (fun i => F (Sx.of i)) := by
 funext args
 unfold fnQ3
 split
 . rename_i a c d
   rw [decSk]
   cases (kInt .i64).dec a with
   | none => rfl
   | some x => cases C.dec c with
    | none => rfl
    | some y => cases D.dec d <;> rfl
 . rfl
abbrev Q3 : Type := Int -> W6 -> W6 -> Bool
noncomputable abbrev q2Z : Q3 := fun i => sc2 (Sx.of i)
noncomputable abbrev q1Z : Int -> W6 -> Bool := fun i => scQ (Sx.of i)
noncomputable abbrev mlZ : S3 := fun i => opF qmulW (Sx.of i)
noncomputable abbrev sbZ : S3 := fun i => opF qsubW (Sx.of i)
noncomputable abbrev ivZ : Int -> W6 -> W6 × Int := fun i => ivF (Sx.of i)
theorem mlZ_ok : CallOk PR 39 (fnQ3 (kInt .i64) c6.agg c6.agg kWE q2Z mlZ) := by rw [<- fnS3]; exact smul_ok
theorem sbZ_ok : CallOk PR 37 (fnQ3 (kInt .i64) c6.agg c6.agg kWE q2Z sbZ) := by rw [<- fnS3]; exact ssub_ok
theorem ivZ_ok : CallOk PR 38 (fnQ2 (kInt .i64) c6.agg kWE q1Z ivZ) := by rw [<- fnS2]; exact sinv_ok
noncomputable def pxqE (O : Int -> W6 × Int) (C : W6 -> W6 -> Int) (Q : Q3) (P : Int -> W6 -> Bool) (S M : S3) (V : Int -> W6 -> W6 × Int) : Env :=
 envA eqsT [(35, fn1 (kInt .i64) kWE O), (36, fn2 c6.agg c6.agg (kInt .i64) C), (37, fnQ3 (kInt .i64) c6.agg c6.agg kWE Q S), (39, fnQ3 (kInt .i64) c6.agg c6.agg kWE Q M), (38, fnQ2 (kInt .i64) c6.agg kWE P V)] [] [] [] [] [] true []
noncomputable def pxqT (O : Int -> W6 × Int) (C : W6 -> W6 -> Int) (Q : Q3) (P : Int -> W6 -> Bool) (S M : S3) (V : Int -> W6 -> W6 × Int) (s : Int) (c a d b : W6) : Tree AV :=
 afunR PR (pxqE O C Q P S M V) [26, 42, 47] (fun _ => none) 20 12 [.v (.int .i64 s), c6.agg.enc c, c6.agg.enc a, c6.agg.enc d, c6.agg.enc b]
def bt (b c : Bool) : Bool := bif b then c else false
set_option maxRecDepth 100000 in
theorem pxq_run (O : Int -> W6 × Int) (C : W6 -> W6 -> Int) (Q : Q3) (P : Int -> W6 -> Bool) (S M : S3) (V : Int -> W6 -> W6 × Int) (s : Int) (c a d b : W6) :
 valP [false, false, false, false, false, false] (pxqT O C Q P S M V s c a d b) =
 some (nt ((O s).2 != 0) (nt (geR O C s c) (nt (geR O C s a) (nt (geR O C s d) (nt (geR O C s b) (nt (eqWk c d true) (bt (tt (Q s a b)) (bt (tt (Q s c d)) (bt (tt (P s (S s c d).1)) (bt (tt (Q s (S s a b).1 (V s (S s c d).1).1)) true))))))))),
  some (kWE.val (M s (S s a b).1 (V s (S s c d).1).1))) := by kernel_rfl
def fnQ5 {α γ δ ε ζ β : Type} (A : Cod α) (C : Cod γ) (D : Cod δ) (G : Cod ε) (H : Cod ζ) (B : Cod β) (Q : α -> γ -> δ -> ε -> ζ -> Bool) (F : α -> γ -> δ -> ε -> ζ -> β) : List AV -> Option (Bool × AV)
 | [a, c, d, g, h] => match A.dec a, C.dec c, D.dec d, G.dec g, H.dec h with
  | some x, some y, some z, some u, some v => some (Q x y z u v, B.enc (F x y z u v))
  | _, _, _, _, _ => none
 | _ => none
theorem pureQ5 {P : Program} {E : Env} {sym : List Tmp} {tab : BTab} {lf f : Nat} {α β γ δ ε ζ : Type} {A : Cod α} {B : Cod β} {C : Cod γ} {D : Cod δ} {G : Cod ε} {H : Cod ζ} (X : Ctx P E sym tab lf f) {Q : α -> γ -> δ -> ε -> ζ -> Bool} {F : α -> γ -> δ -> ε -> ζ -> β}
 (h : ∀ x y z u v, Q x y z u v = true -> Gives (afunR P E sym tab lf f [A.enc x, C.enc y, D.enc z, G.enc u, H.enc v]) (B.val (F x y z u v))) : PureOk P f (fnQ5 A C D G H B Q F) := by
 refine pure_core X fun args r hg => ?_
 unfold fnQ5 at hg
 split at hg
 . rename_i a c d g q
   split at hg
   . rename_i x y z u v hx hy hz hu hv
     simp only [Option.some.injEq, Prod.mk.injEq] at hg
     obtain ⟨hq, rfl⟩ := hg
     refine ⟨[A.enc x, C.enc y, D.enc z, G.enc u, H.enc v], [A.val x, C.val y, D.val z, G.val u, H.val v], fun ρ xs hxs => ?_, by simp [flatL, A.h1, C.h1, D.h1, G.h1, H.h1], _, B.h1 _, (h x y z u v hq).out⟩
     obtain ⟨v1, l1, rfl, h1, k1⟩ := hxs.uncons
     obtain ⟨v2, l2, rfl, h2, k2⟩ := k1.uncons
     obtain ⟨v3, l3, rfl, h3, k3⟩ := k2.uncons
     obtain ⟨v4, l4, rfl, h4, k4⟩ := k3.uncons
     obtain ⟨v5, l5, rfl, h5, k5⟩ := k4.uncons
     rw [k5.unnil, A.h2 ρ _ _ _ hx h1, C.h2 ρ _ _ _ hy h2, D.h2 ρ _ _ _ hz h3, G.h2 ρ _ _ _ hu h4, H.h2 ρ _ _ _ hv h5]
   . cases hg
 . cases hg
theorem pxq_ctx {O : Int -> W6 × Int} {C : W6 -> W6 -> Int} {Q : Q3} {P : Int -> W6 -> Bool} {S M : S3} {V : Int -> W6 -> W6 × Int} (hO : CallOk PR 35 (fn1 (kInt .i64) kWE O)) (hC : CallOk PR 36 (fn2 c6.agg c6.agg (kInt .i64) C))
 (hS : CallOk PR 37 (fnQ3 (kInt .i64) c6.agg c6.agg kWE Q S)) (hM : CallOk PR 39 (fnQ3 (kInt .i64) c6.agg c6.agg kWE Q M)) (hV : CallOk PR 38 (fnQ2 (kInt .i64) c6.agg kWE P V)) :
 Ctx PR (pxqE O C Q P S M V) [26, 42, 47] (fun _ => none) 20 12 :=
 ctxB (envA_ok eqsT_ok (TabPOk.cons hO (TabPOk.cons hC (TabPOk.cons hS (TabPOk.cons hM (TabPOk.cons hV TabPOk.nil))))) TabHOk.nil TabLOk.nil TabAOk.nil) mixed (by kernel_rfl)
end Go.Rq.Cl

namespace Go.Rq.Rf
open Go Go.Proofs Go.Rq Go.Rq.Sm
theorem fg_low {q u n : BitVec 64} {v k : Nat} (h : q * n + u + bitW false = 0#64) (hv : v < 18446744073709551616) (e : v + 18446744073709551616 * k = q.toNat * n.toNat + u.toNat) : v = 0 := by
 have h2 := congrArg BitVec.toNat h
 rw [BitVec.toNat_add, BitVec.toNat_add, BitVec.toNat_mul, bitW_nat] at h2
 have h2 : ((q.toNat * n.toNat % 18446744073709551616 + u.toNat) % 18446744073709551616 + 0) % 18446744073709551616 = 0 := h2
 generalize q.toNat * n.toNat = z at h2 e
 omega
theorem fg_end {B T xB U u6 c Y V v6 d N : Nat} (hn : 2 * N <= 39402006196394479212279040100143613805079739270465446667948293404245721771497210611414266254884915640806627990306816) (hb : B < N) (ht : T < B + N) (hx : xB <= 18446744073709551615 * B) (hy : Y <= 18446744073709551615 * N)
 (hu : U + 39402006196394479212279040100143613805079739270465446667948293404245721771497210611414266254884915640806627990306816 * u6 + 726838724295606890549323807888004534353641360687318060281490199180639288113397923326191050713763565560762521606266177933534601628614656 * c = T + xB)
 (hv : V + 39402006196394479212279040100143613805079739270465446667948293404245721771497210611414266254884915640806627990306816 * v6 + 726838724295606890549323807888004534353641360687318060281490199180639288113397923326191050713763565560762521606266177933534601628614656 * d = U + 39402006196394479212279040100143613805079739270465446667948293404245721771497210611414266254884915640806627990306816 * u6 + Y) :
 c = 0 /\ d = 0 /\ V + 39402006196394479212279040100143613805079739270465446667948293404245721771497210611414266254884915640806627990306816 * v6 = xB + T + Y /\ V + 39402006196394479212279040100143613805079739270465446667948293404245721771497210611414266254884915640806627990306816 * v6 < 18446744073709551616 * (B + N) := by
 have hc : c = 0 := by omega
 subst hc
 have hd : d = 0 := by omega
 subst hd
 refine ⟨rfl, rfl, ?_, ?_⟩ <;> omega
theorem fg_round {m : Fa} {ri : Nat} (M : Cl.Mg m ri) (b : W6) (x : BitVec 64) (t : W8) (h1 : t.2.1 = 0#64) (h2 : t.2.2 = 0#64) (hb : b.val < m.1.val) (ht : t.1.val < b.val + m.1.val) :
 ∃ q : Nat, (mtRound rowW m b x t).2.1 = 0#64 /\ (mtRound rowW m b x t).2.2 = 0#64 /\ (mtRound rowW m b x t).1.val < b.val + m.1.val /\ 18446744073709551616 * (mtRound rowW m b x t).1.val = x.toNat * b.val + t.1.val + q * m.1.val := by
 obtain ⟨u, hue⟩ : ∃ u, rowW t x b = u := ⟨_, rfl⟩
 obtain ⟨q, hqe⟩ : ∃ q, u.1.w0 * m.2.1 = q := ⟨_, rfl⟩
 obtain ⟨v, hve⟩ : ∃ v, rowW u q m.1 = v := ⟨_, rfl⟩
 have hres : mtRound rowW m b x t = (⟨v.1.w1, v.1.w2, v.1.w3, v.1.w4, v.1.w5, v.2.1⟩, v.2.2, bitW false) := by
  subst hve hqe hue
  rfl
 obtain ⟨c, hu, hc, -⟩ := row_nat t x b
 obtain ⟨d, hv, hd, k, hl⟩ := row_nat u q m.1
 rw [hue] at hu hc
 rw [hve] at hv hd hl
 have lz := M.low u.1.w0
 rw [hqe] at lz
 have z := fg_low (q := q) (u := u.1.w0) (n := m.1.w0) lz v.1.w0.isLt hl
 rw [h1, show (0#64).toNat = 0 from rfl, Nat.mul_zero, Nat.add_zero] at hu
 have xB : x.toNat * b.val <= 18446744073709551615 * b.val := Nat.mul_le_mul_right _ (Nat.le_of_lt_succ x.isLt)
 have qY : q.toNat * m.1.val <= 18446744073709551615 * m.1.val := Nat.mul_le_mul_right _ (Nat.le_of_lt_succ q.isLt)
 obtain ⟨c0, d0, e1, e2⟩ := fg_end (c := b2n c) (d := b2n d) M.small hb ht xB qY hu hv
 have c0 := b2n_zero c0
 have d0 := b2n_zero d0
 subst c0 d0
 rw [h2] at hc
 rw [hc] at hd
 refine ⟨q.toNat, ?_, ?_, ?_⟩
 . rw [hres]
   show v.2.2 = 0#64
   rw [hd]; rfl
 . rw [hres]; rfl
 . rw [hres]
   show (W6.mk v.1.w1 v.1.w2 v.1.w3 v.1.w4 v.1.w5 v.2.1).val < _ /\ 18446744073709551616 * (W6.mk v.1.w1 v.1.w2 v.1.w3 v.1.w4 v.1.w5 v.2.1).val = _
   have hval : 18446744073709551616 * (W6.mk v.1.w1 v.1.w2 v.1.w3 v.1.w4 v.1.w5 v.2.1).val = v.1.val + 39402006196394479212279040100143613805079739270465446667948293404245721771497210611414266254884915640806627990306816 * v.2.1.toNat := by
    simp only [W6.val]
    omega
   rw [hval]
   refine ⟨?_, e1⟩
   rw [<- hval] at e2
   exact Nat.lt_of_mul_lt_mul_left e2
theorem fg_raw {m : Fa} {ri : Nat} (M : Cl.Mg m ri) (a b : W6) (hb : b.val < m.1.val) : (mtRaw rowW m a b).2.1 = 0#64 /\ (mtRaw rowW m a b).1.val < b.val + m.1.val /\ ∃ Q, 39402006196394479212279040100143613805079739270465446667948293404245721771497210611414266254884915640806627990306816 * (mtRaw rowW m a b).1.val = a.val * b.val + Q * m.1.val := by
 have zv : zero8.1.val = 0 := rfl
 have hp := M.pos
 unfold mtRaw
 obtain ⟨q1, y1, w1, l1, h1⟩ := fg_round M b a.w0 zero8 rfl rfl hb (by rw [zv]; omega)
 generalize mtRound rowW m b a.w0 zero8 = t1 at y1 w1 l1 h1 ⊢
 obtain ⟨q2, y2, w2, l2, h2⟩ := fg_round M b a.w1 t1 y1 w1 hb l1
 generalize mtRound rowW m b a.w1 t1 = t2 at y2 w2 l2 h2 ⊢
 obtain ⟨q3, y3, w3, l3, h3⟩ := fg_round M b a.w2 t2 y2 w2 hb l2
 generalize mtRound rowW m b a.w2 t2 = t3 at y3 w3 l3 h3 ⊢
 obtain ⟨q4, y4, w4, l4, h4⟩ := fg_round M b a.w3 t3 y3 w3 hb l3
 generalize mtRound rowW m b a.w3 t3 = t4 at y4 w4 l4 h4 ⊢
 obtain ⟨q5, y5, w5, l5, h5⟩ := fg_round M b a.w4 t4 y4 w4 hb l4
 generalize mtRound rowW m b a.w4 t4 = t5 at y5 w5 l5 h5 ⊢
 obtain ⟨q6, y6, w6, l6, h6⟩ := fg_round M b a.w5 t5 y5 w5 hb l5
 generalize mtRound rowW m b a.w5 t5 = t6 at y6 w6 l6 h6 ⊢
 refine ⟨y6, l6, q1 + 18446744073709551616 * q2 + 340282366920938463463374607431768211456 * q3 + 6277101735386680763835789423207666416102355444464034512896 * q4 + 115792089237316195423570985008687907853269984665640564039457584007913129639936 * q5 + 2135987035920910082395021706169552114602704522356652769947041607822219725780640550022962086936576 * q6, ?_⟩
 rw [zv, Nat.add_zero] at h1
 rw [<- Cl.mul_sum6]
 have hb : a.val * b.val = (a.w0.toNat * b.val) + 18446744073709551616 * (a.w1.toNat * b.val) + 340282366920938463463374607431768211456 * (a.w2.toNat * b.val) + 6277101735386680763835789423207666416102355444464034512896 * (a.w3.toNat * b.val) + 115792089237316195423570985008687907853269984665640564039457584007913129639936 * (a.w4.toNat * b.val) + 2135987035920910082395021706169552114602704522356652769947041607822219725780640550022962086936576 * (a.w5.toNat * b.val) := by
  rw [Nat.mul_comm, val_mul]
  simp only [Nat.mul_comm b.val]
 rw [hb]
 exact Cl.mg_raw_sum h1 h2 h3 h4 h5 h6
theorem fg_less (m : W6) {x : W6} (h : x.val < 2 * m.val) : (bif decide (cmW x m >= 0) then (rsubW x m).1 else x).val = x.val % m.val := by
 have hc := cmW_nat x m
 by_cases hlt : x.val < m.val
 . rw [decide_eq_false (fun g => by have := hc.2 hlt; omega), cond_false, Nat.mod_eq_of_lt hlt]
 . rw [decide_eq_true (by
    have : ¬ cmW x m < 0 := fun l => hlt (hc.1 l)
    omega), cond_true, rsubW_eq]
   have h1 := subs_nat x m
   have hl := (subs x m).1.val_lt
   have hx := x.val_lt
   rw [Nat.mod_eq_sub_mod (by omega), Nat.mod_eq_of_lt (by omega)]
   cases hb : (subs x m).2 with
   | true => rw [hb, show b2n true = 1 from rfl] at h1; omega
   | false => rw [hb, show b2n false = 0 from rfl] at h1; omega
theorem fg_mont {m : Fa} {ri : Nat} (M : Cl.Mg m ri) (a b : W6) (hb : b.val < m.1.val) : (montW m a b).val = a.val * b.val * ri % m.1.val := by
 obtain ⟨h0, h1, Q, h2⟩ := fg_raw M a b hb
 unfold montW
 rw [mont_less h0, fg_less m.1 (by omega)]
 exact wide_mul M.inv h2
theorem fg_mul {m : Fa} {ri : Nat} (M : Cl.Mg m ri) (a b : W6) (hb : b.val < m.1.val) : (rmulW m a b).val = a.val * b.val % m.1.val := by
 have e : rmulW m a b = montW m (montW m a b) m.2.2 := rfl
 rw [e, fg_mont M _ _ M.wlt, fg_mont M a b hb]
 exact mul_twice M.wide
theorem fg_add {m : Fa} {ri : Nat} (M : Cl.Mg m ri) {a b : W6} (ha : a.val < m.1.val) (hb : b.val < m.1.val) : (rfadd m a b).val = (a.val + b.val) % m.1.val := by
 have hs := M.small
 have h1 := adds_nat a b
 have h3 : (raddW a b).1.val = a.val + b.val := by
  rw [raddW_eq]
  cases hb : (adds a b).2 with
  | true => rw [hb, show b2n true = 1 from rfl] at h1; omega
  | false => rw [hb, show b2n false = 0 from rfl] at h1; omega
 unfold rfadd
 rw [fg_less m.1 (by omega), h3]
theorem fg_pow {m : Fa} {ri : Nat} (M : Cl.Mg m ri) {a : W6} (ha : a.val < m.1.val) (e : W6) : ∀ (k : Nat) (o : Option W6), (ovP o).val < m.1.val ->
 (ovP (powR rpoO m a e k o)).val < m.1.val /\ (ovP (powR rpoO m a e k o)).val = (ovP o).val ^ 2 ^ k * a.val ^ bitsV (fun i => bitI e (i : Int) == 1) k % m.1.val
 | 0, o, h => by
  refine ⟨h, ?_⟩
  show (ovP o).val = (ovP o).val ^ 2 ^ 0 * a.val ^ 0 % m.1.val
  rw [Nat.pow_zero, Nat.pow_one, Nat.pow_zero, Nat.mul_one, Nat.mod_eq_of_lt h]
 | k + 1, o, h => by
  have hp := M.pos
  have step : ∃ o' : Option W6, powR rpoO m a e (k + 1) o = powR rpoO m a e k o' /\ (ovP o').val < m.1.val /\ (ovP o').val = (ovP o).val * (ovP o).val * (bif bitI e (k : Int) == 1 then a.val else 1) % m.1.val := by
   refine ⟨_, rfl, ?_⟩
   rw [rpoO_mu, rpoO_bt]
   have h1 := fg_mul M (ovP o) (ovP o) h
   have h2 : (rmulW m (ovP o) (ovP o)).val < m.1.val := by rw [h1]; exact Nat.mod_lt _ (by omega)
   show (bif bitI e (k : Int) == 1 then rmulW m (rmulW m (ovP o) (ovP o)) a else rmulW m (ovP o) (ovP o)).val < m.1.val /\ (bif bitI e (k : Int) == 1 then rmulW m (rmulW m (ovP o) (ovP o)) a else rmulW m (ovP o) (ovP o)).val = _
   cases bitI e (k : Int) == 1 with
   | true =>
    have h3 := fg_mul M (rmulW m (ovP o) (ovP o)) a ha
    simp only [cond_true]
    rw [h3, h1]
    exact ⟨Nat.mod_lt _ (by omega), Nat.mod_mul_mod ..⟩
   | false =>
    simp only [cond_false]
    rw [h1, Nat.mul_one]
    exact ⟨Nat.mod_lt _ (by omega), rfl⟩
  obtain ⟨o', e1, e2, e3⟩ := step
  obtain ⟨i1, i2⟩ := fg_pow M ha e k o' e2
  rw [e1]
  refine ⟨i1, ?_⟩
  rw [i2, e3]
  generalize (ovP o).val = V
  generalize m.1.val = N
  generalize a.val = A
  have key : ∀ c B : Nat, (V * V * c % N) ^ 2 ^ k * A ^ B % N = V ^ 2 ^ (k + 1) * (c ^ 2 ^ k * A ^ B) % N := by
   intro c B
   rw [Nat.mul_mod, <- Nat.pow_mod, <- Nat.mul_mod, Nat.mul_pow, <- Nat.pow_two, <- Nat.pow_mul, Nat.mul_assoc, show 2 * 2 ^ k = 2 ^ (k + 1) by rw [Nat.pow_succ, Nat.mul_comm]]
  rw [key]
  simp only [bitsV]
  cases bitI e (k : Int) == 1 with
  | true => simp only [cond_true]; rw [<- Nat.pow_add, Nat.add_comm (2 ^ k)]
  | false => simp only [cond_false, Nat.one_pow, Nat.one_mul, Nat.add_zero]
noncomputable def fastR : Fa := Cl.modS .ro
theorem fastR_mg : Cl.Mg fastR (Cl.mdRi .ro) := Cl.mg_md .ro
theorem fastR_val : fastR.1.val = rN := by decide +kernel
def expR : W6 := ⟨18446744069414584319#64, 6034159408538082302#64, 3691218898639771653#64, 8353516859464449352#64, 0#64, 0#64⟩
theorem expR_eq : (rsubW fastR.1 numTwo).1 = expR := by decide +kernel
theorem expR_len : (rlenI expR).toNat = 255 := by decide +kernel
theorem expR_bits : bitsV (fun i => bitI expR (i : Int) == 1) 255 = rN - 2 := by decide +kernel
theorem ovP_none : (ovP none).val = 1 := by decide +kernel
theorem pow_one_left {v y n x N : Nat} (h : v = y ^ n * x % N) (hy : y = 1) : v = x % N := by
 subst hy
 rw [Nat.one_pow, Nat.one_mul] at h
 exact h
theorem rinvR_val {a : W6} (ha : a.val < rN) : (rinvW fastR a).val < rN /\ (rinvW fastR a).val = a.val ^ (rN - 2) % rN := by
 have h : rinvW fastR a = ovP (powR rpoO fastR a expR 255 none) := by
  unfold rinvW rpowW rpowO
  rw [expR_eq, expR_len]
 obtain ⟨h1, h2⟩ := fg_pow fastR_mg (a := a) (by rw [fastR_val]; exact ha) expR 255 none (by rw [ovP_none, fastR_val]; decide +kernel)
 rw [h]
 rw [fastR_val] at h1 h2
 rw [expR_bits] at h2
 exact ⟨h1, pow_one_left h2 ovP_none⟩
theorem lm_run (M : BitVec 64 -> BitVec 64 -> BitVec 64 × BitVec 64) (R : Op2) (s : Su) (a b : BitVec 64) : (afunR PR (envOf eqsT (lmT M R)) [] (fun _ => none) 10 119 [kCv.enc s, kU.enc a, kU.enc b]).strict = .leaf (kU.enc (R s (M a b).1 (M a b).2)) := by cases s <;> kernel_rfl
theorem lm_ctx : Ctx PR (envOf eqsT (lmT mul64 rmF)) [] (fun _ => none) 10 119 :=
 ctxB (envOf_ok eqsT_ok lmT_ok) mixed (by kernel_rfl)
theorem lm_ok : CallOk PR 119 (fn3 kCv kU kU kU lMul) :=
 .inl ⟨entersB (by kernel_rfl), pure3 lm_ctx fun s a b => leafVal (B := kU) (y := lMul s a b) (by rw [lm_run, lm_eq])⟩
theorem la_run (s : Su) (a b : BitVec 64) : (afunR PR (envOf eqsT []) [] (fun _ => none) 10 170 [kCv.enc s, kU.enc a, kU.enc b]).strict = .leaf (kU.enc (lAdd s a b)) := by cases s <;> kernel_rfl
theorem la_ctx : Ctx PR (envOf eqsT []) [] (fun _ => none) 10 170 :=
 ctxB (envOf_ok eqsT_ok TabPOk.nil) mixed (by kernel_rfl)
theorem la_ok : CallOk PR 170 (fn3 kCv kU kU kU lAdd) :=
 .inl ⟨entersB (by kernel_rfl), pure3 la_ctx fun s a b => leafVal (B := kU) (y := lAdd s a b) (la_run s a b)⟩
theorem ln_run (s : Su) (a : BitVec 64) : (afunR PR (envOf eqsT []) [] (fun _ => none) 10 144 [kCv.enc s, kU.enc a]).strict = .leaf (kU.enc (rNeg s a)) := by cases s <;> kernel_rfl
theorem ln_ctx : Ctx PR (envOf eqsT []) [] (fun _ => none) 10 144 :=
 ctxB (envOf_ok eqsT_ok TabPOk.nil) mixed (by kernel_rfl)
theorem ln_ok : CallOk PR 144 (fn2 kCv kU kU rNeg) :=
 .inl ⟨entersB (by kernel_rfl), pure2 ln_ctx fun s a => leafVal (B := kU) (y := rNeg s a) (ln_run s a)⟩
def tAn (A : Op2) (N : Op1) : PureTab := [(170, fn3 kCv kU kU kU A), (144, fn2 kCv kU kU N)]
theorem ls_run (A : Op2) (N : Op1) (s : Su) (a b : BitVec 64) : (afunR PR (envOf eqsT (tAn A N)) [] (fun _ => none) 10 118 [kCv.enc s, kU.enc a, kU.enc b]).strict = .leaf (kU.enc (A s a (N s b))) := by cases s <;> kernel_rfl
theorem ls_ctx : Ctx PR (envOf eqsT (tAn lAdd rNeg)) [] (fun _ => none) 10 118 :=
 ctxB (envOf_ok eqsT_ok (TabPOk.cons la_ok (TabPOk.cons ln_ok TabPOk.nil))) mixed (by kernel_rfl)
theorem ls_ok : CallOk PR 118 (fn3 kCv kU kU kU rSub) :=
 .inl ⟨entersB (by kernel_rfl), pure3 ls_ctx fun s a b => leafVal (B := kU) (y := rSub s a b) (ls_run lAdd rNeg s a b)⟩
def tNe (N : Op1) : PureTab := [(144, fn2 kCv kU kU N)]
theorem np_run (N : Op1) (s : Su) (p : Lp) : (afunR PR (envOf eqsT (tNe N)) [] (fun _ => none) 10 91 [kCv.enc s, cLp.agg.enc p]).strict = .leaf (cLp.agg.enc (p.1, N s p.2.1, p.2.2)) := by cases s <;> kernel_rfl
theorem np_ctx : Ctx PR (envOf eqsT (tNe rNeg)) [] (fun _ => none) 10 91 :=
 ctxB (envOf_ok eqsT_ok (TabPOk.cons ln_ok TabPOk.nil)) mixed (by kernel_rfl)
theorem np_ok : CallOk PR 91 (fn2 kCv cLp.agg cLp.agg rNegP) :=
 .inl ⟨entersB (by kernel_rfl), pure2 np_ctx fun s p => leafVal (B := cLp.agg) (y := rNegP s p) (np_run rNeg s p)⟩
def lrT (t : LQ) : PureTab := [(119, fn3 kCv kU kU kU t.mul), (170, fn3 kCv kU kU kU t.add)]
theorem lr_run (t : LQ) (s : Su) (x : BitVec 64) : (afunR PR (envOf eqsT (lrT t)) [] (fun _ => none) 10 189 [kCv.enc s, kU.enc x]).strict = .leaf (kU.enc (t.add s (t.mul s (t.mul s x x) x) x)) := by cases s <;> kernel_rfl
def loT (t : LQ) : PureTab := [(119, fn3 kCv kU kU kU t.mul), (189, fn2 kCv kU kU t.right)]
theorem lo_run (t : LQ) (s : Su) (p : Lp) : (afunR PR (envOf eqsT (loT t)) [6, 10, 20, 27] (fun _ => none) 10 139 [kCv.enc s, cLp.agg.enc p]).strict =
 .br p.2.2 (.br (p.1 == bitW false) (.leaf (.v (.bool (p.2.1 == bitW false)))) (.leaf (.lit false)))
  (.br (BitVec.ult p.1 (suB s)) (.br (BitVec.ult p.2.1 (suB s)) (.leaf (.v (.bool (t.mul s p.2.1 p.2.1 == t.right s p.1)))) (.leaf (.lit false))) (.leaf (.lit false))) := by cases s <;> kernel_rfl
theorem lo_gives (t : LQ) (s : Su) (p : Lp) : Gives (afunR PR (envOf eqsT (loT t)) [6, 10, 20, 27] (fun _ => none) 10 139 [kCv.enc s, cLp.agg.enc p]) (kBool.val (onG t s p)) :=
 givesOf (lo_run t s p) (holds_br (B := kBool) (holds_br (B := kBool) (holds_leaf rfl) (holds_leaf rfl)) (holds_br (B := kBool) (holds_br (B := kBool) (holds_leaf rfl) (holds_leaf rfl)) (holds_leaf rfl)))
theorem lr_ctx : Ctx PR (envOf eqsT (lrT ⟨lMul, lAdd, lSub, lrF, lrF, fun _ _ _ => (0#64, false), fun _ p _ => p⟩)) [] (fun _ => none) 10 189 :=
 ctxB (envOf_ok eqsT_ok (TabPOk.cons lm_ok (TabPOk.cons la_ok TabPOk.nil))) mixed (by kernel_rfl)
theorem lr_ok : CallOk PR 189 (fn2 kCv kU kU lrF) :=
 .inl ⟨entersB (by kernel_rfl), pure2 lr_ctx fun s x => leafVal (B := kU) (y := lrF s x) (lr_run _ s x)⟩
theorem lo_ctx : Ctx PR (envOf eqsT (loT ⟨lMul, lAdd, lSub, lrF, lrF, fun _ _ _ => (0#64, false), fun _ p _ => p⟩)) [6, 10, 20, 27] (fun _ => none) 10 139 :=
 ctxB (envOf_ok eqsT_ok (TabPOk.cons lm_ok (TabPOk.cons lr_ok TabPOk.nil))) mixed (by kernel_rfl)
theorem lo_ok : CallOk PR 139 (fn2 kCv cLp.agg kBool onF) :=
 .inl ⟨entersB (by kernel_rfl), pure2 lo_ctx fun s p => lo_gives _ s p⟩
def lvT (P : Op2) : PureTab := [(216, fn3 kCv kU kU kU P)]
theorem lv_run (P : Op2) (s : Su) (x : BitVec 64) : (afunR PR (envOf eqsT (lvT P)) [] (fun _ => none) 10 171 [kCv.enc s, kU.enc x]).strict = .leaf (kU.enc (P s x (suB s - 2#64))) := by cases s <;> kernel_rfl
def lpwT (M : Op2) (L : BitVec 64 -> Int) : PureTab := [(119, fn3 kCv kU kU kU M), (142, fn1 kU (kInt .i64) L)]
theorem lpwT_ok : TabPOk PR (lpwT lMul blI) := TabPOk.cons lm_ok (TabPOk.cons len64_ok TabPOk.nil)
def pwK : Keep := ⟨[1, 2, 3, 7, 8], [0], 6⟩
@[irreducible] noncomputable def pwX (M : Op2) (L : BitVec 64 -> Int) (s : Su) (a n : BitVec 64) : XS := entryOf PR (envOf eqsT (lpwT M L)) [13, 24] (fun _ => none) 10 216 [kCv.enc s, kU.enc a, kU.enc n] [] 0 0 pwK
@[irreducible] noncomputable def pwI (M : Op2) (L : BitVec 64 -> Int) (s : Su) (a n : BitVec 64) (d : Int × BitVec 64) : XS := ((pwX M L s a n).setT 8 (.v (.int .i64 d.1))).setT 7 (.u d.2)
@[irreducible] noncomputable def pwC : Code := roundOf PR 216 0
set_option maxRecDepth 1000000 in
theorem pw_round (M : Op2) (L : BitVec 64 -> Int) (s : Su) (a n : BitVec 64) (z : Int) (out : BitVec 64) : Tree.but [2] 0 (roundT PR (envOf eqsT (lpwT M L)) [13, 24] (fun _ => none) 10 pwK pwK pwK pwC (pwI M L s a n (z, out))) =
 .br (decide (z >= 0))
  (.br (bitU n z)
   (.need (notNeg z) (.leaf (.normal, pwI M L s a n (IntKind.i64.wrap (z - 1), M s (M s out out) a))))
   (.need (notNeg z) (.leaf (.normal, pwI M L s a n (IntKind.i64.wrap (z - 1), M s out out)))))
  (.leaf (.exit 0, pwI M L s a n (z, out))) := by cases s <;> kernel_rfl
set_option maxRecDepth 1000000 in
theorem pw_head (M : Op2) (L : BitVec 64 -> Int) (s : Su) (a n : BitVec 64) : (pwX M L s a n).setT 7 (.u (bitW true)) = pwI M L s a n (IntKind.i64.wrap (L n - 1), bitW true) := by cases s <;> kernel_rfl
set_option maxRecDepth 1000000 in
theorem pw_bit (M : Op2) (L : BitVec 64 -> Int) (s : Su) (a n : BitVec 64) : (pwX M L s a n).s.tm[7]? = some (.bit true) := by cases s <;> kernel_rfl
theorem pw_blk : blkAll 0 (bodyOf PR 216) = [.loop pwC] := by kernel_rfl
@[irreducible] noncomputable def pwB (M : Op2) (L : BitVec 64 -> Int) (s : Su) (a n r : BitVec 64) : BEnt := ⟨pwK.tm, pwK.ids, pwK.n, pwX M L s a n, .leaf (.normal, pwI M L s a n (-1, r))⟩
theorem pwB_n (M : Op2) (L : BitVec 64 -> Int) (s : Su) (a n r : BitVec 64) : (pwB M L s a n r).n = 6 /\ (pwB M L s a n r).pre = pwX M L s a n /\ (pwB M L s a n r).post = .leaf (.normal, pwI M L s a n (-1, r)) := by
 unfold pwB
 exact ⟨rfl, rfl, rfl⟩
set_option maxRecDepth 1000000 in
theorem pw_run (M : Op2) (L : BitVec 64 -> Int) (s : Su) (a n r : BitVec 64) : (afunR PR (envOf eqsT (lpwT M L)) [13, 24] (tabOf [(0, pwB M L s a n r)]) 10 216 [kCv.enc s, kU.enc a, kU.enc n]).strict =
 .same (pwX M L s a n) (pwX M L s a n) (.leaf (kU.enc r)) := by cases s <;> kernel_rfl
theorem pw_codeOk : codeOk (envOf eqsT (lpwT lMul blI)) pwC = true := by kernel_rfl
theorem pw_start (s : Su) (a n : BitVec 64) : ∀ d : Int × BitVec 64, d = (IntKind.i64.wrap (blI n - 1), bitW true) -> -1 <= d.1 /\ d.1 <= 63 /\ sqB (fun u => lMul s u u) (fun u => lMul s u a) (bitU n) (d.1 + 1).toNat d.2 = pwR s a n := by
 rintro d rfl
 have hl := blI_le n
 have hw : IntKind.i64.wrap (blI n - 1) = blI n - 1 := wrap_id (n := blI n - 1) (by omega) (by omega)
 rw [hw]
 refine ⟨?_, ?_, ?_⟩
 . show -1 <= blI n - 1
   omega
 . show blI n - 1 <= 63
   omega
 . show sqB _ _ _ (blI n - 1 + 1).toNat _ = _
   rw [show (blI n - 1 + 1).toNat = bl n.toNat by have e : blI n = ((bl n.toNat : Nat) : Int) := rfl; omega]
   rfl
theorem pw_loop (s : Su) (a n : BitVec 64) {Fr0 : Fr} {ds : List Deferred} {Q : AExit -> XS -> Prop} (hK : Q .normal (pwI lMul blI s a n (-1, pwR s a n))) :
 Tri PR Fr0 ds 0 (.block 0 (.loop pwC)) (pwX lMul blI s a n) Q :=
 Tri.asU (pw_bit lMul blI s a n) <| Eq.subst (motive := fun y => Tri PR Fr0 ds 0 (.block 0 (.loop pwC)) y Q) (pw_head lMul blI s a n).symm <|
  blockLoop (m := 0) (envOf_ok eqsT_ok lpwT_ok) mixed (sym := [13, 24]) (tab := fun _ => none) (lf := 10) (k := pwK) (kx := pwK) (kr := pwK) (by decide) (by decide) (by decide) pw_codeOk (tabOk_none _)
  (pwI lMul blI s a n) (fun d => -1 <= d.1 /\ d.1 <= 63 /\ sqB (fun u => lMul s u u) (fun u => lMul s u a) (bitU n) (d.1 + 1).toNat d.2 = pwR s a n) (fun d => (d.1 + 1).toNat) _ (pw_start s a n _ rfl)
  (sqB_law (by decide) (fun u => lMul s u u) (fun u => lMul s u a) (bitU n) notNeg notNeg_ok _ (pwI lMul blI s a n) (pw_round lMul blI s a n) hK)
theorem pw_tab (s : Su) (a n : BitVec 64) : TabOk PR 0 (tabOf [(0, pwB lMul blI s a n (pwR s a n))]) (bodyOf PR 216) :=
 tabOk_one (by rw [(pwB_n lMul blI s a n (pwR s a n)).1]; decide) pw_blk fun Fr0 ds Q h => by
  obtain ⟨-, h2, h3⟩ := pwB_n lMul blI s a n (pwR s a n)
  rw [h3] at h
  rw [h2]
  exact pw_loop s a n h
theorem pw_ctx (s : Su) (a n : BitVec 64) : Ctx PR (envOf eqsT (lpwT lMul blI)) [13, 24] (tabOf [(0, pwB lMul blI s a n (pwR s a n))]) 10 216 :=
 ctx_of (envOf_ok eqsT_ok lpwT_ok) mixed (fn := Tryz.f216) (by kernel_rfl) (by kernel_rfl) (by kernel_rfl) (pw_tab s a n)
theorem pw_ok : CallOk PR 216 (fn3 kCv kU kU kU lPow) :=
 .inl ⟨entersB (by kernel_rfl), pure3X fun s a n => .of (pw_ctx s a n) (sameVal (B := kU) (by rw [<- pwR_eq]; exact pw_run lMul blI s a n (pwR s a n)))⟩
theorem lv_ctx : Ctx PR (envOf eqsT (lvT lPow)) [] (fun _ => none) 10 171 :=
 ctxB (envOf_ok eqsT_ok (TabPOk.cons pw_ok TabPOk.nil)) mixed (by kernel_rfl)
theorem lv_ok : CallOk PR 171 (fn2 kCv kU kU lInv) :=
 .inl ⟨entersB (by kernel_rfl), pure2 lv_ctx fun s x => leafVal (B := kU) (y := lInv s x) (lv_run lPow s x)⟩
structure RQ where
 mul : Op2
 add : Op2
 sub : Op2
 inv : Op1
 neg : Su -> Lp -> Lp
 slope : Su -> Lp -> Lp -> BitVec 64
def slT (t : RQ) : PureTab := [(119, fn3 kCv kU kU kU t.mul), (170, fn3 kCv kU kU kU t.add), (118, fn3 kCv kU kU kU t.sub), (171, fn2 kCv kU kU t.inv)]
def eqL (p q : Lp) : Bool := p.1 == q.1 && (p.2.1 == q.2.1 && (p.2.2 == q.2.2 && true))
def slG (t : RQ) (s : Su) (p q : Lp) : BitVec 64 := bif eqL p q then t.mul s (t.add s (t.add s (t.add s (t.mul s p.1 p.1) (t.mul s p.1 p.1)) (t.mul s p.1 p.1)) 1#64) (t.inv s (t.add s p.2.1 p.2.1)) else
 t.mul s (t.sub s q.2.1 p.2.1) (t.inv s (t.sub s q.1 p.1))
theorem sl_run (t : RQ) (s : Su) (p q : Lp) : valS (afunR PR (envOf eqsT (slT t)) [10] (fun _ => none) 10 117 [kCv.enc s, cLp.agg.enc p, cLp.agg.enc q]) = some (kU.val (slG t s p q)) := by cases s <;> kernel_rfl
def smT (t : RQ) : PureTab := [(119, fn3 kCv kU kU kU t.mul), (118, fn3 kCv kU kU kU t.sub), (91, fn2 kCv cLp.agg cLp.agg t.neg), (117, fn3 kCv cLp.agg cLp.agg kU t.slope)]
def smG (t : RQ) (s : Su) (p q : Lp) : Lp := bif p.2.2 then q else bif q.2.2 then p else bif eqL p (t.neg s q) then (0#64, 0#64, true) else
 (t.sub s (t.sub s (t.mul s (t.slope s p q) (t.slope s p q)) p.1) q.1,
  t.sub s (t.mul s (t.slope s p q) (t.sub s p.1 (t.sub s (t.sub s (t.mul s (t.slope s p q) (t.slope s p q)) p.1) q.1))) p.2.1, false)
theorem sm_run (t : RQ) (s : Su) (p q : Lp) : (afunR PR (envOf eqsT (smT t)) [10, 13, 19] (fun _ => none) 10 73 [kCv.enc s, cLp.agg.enc p, cLp.agg.enc q]).strict =
 .br p.2.2 (.leaf (cLp.agg.enc q)) (.br q.2.2 (.leaf (cLp.agg.enc p)) (.br (eqL p (t.neg s q)) (.leaf (lpL 0#64 0#64 true))
  (.leaf (lpL (t.sub s (t.sub s (t.mul s (t.slope s p q) (t.slope s p q)) p.1) q.1)
   (t.sub s (t.mul s (t.slope s p q) (t.sub s p.1 (t.sub s (t.sub s (t.mul s (t.slope s p q) (t.slope s p q)) p.1) q.1))) p.2.1) false)))) := by cases s <;> kernel_rfl
theorem sm_gives (t : RQ) (s : Su) (p q : Lp) : Gives (afunR PR (envOf eqsT (smT t)) [10, 13, 19] (fun _ => none) 10 73 [kCv.enc s, cLp.agg.enc p, cLp.agg.enc q]) (cLp.agg.val (smG t s p q)) :=
 givesOf (sm_run t s p q) (holds_br (B := cLp.agg) (holds_leaf (cLp.agg.h1 _)) (holds_br (B := cLp.agg) (holds_leaf (cLp.agg.h1 _)) (holds_br (B := cLp.agg) (holds_leaf (lpL_flat _ _ _)) (holds_leaf (lpL_flat _ _ _)))))
noncomputable def rq0 : RQ := ⟨lMul, lAdd, rSub, lInv, rNegP, rSlope⟩
theorem eqL_eq (p q : Lp) : eqL p q = eqLp p q := by
 unfold eqL eqLp
 cases p.1 == q.1 <;> cases p.2.1 == q.2.1 <;> cases p.2.2 == q.2.2 <;> rfl
theorem slG_eq (s : Su) (p q : Lp) : slG rq0 s p q = rSlope s p q := by
 unfold slG rSlope
 rw [eqL_eq]; rfl
theorem smG_eq (s : Su) (p q : Lp) : smG rq0 s p q = rSum s p q := by
 unfold smG rSum
 rw [eqL_eq]; rfl
theorem sl_ctx : Ctx PR (envOf eqsT (slT rq0)) [10] (fun _ => none) 10 117 :=
 ctxB (envOf_ok eqsT_ok (TabPOk.cons lm_ok (TabPOk.cons la_ok (TabPOk.cons ls_ok (TabPOk.cons lv_ok TabPOk.nil))))) mixed (by kernel_rfl)
theorem sl_ok : CallOk PR 117 (fn3 kCv cLp.agg cLp.agg kU rSlope) :=
 .inl ⟨entersB (by kernel_rfl), pure3 sl_ctx fun s p q => by rw [<- slG_eq]; exact givesV (sl_run rq0 s p q)⟩
theorem sm_ctx : Ctx PR (envOf eqsT (smT rq0)) [10, 13, 19] (fun _ => none) 10 73 :=
 ctxB (envOf_ok eqsT_ok (TabPOk.cons lm_ok (TabPOk.cons ls_ok (TabPOk.cons np_ok (TabPOk.cons sl_ok TabPOk.nil))))) mixed (by kernel_rfl)
theorem sm_ok : CallOk PR 73 (fn3 kCv cLp.agg cLp.agg cLp.agg rSum) :=
 .inl ⟨entersB (by kernel_rfl), pure3 sm_ctx fun s p q => by rw [<- smG_eq]; exact sm_gives rq0 s p q⟩
def ltmT (S : Su -> Lp -> Lp -> Lp) (L : BitVec 64 -> Int) : PureTab := [(73, fn3 kCv cLp.agg cLp.agg cLp.agg S), (142, fn1 kU (kInt .i64) L)]
theorem ltmT_ok : TabPOk PR (ltmT rSum blI) := TabPOk.cons sm_ok (TabPOk.cons len64_ok TabPOk.nil)
def tmK : Keep := ⟨[2, 3, 4, 6, 7, 8], [0, 1, 2, 4], 9⟩
@[irreducible] noncomputable def tmX (S : Su -> Lp -> Lp -> Lp) (L : BitVec 64 -> Int) (s : Su) (p : Lp) (n : BitVec 64) : XS := entryOf PR (envOf eqsT (ltmT S L)) [14, 25] (fun _ => none) 10 89 [kCv.enc s, cLp.agg.enc p, kU.enc n] [] 0 0 tmK
@[irreducible] noncomputable def tmI (S : Su -> Lp -> Lp -> Lp) (L : BitVec 64 -> Int) (s : Su) (p : Lp) (n : BitVec 64) (d : Int × Lp) : XS := ((tmX S L s p n).setT 8 (.v (.int .i64 d.1))).setB 4 (cLp.enc d.2)
@[irreducible] noncomputable def tmC : Code := roundOf PR 89 0
set_option maxRecDepth 1000000 in
theorem tm_round (S : Su -> Lp -> Lp -> Lp) (L : BitVec 64 -> Int) (s : Su) (p : Lp) (n : BitVec 64) (z : Int) (out : Lp) : Tree.but [2] 0 (roundT PR (envOf eqsT (ltmT S L)) [14, 25] (fun _ => none) 10 tmK tmK tmK tmC (tmI S L s p n (z, out))) =
 .br (decide (z >= 0))
  (.br (bitU n z)
   (.need (notNeg z) (.leaf (.normal, tmI S L s p n (IntKind.i64.wrap (z - 1), S s (S s out out) p))))
   (.need (notNeg z) (.leaf (.normal, tmI S L s p n (IntKind.i64.wrap (z - 1), S s out out)))))
  (.leaf (.exit 0, tmI S L s p n (z, out))) := by cases s <;> kernel_rfl
set_option maxRecDepth 1000000 in
theorem tm_head (S : Su -> Lp -> Lp -> Lp) (L : BitVec 64 -> Int) (s : Su) (p : Lp) (n : BitVec 64) : (tmX S L s p n).setB 4 (cLp.enc lp0) = tmI S L s p n (IntKind.i64.wrap (L n - 1), lp0) := by cases s <;> kernel_rfl
set_option maxRecDepth 1000000 in
theorem tm_cell (S : Su -> Lp -> Lp -> Lp) (L : BitVec 64 -> Int) (s : Su) (p : Lp) (n : BitVec 64) : (tmX S L s p n).s.h.get 4 = some ⟨true, 40, [.u 0#64, .u 0#64, .lit true]⟩ := by cases s <;> kernel_rfl
theorem tm_blk : blkAll 0 (bodyOf PR 89) = [.loop tmC] := by kernel_rfl
@[irreducible] noncomputable def tmB (S : Su -> Lp -> Lp -> Lp) (L : BitVec 64 -> Int) (s : Su) (p : Lp) (n : BitVec 64) (r : Lp) : BEnt := ⟨tmK.tm, tmK.ids, tmK.n, tmX S L s p n, .leaf (.normal, tmI S L s p n (-1, r))⟩
theorem tmB_n (S : Su -> Lp -> Lp -> Lp) (L : BitVec 64 -> Int) (s : Su) (p : Lp) (n : BitVec 64) (r : Lp) : (tmB S L s p n r).n = 9 /\ (tmB S L s p n r).pre = tmX S L s p n /\ (tmB S L s p n r).post = .leaf (.normal, tmI S L s p n (-1, r)) := by
 unfold tmB
 exact ⟨rfl, rfl, rfl⟩
set_option maxRecDepth 1000000 in
theorem tm_run (S : Su -> Lp -> Lp -> Lp) (L : BitVec 64 -> Int) (s : Su) (p : Lp) (n : BitVec 64) (r : Lp) : (afunR PR (envOf eqsT (ltmT S L)) [14, 25] (tabOf [(0, tmB S L s p n r)]) 10 89 [kCv.enc s, cLp.agg.enc p, kU.enc n]).strict =
 .same (tmX S L s p n) (tmX S L s p n) (.leaf (cLp.agg.enc r)) := by cases s <;> kernel_rfl
theorem tm_codeOk : codeOk (envOf eqsT (ltmT rSum blI)) tmC = true := by kernel_rfl
noncomputable def tmR (s : Su) (p : Lp) (n : BitVec 64) : Lp := sqB (fun u => rSum s u u) (fun u => rSum s u p) (bitU n) (bl n.toNat) lp0
theorem tm_start (s : Su) (p : Lp) (n : BitVec 64) : ∀ d : Int × Lp, d = (IntKind.i64.wrap (blI n - 1), lp0) -> -1 <= d.1 /\ d.1 <= 63 /\ sqB (fun u => rSum s u u) (fun u => rSum s u p) (bitU n) (d.1 + 1).toNat d.2 = tmR s p n := by
 rintro d rfl
 have hl := blI_le n
 have hw : IntKind.i64.wrap (blI n - 1) = blI n - 1 := wrap_id (n := blI n - 1) (by omega) (by omega)
 rw [hw]
 refine ⟨?_, ?_, ?_⟩
 . show -1 <= blI n - 1
   omega
 . show blI n - 1 <= 63
   omega
 . show sqB _ _ _ (blI n - 1 + 1).toNat _ = _
   rw [show (blI n - 1 + 1).toNat = bl n.toNat by have e : blI n = ((bl n.toNat : Nat) : Int) := rfl; omega]
   rfl
theorem tm_loop (s : Su) (p : Lp) (n : BitVec 64) {Fr0 : Fr} {ds : List Deferred} {Q : AExit -> XS -> Prop} (hK : Q .normal (tmI rSum blI s p n (-1, tmR s p n))) :
 Tri PR Fr0 ds 0 (.block 0 (.loop tmC)) (tmX rSum blI s p n) Q :=
 Tri.asC (cs := cLp.enc lp0) (tm_cell rSum blI s p n) rfl (fun ρ i a c x ha hc h => cells3 ha hc h) <| Eq.subst (motive := fun y => Tri PR Fr0 ds 0 (.block 0 (.loop tmC)) y Q) (tm_head rSum blI s p n).symm <|
  blockLoop (m := 0) (envOf_ok eqsT_ok ltmT_ok) mixed (sym := [14, 25]) (tab := fun _ => none) (lf := 10) (k := tmK) (kx := tmK) (kr := tmK) (by decide) (by decide) (by decide) tm_codeOk (tabOk_none _)
  (tmI rSum blI s p n) (fun d => -1 <= d.1 /\ d.1 <= 63 /\ sqB (fun u => rSum s u u) (fun u => rSum s u p) (bitU n) (d.1 + 1).toNat d.2 = tmR s p n) (fun d => (d.1 + 1).toNat) _ (tm_start s p n _ rfl)
  (sqB_law (by decide) (fun u => rSum s u u) (fun u => rSum s u p) (bitU n) notNeg notNeg_ok _ (tmI rSum blI s p n) (tm_round rSum blI s p n) hK)
theorem tm_tab (s : Su) (p : Lp) (n : BitVec 64) : TabOk PR 0 (tabOf [(0, tmB rSum blI s p n (tmR s p n))]) (bodyOf PR 89) :=
 tabOk_one (by rw [(tmB_n rSum blI s p n (tmR s p n)).1]; decide) tm_blk fun Fr0 ds Q h => by
  obtain ⟨-, h2, h3⟩ := tmB_n rSum blI s p n (tmR s p n)
  rw [h3] at h
  rw [h2]
  exact tm_loop s p n h
theorem tm_ctx (s : Su) (p : Lp) (n : BitVec 64) : Ctx PR (envOf eqsT (ltmT rSum blI)) [14, 25] (tabOf [(0, tmB rSum blI s p n (tmR s p n))]) 10 89 :=
 ctx_of (envOf_ok eqsT_ok ltmT_ok) mixed (fn := Tryz.f89) (by kernel_rfl) (by kernel_rfl) (by kernel_rfl) (tm_tab s p n)
theorem tm_ok : CallOk PR 89 (fn3 kCv cLp.agg kU cLp.agg tmR) :=
 .inl ⟨entersB (by kernel_rfl), pure3X fun s p n => .of (tm_ctx s p n) (sameVal (B := cLp.agg) (by exact tm_run rSum blI s p n (tmR s p n)))⟩
noncomputable def rinF (s : Su) (p : Lp) : Bool := bif onF s p then (tmR s p (suR s)).2.2 else false
def linT (O : Su -> Lp -> Bool) (T : Su -> Lp -> BitVec 64 -> Lp) : PureTab := [(139, fn2 kCv cLp.agg kBool O), (89, fn3 kCv cLp.agg kU cLp.agg T)]
theorem lin_run (O : Su -> Lp -> Bool) (T : Su -> Lp -> BitVec 64 -> Lp) (s : Su) (p : Lp) : (afunR PR (envOf eqsT (linT O T)) [8] (fun _ => none) 10 87 [kCv.enc s, cLp.agg.enc p]).strict =
 .br (O s p) (.leaf (.v (.bool (T s p (suR s)).2.2))) (.leaf (.lit false)) := by cases s <;> kernel_rfl
theorem lin_ctx : Ctx PR (envOf eqsT (linT onF tmR)) [8] (fun _ => none) 10 87 :=
 ctxB (envOf_ok eqsT_ok (TabPOk.cons lo_ok (TabPOk.cons tm_ok TabPOk.nil))) mixed (by kernel_rfl)
theorem lin_ok : CallOk PR 87 (fn2 kCv cLp.agg kBool rinF) :=
 .inl ⟨entersB (by kernel_rfl), pure2 lin_ctx fun s p => givesOf (lin_run onF tmR s p) (holds_br (B := kBool) (holds_leaf rfl) (holds_leaf rfl))⟩
end Go.Rq.Rf
